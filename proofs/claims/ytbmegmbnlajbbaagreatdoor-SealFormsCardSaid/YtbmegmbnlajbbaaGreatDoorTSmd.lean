/- Part 4 of the texts below the card, joined. -/
import Derived.Test.YtbmegmbnlajbbaaGreatDoorTSma
import Derived.DeepKeys3
import Derived.Maps.RangeRun
import Derived.Laws.BytesString
import Derived.Lib.BytesEntry
import Derived.Lib.Bytealg
import Derived.Laws.Externs
import Derived.Shelf.SlSortCmp.WholeK
import Derived.Shelf.SlSortCmp.NoneTotal
import Derived.Great.BuildSlice
import Derived.Sort.LotA
import Derived.Shelf.SlSortCmp.Insertion
import Derived.Laws.Strings
import Derived.Test.YtbmegmbnlajbbaaGreatDoorTSmc
import Derived.Lib.Builder
import Derived.Lib.MakeNoZero
import Derived.Lib.UnsafeStr
namespace Go.Fw
open Go
abbrev Heap:=Array Obj
@[simp] theorem xq {a:Addr} {K:Addr→Prop}:zx (some a) K=K a:=rfl
theorem vw {b:Bool} {A B:Prop} (h:b=true) (hA:A):xg b A B:=⟨fun _=>hA,fun h'=>(by rw [h] at h';cases h')⟩
theorem jk {b:Bool} {A B:Prop} (h:b=false) (hB:B):xg b A B:=⟨fun h'=>(by rw [h] at h';cases h'),fun _=>hB⟩
theorem zq {p:Prop} [Decidable p] {A B:Prop} (hA:p→A) (hB:¬ p→B):xg (decide p) A B:=⟨fun h=>hA (of_decide_eq_true h),fun h=>hB (of_decide_eq_false h)⟩
theorem zdq {p:Prop} {b:Bool} {A B:Prop} (h:b=true ↔ p) (hA:p→A) (hB:¬ p→B):xg b A B :=
 ⟨fun h'=>hA (h.1 h'),fun h'=>hB fun hp=>by rw [h.2 hp] at h';cases h'⟩
theorem za5 {a b:Int} {A B:Prop} (hA:a=b→A) (hB:a ≠ b→B):xg (a == b) A B:=zdq (by simp) hA hB
theorem zam {a b:Int} {A B:Prop} (hA:a ≠ b→A) (hB:a=b→B):xg (a != b) A B:=zdq (p:=a ≠ b) (by simp) hA fun h=>hB (by omega)
theorem wrap_i64 {n:Int} (h1:-9223372036854775808≤n) (h2:n≤9223372036854775807):IntKind.i64.wrap n=n:=by
 simp only [IntKind.wrap,IntKind.bits,IntKind.signed]
 have e:(2:Int) ^ 64=18446744073709551616:=by decide
 have e':(2:Int) ^ (64 - 1)=9223372036854775808:=by decide
 simp only [e,e',Bool.true_and]
 split
 ·rename_i h;simp at h;omega
 ·rename_i h;simp at h;omega
theorem wrap_u64 {n:Int} (h1:0≤n) (h2:n < 18446744073709551616):IntKind.u64.wrap n=n:=by
 simp only [IntKind.wrap,IntKind.bits,IntKind.signed]
 have e:(2:Int) ^ 64=18446744073709551616:=by decide
 simp only [e,Bool.false_and,Bool.false_eq_true,if_false]
 omega
theorem qnu {a b:Int} {K:Int→Prop} (h1:-9223372036854775808≤a+b) (h2:a+b≤9223372036854775807) (hK:K (a+b)):za7 .i64 a b K:=⟨_,(wrap_i64 h1 h2).symm,hK⟩
theorem qog {a b:Int} {K:Int→Prop} (h1:-9223372036854775808≤a - b) (h2:a - b≤9223372036854775807) (hK:K (a - b)):zl4 .i64 a b K:=⟨_,(wrap_i64 h1 h2).symm,hK⟩
theorem qov {a b:Int} {K:Int→Prop} (h1:-9223372036854775808≤a * b) (h2:a * b≤9223372036854775807) (hK:K (a * b)):zy3 .i64 a b K:=⟨_,(wrap_i64 h1 h2).symm,hK⟩
theorem xk {a b:Int} {K:Int→Prop} (c:Int) (hc:a+b=c) (h1:-9223372036854775808≤c) (h2:c≤9223372036854775807) (hK:K c):za7 .i64 a b K:=by subst hc;exact qnu h1 h2 hK
theorem zbo {a b:Int} {K:Int→Prop} (c:Int) (hc:a - b=c) (h1:-9223372036854775808≤c) (h2:c≤9223372036854775807) (hK:K c):zl4 .i64 a b K:=by subst hc;exact qog h1 h2 hK
theorem zff {a b:Int} {K:Int→Prop} (c:Int) (hc:a * b=c) (h1:-9223372036854775808≤c) (h2:c≤9223372036854775807) (hK:K c):zy3 .i64 a b K:=by subst hc;exact qov h1 h2 hK
theorem zjz {a:Int} {K:Int→Prop} (h1:0≤a) (h2:a < 18446744073709551616) (hK:K a):cvI .u64 a K:=⟨_,(wrap_u64 h1 h2).symm,hK⟩
theorem zqc {a:Int} {K:Int→Prop} (h1:-9223372036854775808≤a) (h2:a≤9223372036854775807) (hK:K a):cvI .i64 a K:=⟨_,(wrap_i64 h1 h2).symm,hK⟩
theorem zgg {n:Nat} (x:BitVec n):BitVec.ofInt n (x.toNat:Int)=x:=by
 apply BitVec.eq_of_toNat_eq
 simp
theorem zh2 (m:Nat):IntKind.u32.wrap (m:Int)=((m % 4294967296:Nat):Int):=by
 simp only [IntKind.wrap,IntKind.bits,IntKind.signed]
 have e:(2:Int) ^ 32=4294967296:=by decide
 simp only [e,Bool.false_and,Bool.false_eq_true,if_false]
 omega
theorem qid (m:Nat):IntKind.u64.wrap (m:Int)=((m % 18446744073709551616:Nat):Int):=by
 simp only [IntKind.wrap,IntKind.bits,IntKind.signed]
 have e:(2:Int) ^ 64=18446744073709551616:=by decide
 simp only [e,Bool.false_and,Bool.false_eq_true,if_false]
 omega
theorem zlc (m:Nat):IntKind.u8.wrap (m:Int)=((m % 256:Nat):Int):=by
 simp only [IntKind.wrap,IntKind.bits,IntKind.signed]
 have e:(2:Int) ^ 8=256:=by decide
 simp only [e,Bool.false_and,Bool.false_eq_true,if_false]
 omega
section w32
variable {K:Int→Prop} (x y:BitVec 32)
theorem z19 (hK:K ((x+y).toNat:Int)):za7 .u32 (x.toNat:Int) (y.toNat:Int) K:=by
 refine ⟨_,?_,hK⟩
 rw [← Int.natCast_add,zh2]
 simp [BitVec.toNat_add]
theorem qld (hK:K ((x &&& y).toNat:Int)):qeq .u32 (x.toNat:Int) (y.toNat:Int) K:=by
 refine ⟨_,?_,hK⟩
 change _=IntKind.u32.wrap ((BitVec.ofInt 32 (x.toNat:Int) &&& BitVec.ofInt 32 (y.toNat:Int)).toNat:Int)
 rw [zgg,zgg,zh2,Nat.mod_eq_of_lt (BitVec.isLt _)]
theorem orW (hK:K ((x ||| y).toNat:Int)):orI .u32 (x.toNat:Int) (y.toNat:Int) K:=by
 refine ⟨_,?_,hK⟩
 change _=IntKind.u32.wrap ((BitVec.ofInt 32 (x.toNat:Int) ||| BitVec.ofInt 32 (y.toNat:Int)).toNat:Int)
 rw [zgg,zgg,zh2,Nat.mod_eq_of_lt (BitVec.isLt _)]
theorem z2a (hK:K ((x ^^^ y).toNat:Int)):zt9 .u32 (x.toNat:Int) (y.toNat:Int) K:=by
 refine ⟨_,?_,hK⟩
 change _=IntKind.u32.wrap ((BitVec.ofInt 32 (x.toNat:Int) ^^^ BitVec.ofInt 32 (y.toNat:Int)).toNat:Int)
 rw [zgg,zgg,zh2,Nat.mod_eq_of_lt (BitVec.isLt _)]
theorem qgm (hK:K ((~~~ x).toNat:Int)):zt9 .u32 (IntKind.max .u32) (x.toNat:Int) K:=by
 refine ⟨_,?_,hK⟩
 change _=IntKind.u32.wrap ((BitVec.ofInt 32 (IntKind.max .u32) ^^^ BitVec.ofInt 32 (x.toNat:Int)).toNat:Int)
 rw [zgg,zh2,Nat.mod_eq_of_lt (BitVec.isLt _)]
 have:BitVec.ofInt 32 (IntKind.max .u32)=BitVec.allOnes 32:=by decide
 rw [this,BitVec.allOnes_xor]
theorem qmv (hK:K ((~~~ x).toNat:Int)):zt9 .u32 4294967295 (x.toNat:Int) K:=qgm x hK
theorem qo7 {i:Int} (n:Nat) (hi:i=(n:Int)) (hn:n≤32) (hK:K ((x <<< n).toNat:Int)):qka .u32 (x.toNat:Int) i K:=by
 subst hi
 refine ⟨by omega,_,?_,hK⟩
 have h1:min (n:Int).toNat IntKind.u32.bits=n:=by simp [IntKind.bits];omega
 rw [h1]
 have h2:((x.toNat:Int) * 2 ^ n)=((x.toNat * 2 ^ n:Nat):Int):=by simp
 rw [h2,zh2]
 simp [BitVec.toNat_shiftLeft,Nat.shiftLeft_eq]
theorem qlh {i:Int} (n:Nat) (hi:i=(n:Int)) (hn:n≤32) (hK:K ((x >>> n).toNat:Int)):z9b .u32 (x.toNat:Int) i K:=by
 subst hi
 refine ⟨by omega,_,?_,hK⟩
 have h1:min (n:Int).toNat IntKind.u32.bits=n:=by simp [IntKind.bits];omega
 rw [h1]
 have h2:(2:Int) ^ n=((2 ^ n:Nat):Int):=by simp
 rw [h2,BitVec.toNat_ushiftRight,Nat.shiftRight_eq_div_pow,Int.fdiv_eq_ediv_of_nonneg _ (Int.natCast_nonneg _)]
 rfl
end w32
theorem qqt {i:Int} {m:Nat} (n:Nat) (hi:i=(n:Int)) (hn:n≤64) {K:Int→Prop} (hK:K ((m / 2 ^ n:Nat):Int)):z9b .u64 (m:Int) i K:=by
 subst hi
 refine ⟨by omega,_,?_,hK⟩
 have h1:min (n:Int).toNat IntKind.u64.bits=n:=by simp [IntKind.bits];omega
 rw [h1]
 have h2:(2:Int) ^ n=((2 ^ n:Nat):Int):=by simp
 rw [h2,Int.fdiv_eq_ediv_of_nonneg _ (Int.natCast_nonneg _)]
 rfl
theorem cv8 {m:Nat} {K:Int→Prop} (hK:K ((UInt8.ofNat m).toNat:Int)):cvI .u8 (m:Int) K:=by
 refine ⟨_,?_,hK⟩
 rw [zlc]
 simp
theorem qnj {a b:Int} {K:Int→Prop} (c:Int) (hc:a * b=c) (h1:0≤c) (h2:c < 18446744073709551616) (hK:K c):zy3 .u64 a b K:=by
 subst hc
 exact ⟨_,(wrap_u64 h1 h2).symm,hK⟩
def b32 (b:UInt8):BitVec 32:=BitVec.ofNat 32 b.toNat
theorem cvB {b:UInt8} {K:Int→Prop} (hK:K ((b32 b).toNat:Int)):cvI .u32 (b.toNat:Int) K:=by
 refine ⟨_,?_,hK⟩
 rw [zh2]
 simp [b32]
def lo8 (x:BitVec 32):UInt8:=UInt8.ofNat x.toNat
theorem cvL (x:BitVec 32) {K:Int→Prop} (hK:K ((lo8 x).toNat:Int)):cvI .u8 (x.toNat:Int) K:=by
 refine ⟨_,?_,hK⟩
 rw [zlc]
 simp [lo8]
def Bytes (c:Array Value) (o:Nat) (f:Nat→UInt8) (n:Nat):Prop:=∀ i,i < n→c[o+i]?=some (.int .u8 ((f i).toNat:Int))
def Words (c:Array Value) (o:Nat) (f:Nat→BitVec 32) (n:Nat):Prop:=∀ i,i < n→c[o+i]?=some (.int .u32 ((f i).toNat:Int))
theorem Words.at {c:Array Value} {f:Nat→BitVec 32} {n:Nat} (h:Words c 0 f n) (i:Nat) (hi:i < n):c[i]?=some (.int .u32 ((f i).toNat:Int)):=by simpa using h i hi
theorem Words.snoc {c:Array Value} {f:Nat→BitVec 32} {n:Nat} (h:Words c 0 f n) (hn:n < c.size) {x:BitVec 32} (hx:x=f n):Words (c.setIfInBounds n (.int .u32 (x.toNat:Int))) 0 f (n+1):=by
 intro i hi
 subst hx
 by_cases e:i=n
 ·subst e;simp [hn]
 ·rw [Array.getElem?_setIfInBounds_ne (by omega)];exact h i (by omega)
theorem Bytes.at {c:Array Value} {f:Nat→UInt8} {n:Nat} (h:Bytes c 0 f n) (i:Nat) (hi:i < n):c[i]?=some (.int .u8 ((f i).toNat:Int)):=by simpa using h i hi
theorem Bytes.snoc {c:Array Value} {f:Nat→UInt8} {n:Nat} (h:Bytes c 0 f n) (hn:n < c.size) {x:UInt8} (hx:x=f n):Bytes (c.setIfInBounds n (.int .u8 (x.toNat:Int))) 0 f (n+1):=by
 intro i hi
 subst hx
 by_cases e:i=n
 ·subst e;simp [hn]
 ·rw [Array.getElem?_setIfInBounds_ne (by omega)];exact h i (by omega)
def Ext (M:List Nat) (H H':Heap):Prop:=H.size≤H'.size∧∀ b,b < H.size→b ∉ M→H'[b]?=H[b]?
theorem Ext.refl (M:List Nat) (H:Heap):Ext M H H:=⟨Nat.le_refl _,fun _ _ _=>rfl⟩
theorem Ext.trans {M:List Nat} {H H' H'':Heap} (h:Ext M H H') (h':Ext M H' H''):Ext M H H'' :=
 ⟨Nat.le_trans h.1 h'.1,fun b hb hn=>(h'.2 b (Nat.lt_of_lt_of_le hb h.1) hn).trans (h.2 b hb hn)⟩
theorem Ext.mono {M M':List Nat} {H H':Heap} (hm:∀ b,b ∈ M→b ∈ M') (h:Ext M H H'):Ext M' H H':=⟨h.1,fun b hb hn=>h.2 b hb fun hm'=>hn (hm b hm')⟩
theorem Ext.own {M M':List Nat} {H H' H'':Heap} (h:Ext M H H') (h':Ext M' H' H'') (hm:∀ b,b ∈ M'→b < H.size→b ∈ M):Ext M H H'' :=
 ⟨Nat.le_trans h.1 h'.1,fun b hb hn=>(h'.2 b (Nat.lt_of_lt_of_le hb h.1) fun hm'=>hn (hm b hm' hb)).trans (h.2 b hb hn)⟩
theorem Ext.push {M:List Nat} {H:Heap} (o:Obj):Ext M H (H.push o):=⟨by simp,fun b hb _=>by rw [Array.getElem?_push_lt hb,Array.getElem?_eq_getElem hb]⟩
theorem Ext.get {M:List Nat} {H H':Heap} {b:Nat} {o:Obj} (h:Ext M H H') (hb:H[b]?=some o) (hn:b ∉ M):H'[b]?=some o:=by
 rw [h.2 b (Array.getElem?_eq_some_iff.1 hb).1 hn,hb]
theorem lt_of_get {H:Heap} {b:Nat} {o:Obj} (hb:H[b]?=some o):b < H.size:=(Array.getElem?_eq_some_iff.1 hb).1
theorem zo {H:Heap} {o:Obj}:(H.push o)[H.size]?=some o:=by simp
theorem zet {H:Heap} {o x:Obj} {b:Nat} (h:H[b]?=some x):(H.push o)[b]?=some x:=by
 rw [Array.getElem?_push_lt (lt_of_get h),← h,Array.getElem?_eq_getElem (lt_of_get h)]
theorem qp {H:Heap} {o x:Obj} {b:Nat} (h:H[b]?=some x):(H.setIfInBounds b o)[b]?=some o:=by
 simp [lt_of_get h]
theorem zid {H:Heap} {o x:Obj} {b c:Nat} (h:H[c]?=some x) (hne:c ≠ b):(H.setIfInBounds b o)[c]?=some x:=by
 rw [Array.getElem?_setIfInBounds_ne (Ne.symm hne),h]
theorem Ext.set {M:List Nat} {H:Heap} {b:Nat} (o:Obj) (hb:b ∈ M):Ext M H (H.setIfInBounds b o) :=
 ⟨by simp,fun c _ hn=>by rw [Array.getElem?_setIfInBounds_ne];intro e;subst e;exact hn hb⟩
theorem Ext.set_own {M:List Nat} {H H':Heap} {b:Nat} {o:Obj} (h:Ext M H H') (hb:H.size≤b ∨ b ∈ M):Ext M H (H'.setIfInBounds b o):=by
 refine ⟨by simp;exact h.1,fun c hc hn=>?_⟩
 rw [Array.getElem?_setIfInBounds_ne]
 ·exact h.2 c hc hn
 ·intro e
  subst e
  rcases hb with hb | hb
  ·omega
  ·exact hn hb
theorem Ext.push_own {M:List Nat} {H H':Heap} {o:Obj} (h:Ext M H H'):Ext M H (H'.push o):=h.trans (.push o)
section heap
variable {w:World} {H:Heap}
theorem z5a (hw:w.heap=H) {b o:Nat} {c:Array Value} {T:TypeId} {fr:Nat × Nat} (hb:H[b]?=some (.cells c T fr)):w.cell? ⟨b,o,none⟩=c[o]?:=by
 unfold World.cell?
 rw [hw]
 simp only [hb]
 simp
theorem jg {s:Sh} {b o:Nat} {c:Array Value} {T:TypeId} {fr:Nat × Nat} {K:s.T→Prop} {t:s.T} (hw:w.heap=H) (hb:H[b]?=some (.cells c T fr)) (hc:c[o]?=some (s.val t)) (hK:K t) :
  ld s ⟨b,o,none⟩ w K:=⟨t,by rw [z5a hw hb,hc],hK⟩
theorem jq {K:World→Prop} (hw:w.heap=H) (hK:∀ w',w'.heap=H→K w'):zbd w K:=by
 rintro w' rfl
 exact hK _ hw
theorem jw {c:Array Value} {T:TypeId} {K:Nat→World→Prop} (hw:w.heap=H) (hK:∀ w',w'.heap=H.push (.cells c T)→K H.size w'):zbj c T w K:=by
 rintro b w' ⟨rfl,rfl⟩
 rw [hw]
 exact hK _ (by simp)
theorem qb8 {b o:Nat} {c:Array Value} {T:TypeId} {fr:Nat × Nat} {v:Value} (hw:w.heap=H) (hb:H[b]?=some (.cells c T fr)) :
  (w.setCell ⟨b,o,none⟩ v).heap=H.setIfInBounds b (.cells (c.setIfInBounds o v) T fr):=by
 unfold World.setCell
 simp only [hw]
 apply Array.ext_getElem?
 intro i
 rw [Array.getElem?_modify]
 by_cases h:b=i
 ·subst h
  rw [if_pos rfl,hb,qp hb]
  simp
 ·rw [if_neg h,Array.getElem?_setIfInBounds_ne h]
theorem z7i {b o:Nat} {c:Array Value} {T:TypeId} (hw:w.heap=H) (hb:H[b]?=some (.cells c T (0,0))):w.frozen? ⟨b,o,none⟩=false:=by
 unfold World.frozen?
 rw [hw]
 simp only [hb]
 simp
theorem zbp {b o:Nat} {c:Array Value} {T:TypeId} {v:Value} {K:World→Prop} (hw:w.heap=H) (hb:H[b]?=some (.cells c T (0,0))) (ho:o < c.size)
  (hK:∀ w',w'.heap=H.setIfInBounds b (.cells (c.setIfInBounds o v) T (0,0))→K w'):stC ⟨b,o,none⟩ v w K:=by
 refine ⟨⟨c[o],by rw [z5a hw hb];simp [ho]⟩,z7i hw hb,?_⟩
 rintro w' rfl
 exact hK _ (qb8 hw hb)
theorem jv {b o n:Nat}:Addr.add ⟨b,o,none⟩ n=⟨b,o+n,none⟩:=by
 unfold Addr.add
 split
 ·rename_i h;subst h;rfl
 ·rfl
theorem qrq {b o len size:Nat} {i:Int} {K:Addr→Prop} (k:Nat) (hi:i=(k:Int)) (hk:k < len) (hK:K ⟨b,o+k * size,none⟩):ixR ⟨b,o,none⟩ len size i K:=by
 subst hi
 refine ⟨by omega,by omega,?_⟩
 rw [jv]
 exact hK
theorem qmq {b o len size:Nat} {i:Int} {K:Addr→Prop} (k:Nat) (hi:i=(k:Int)) (hk:k < len) (hK:K ⟨b,o+k * size,none⟩):ixS (some ⟨b,o,none⟩) len size i K:=by
 subst hi
 refine ⟨_,rfl,by omega,by omega,?_⟩
 rw [jv]
 exact hK
theorem zqm {b o len:Nat} {i:Int} {K:Addr→Prop} (k:Nat) (hi:i=(k:Int)) (hk:k < len) (hK:K ⟨b,o+k,none⟩):ixS (some ⟨b,o,none⟩) len 1 i K:=qmq k hi hk (by simpa using hK)
theorem ze4 {b len:Nat} {i:Int} {K:Addr→Prop} (k:Nat) (hi:i=(k:Int)) (hk:k < len) (hK:K ⟨b,k,none⟩):ixR ⟨b,0,none⟩ len 1 i K:=qrq k hi hk (by simpa using hK)
end heap
theorem zun {P:Program} {w:World} {H:Heap} {b o n:Nat} {c:Array Value} {T:TypeId} {fr:Nat × Nat} (hw:w.heap=H) (hb:H[b]?=some (.cells c T fr)) (hn:o+n≤c.size) :
  (loadCells ⟨b,o,none⟩ n).run P w=.ok (c.extract o (o+n)) w:=by
 have key:∀ (m i:Nat) (acc:Array Value),o+i+m≤c.size→(loadCellsFrom ⟨b,o,none⟩ i m acc).run P w=.ok (acc++c.extract (o+i) (o+i+m)) w:=by
  intro m
  induction m with
  | zero=>intro i acc _;simp [loadCellsFrom];omega
  | succ m ih =>
   intro i acc h
   have hc:w.cell? (Addr.add ⟨b,o,none⟩ i)=some c[o+i]:=by
    rw [jv,z5a hw hb,Array.getElem?_eq_getElem (by omega)]
   simp only [loadCellsFrom,Sem.run_bind,run_load,hc,Result.andThen_ok]
   rw [ih (i+1) _ (by omega)]
   congr 1
   apply Array.ext'
   simp only [Array.toList_append,Array.toList_push,Array.toList_extract,List.extract_eq_take_drop,List.append_assoc]
   congr 1
   have e1:o+i+(m+1) - (o+i)=m+1:=by omega
   have e2:o+(i+1)+m - (o+(i+1))=m:=by omega
   rw [e1,e2]
   have hlt:o+i < c.toList.length:=by simp;omega
   rw [List.drop_eq_getElem_cons hlt]
   simp [List.take_succ_cons,Nat.add_assoc]
 have:=key n 0 #[] (by omega)
 simpa [loadCells] using this
theorem zmy {P:Program} {w:World} {H:Heap} {b o n:Nat} {c:Array Value} {T:TypeId} {fr:Nat × Nat} {K:Array Value→Prop} (hw:w.heap=H) (hb:H[b]?=some (.cells c T fr)) (hn:o+n≤c.size)
  (hK:K (c.extract o (o+n))):ldA P n ⟨b,o,none⟩ w K:=⟨_,zun hw hb hn,hK⟩
theorem je {P:Program} {w:World} {H:Heap} {b n:Nat} {c:Array Value} {T:TypeId} {fr:Nat × Nat} {K:Array Value→Prop} (hw:w.heap=H) (hb:H[b]?=some (.cells c T fr)) (hn:c.size=n)
  (hK:K c):ldA P n ⟨b,0,none⟩ w K:=zmy hw hb (by omega) (by subst hn;simpa using hK)
def zc2 (vs:List Value):Prop:=∀ v ∈ vs,v.oneCell'=true
def setCells (c:Array Value) (o:Nat):List Value→Array Value
 | []=>c
 | v :: r=>setCells (c.setIfInBounds o v) (o+1) r
@[simp] theorem size_setCells {vs:List Value}:∀ {c:Array Value} {o:Nat},(setCells c o vs).size=c.size:=by
 induction vs with
 | nil=>intro c o;rfl
 | cons v r ih=>intro c o;simp [setCells,ih]
theorem zg2 {vs:List Value}:∀ {c:Array Value} {o i:Nat},o+vs.length≤c.size→(setCells c o vs)[i]?=if o≤i∧i < o+vs.length then vs[i - o]? else c[i]?:=by
 induction vs with
 | nil =>
  intro c o i h
  simp only [setCells,List.length_nil,Nat.add_zero]
  rw [if_neg (by omega)]
 | cons v r ih =>
  intro c o i h
  simp only [List.length_cons] at h
  simp only [setCells,List.length_cons]
  rw [ih (by simp;omega)]
  by_cases h1:i=o
  ·subst h1
   rw [if_neg (by omega),if_pos (by omega)]
   have:i < c.size:=by omega
   simp [this]
  ·by_cases h2:o+1≤i∧i < o+1+r.length
   ·rw [if_pos h2,if_pos (by omega)]
    have:i - o=(i - (o+1))+1:=by omega
    rw [this]
    simp
   ·rw [if_neg h2,if_neg (by omega),Array.getElem?_setIfInBounds_ne (by omega)]
theorem zax {vs:List Value} {c:Array Value} (h:vs.length=c.size):setCells c 0 vs=vs.toArray:=by
 apply Array.ext_getElem?
 intro i
 rw [zg2 (by omega)]
 by_cases hi:i < vs.length
 ·rw [if_pos (by omega)];simp
 ·rw [if_neg (by omega)]
  rw [Array.getElem?_eq_none (by omega),Array.getElem?_eq_none (by simp;omega)]
theorem set_set {H:Heap} {b:Nat} {x y:Obj}:(H.setIfInBounds b x).setIfInBounds b y=H.setIfInBounds b y:=by
 apply Array.ext_getElem?
 intro i
 by_cases h:b=i
 ·subst h
  by_cases hb:b < H.size
  ·simp [hb]
  ·rw [Array.getElem?_eq_none (by simp;omega),Array.getElem?_eq_none (by simp;omega)]
 ·rw [Array.getElem?_setIfInBounds_ne h,Array.getElem?_setIfInBounds_ne h,Array.getElem?_setIfInBounds_ne h]
theorem zqo {P:Program} {b:Nat} {T:TypeId}:∀ (vs:List Value) (w:World) (H:Heap) (c:Array Value) (o i:Nat),zc2 vs→w.heap=H→H[b]?=some (.cells c T (0,0))→o+i+vs.length≤c.size →
  ∃ w',(storeCells ⟨b,o,none⟩ vs i).run P w=.ok () w'∧Calm w w'∧w'.heap=H.setIfInBounds b (.cells (setCells c (o+i) vs) T (0,0)):=by
 intro vs
 induction vs with
 | nil =>
  intro w H c o i _ hw hb _
  refine ⟨w,by simp [storeCells],.refl w,?_⟩
  simp only [setCells]
  rw [hw]
  apply Array.ext_getElem?
  intro j
  by_cases hj:b=j
  ·subst hj;rw [qp hb,hb]
  ·rw [Array.getElem?_setIfInBounds_ne hj]
 | cons v r ih =>
  intro w H c o i h1 hw hb hn
  simp only [List.length_cons] at hn
  have hv:=h1 v (by simp)
  have hc:w.cell? (Addr.add ⟨b,o,none⟩ i)=some c[o+i]:=by
   rw [jv,z5a hw hb,Array.getElem?_eq_getElem (by omega)]
  have hf:w.frozen? (Addr.add ⟨b,o,none⟩ i)=false:=by rw [jv];exact z7i hw hb
  obtain ⟨w',h2,h4,h3⟩:=ih (w.setCell (Addr.add ⟨b,o,none⟩ i) v) _ (c.setIfInBounds (o+i) v) o (i+1) (fun x hx=>h1 x (by simp [hx])) (by rw [jv];exact qb8 hw hb) (qp hb) (by simp;omega)
  refine ⟨w',?_,h4,?_⟩
  ·simp only [storeCells,Sem.run_bind,run_store P w _ v .plain hv,hc,hf,Bool.false_eq_true,if_false,Result.andThen_ok,h2]
  ·rw [h3,set_set]
   simp [setCells,Nat.add_assoc]
theorem zbw {P:Program} {w:World} {H:Heap} {b o:Nat} {T t:TypeId} {c:Array Value} {v:Value} {K:World→Prop} (hs:P.cellsOf t=v.cells.size) (hs0:v.cells.size ≠ 0) (h1:zc2 v.cells.toList) (hw:w.heap=H)
  (hb:H[b]?=some (.cells c T (0,0))) (hn:o+v.cells.size≤c.size) (hK:∀ w',w'.heap=H.setIfInBounds b (.cells (setCells c o v.cells.toList) T (0,0))→K w'):zbs P (storeVar t ⟨b,o,none⟩ v) w K:=by
 obtain ⟨w',h2,h4,h3⟩:=zqo (P:=P) v.cells.toList w H c o 0 h1 hw hb (by simpa using hn)
 refine ⟨w',?_,h4,hK w' (by simpa using h3)⟩
 have h0:(sizeOf t).run P w=.ok v.cells.size w:=by rw [zjg (by omega),hs]
 simp only [storeVar,Sem.run_bind,h0,Result.andThen_ok,ne_eq,not_true_eq_false,if_false,h2]
def W32 (s:Nat→BitVec 32) (n:Nat):Array Value:=((List.range n).map fun i=>Value.int .u32 ((s i).toNat:Int)).toArray
def B8 (f:Nat→UInt8) (n:Nat):Array Value:=((List.range n).map fun i=>Value.int .u8 ((f i).toNat:Int)).toArray
@[simp] theorem qq1 {s:Nat→BitVec 32} {n:Nat}:(W32 s n).size=n:=by simp [W32]
@[simp] theorem qrb {f:Nat→UInt8} {n:Nat}:(B8 f n).size=n:=by simp [B8]
theorem znw {s:Nat→BitVec 32} {n:Nat}:Words (W32 s n) 0 s n:=by
 intro i hi
 simp [W32,hi]
theorem qlr {f:Nat→UInt8} {n:Nat}:Bytes (B8 f n) 0 f n:=by
 intro i hi
 simp [B8,hi]
theorem zzt {s:Nat→BitVec 32} {n:Nat}:zc2 (W32 s n).toList:=by
 intro v hv
 simp only [W32,List.mem_map] at hv
 obtain ⟨i,_,rfl⟩:=hv
 rfl
theorem qnb {f:Nat→UInt8} {n:Nat}:zc2 (B8 f n).toList:=by
 intro v hv
 simp only [B8,List.mem_map] at hv
 obtain ⟨i,_,rfl⟩:=hv
 rfl
theorem Words.extract {c:Array Value} {s:Nat→BitVec 32} {o n:Nat} (h:Words c o s n) (hn:o+n≤c.size):c.extract o (o+n)=W32 s n:=by
 apply Array.ext_getElem?
 intro i
 by_cases hi:i < n
 ·rw [Array.getElem?_extract,if_pos (by omega),h i hi,znw.at i hi]
 ·rw [Array.getElem?_eq_none (by simp;omega),Array.getElem?_eq_none (by simp;omega)]
theorem Bytes.extract {c:Array Value} {f:Nat→UInt8} {o n:Nat} (h:Bytes c o f n) (hn:o+n≤c.size):c.extract o (o+n)=B8 f n:=by
 apply Array.ext_getElem?
 intro i
 by_cases hi:i < n
 ·rw [Array.getElem?_extract,if_pos (by omega),h i hi,qlr.at i hi]
 ·rw [Array.getElem?_eq_none (by simp;omega),Array.getElem?_eq_none (by simp;omega)]
theorem joinP_of {σ:Type} {m:(σ→World→Prop)→Prop} {k:σ→World→Prop} (J:σ→World→Prop) (h:m J) (hk:∀ s w,J s w→k s w):joinP σ m k:=⟨J,h,hk⟩
theorem zab {σ:Type} {m:(σ→World→Prop)→Prop} {k:σ→World→Prop} (h:m k):joinP σ m k:=⟨k,h,fun _ _ h=>h⟩
theorem jd {σ:Type} {m:σ→World→(σ→World→Prop)→Prop} {s:σ} {w:World} (I:σ→World→Prop) (μ:σ→World→Nat) (h0:I s w) (hr:∀ s w,I s w→m s w fun s' w'=>I s' w'∧μ s' w' < μ s w) :
  zav σ m s w:=⟨I,μ,h0,hr⟩
theorem least {p:Nat→Prop} (h:∃ n,p n):∃ n,p n∧∀ m,p m→n≤m:=by
 obtain ⟨n,hn⟩:=h
 induction n using Nat.strongRecOn with
 | _ n ih =>
  by_cases hm:∃ m,m < n∧p m
  ·obtain ⟨m,h1,h2⟩:=hm;exact ih m h1 h2
  ·exact ⟨n,hn,fun m h=>Nat.le_of_not_lt fun h'=>hm ⟨m,h',h⟩⟩
theorem zu4 {σ:Type} {m:σ→World→(σ→World→Prop)→Prop} {s:σ} {w:World} (I:Nat→σ→World→Prop) (n:Nat) (h0:I n s w)
  (hr:∀ n s w,I n s w→∀ K:σ→World→Prop,(∀ n' s' w',n' < n→I n' s' w'→K s' w')→m s w K):zav σ m s w:=by
 classical
 refine ⟨fun s w=>∃ n,I n s w,fun s w=>if h:∃ n,I n s w then Classical.choose (least h) else 0,⟨n,h0⟩,fun s w h=>?_⟩
 refine hr _ s w (Classical.choose_spec (least h)).1 _ fun n' s' w' hn' hI=>⟨⟨n',hI⟩,?_⟩
 have h':∃ n,I n s' w':=⟨n',hI⟩
 have h:∃ n,I n s w:=h
 simp only [dif_pos h,dif_pos h']
 exact Nat.lt_of_le_of_lt ((Classical.choose_spec (least h')).2 n' hI) hn'
theorem qg.mono {P:Program} {f:FuncId} {args:Array Value} {w:World} {R R':Ending→World→Prop} (h:qg P f args w R) (hr:∀ e w',R e w'→R' e w'):qg P f args w R':=⟨h.1,h.2.mono fun e w' h=>⟨hr e w' h.1,h.2⟩⟩
theorem zbl {P:Program} {f:FuncId} {args:Array Value} {l:List Sh} {tup:Bool} {w:World} {K:Tup l→Prop} (t:Tup l) (h:qg P f args w (fun e w'=>e=.returned (zqr l tup t).2∧w'=w)) (hK:K t) :
  zg5 P f args l tup w K:=⟨t,h,hK⟩
theorem zn {P:Program} {f:FuncId} {args:Array Value} {l:List Sh} {tup:Bool} {w:World} {K:Tup l→World→Prop} {R:Ending→World→Prop} (h:qg P f args w R)
  (hK:∀ e w',R e w'→∃ t,e=.returned (zqr l tup t).2∧K t w'):qy P f args l tup w K:=.go (h.mono hK)
theorem z0j {P:Program} {f:FuncId} {args:Array Value} {l:List Sh} {tup:Bool} {w:World} {K:Tup l→World→Prop} (t:Tup l) (h:(callFunc f args).run P w=.ok (.value (zqr l tup t).2) w) (hK:K t w):qy P f args l tup w K:=.own _ _ h (.refl w) ⟨t,rfl,hK⟩
theorem qic {P:Program} {f:FuncId} {args:Array Value} {l:List Sh} {tup:Bool} {w:World} {K:Tup l→World→Prop} (t:Tup l) (w':World) (h:(callFunc f args).run P w=.ok (.value (zqr l tup t).2) w') (hc:Calm w w') (hK:K t w'):qy P f args l tup w K:=.own _ _ h hc ⟨t,rfl,hK⟩
theorem qx {P:Program} {m:Sem Value} {s:Sh} {w:World} {K:s.T→Prop} (t:s.T) (h:m.run P w=.ok (s.val t) w) (hK:K t):zay P m s w K:=⟨t,h,hK⟩
theorem zae {P:Program} {m:Sem Value} {s:Sh} {w:World} {K:s.T→World→Prop} (t:s.T) (w':World) (h:m.run P w=.ok (s.val t) w') (hK:K t w') (hc:Calm w w':=by first | exact ⟨rfl,rfl,rfl,Nat.le_refl _⟩ | exact ⟨rfl,rfl,rfl,Nat.le_succ _⟩):zaf P m s w K:=⟨t,w',h,hc,hK⟩
theorem z4z {a b:Int} {K:Int→Prop} (m n:Nat) (ha:a=(m:Int)) (hb:b=(n:Int)) (hn:n ≠ 0) (hK:K ((m % n:Nat):Int)):qla a b K:=by
 subst ha hb
 exact ⟨by omega,_,by rw [Int.tmod_eq_emod_of_nonneg (by omega)];rfl,hK⟩
theorem z0n {a b:Int} {K:Int→Prop} (m n:Nat) (ha:a=(m:Int)) (hb:b=(n:Int)) (hn:n ≠ 0) (hm:m < 9223372036854775808) (hK:K ((m / n:Nat):Int)):qle .i64 a b K:=by
 subst ha hb
 have hd:m / n≤m:=Nat.div_le_self _ _
 refine ⟨by omega,_,?_,hK⟩
 have he:Int.tdiv (m:Int) (n:Int)=((m / n:Nat):Int):=by rw [Int.tdiv_eq_ediv_of_nonneg (by omega)];rfl
 rw [he]
 generalize m / n=d at *
 rw [wrap_i64 (by omega) (by omega)]
theorem Words.put {c:Array Value} {f:Nat→BitVec 32} {n:Nat} (h:Words c 0 f n) (i:Nat) (hi:i < c.size) (x:BitVec 32):Words (c.setIfInBounds i (.int .u32 (x.toNat:Int))) 0 (fun k=>if k=i then x else f k) n:=by
 intro k hk
 by_cases e:k=i
 ·subst e;simp [hi]
 ·rw [Array.getElem?_setIfInBounds_ne (by omega),h k hk];simp only [if_neg e]
theorem Words.congr {c:Array Value} {f g:Nat→BitVec 32} {n:Nat} (h:Words c 0 f n) (hg:∀ k,k < n→f k=g k):Words c 0 g n:=fun k hk=>by rw [h k hk,hg k hk]
theorem qtc (a b:UInt8) {K:Int→Prop} (hK:K ((a ^^^ b).toNat:Int)):zt9 .u8 (a.toNat:Int) (b.toNat:Int) K:=by
 refine ⟨_,?_,hK⟩
 have ha:BitVec.ofInt IntKind.u8.bits (a.toNat:Int)=a.toBitVec:=by
  apply BitVec.eq_of_toNat_eq
  show (BitVec.ofInt 8 (a.toNat:Int)).toNat=a.toBitVec.toNat
  rw [BitVec.ofInt_natCast];simp
 have hb:BitVec.ofInt IntKind.u8.bits (b.toNat:Int)=b.toBitVec:=by
  apply BitVec.eq_of_toNat_eq
  show (BitVec.ofInt 8 (b.toNat:Int)).toNat=b.toBitVec.toNat
  rw [BitVec.ofInt_natCast];simp
 rw [ha,hb]
 show _=IntKind.u8.wrap ((a ^^^ b).toNat:Nat)
 rw [zlc,Nat.mod_eq_of_lt (a ^^^ b).toNat_lt]
def IxO (v:Option Value) (d n:Nat):Prop:=(v=none∧n=d) ∨ ∃ k,v=some (.int k (n:Int))
theorem IxO.no {d:Nat}:IxO none d d:=.inl ⟨rfl,rfl⟩
theorem IxO.yes {d n:Nat} {k:IntKind} {i:Int} (h:i=(n:Int)):IxO (some (.int k i)) d n:=.inr ⟨k,by rw [h]⟩
section
variable {P:Program} {w:World}
theorem zxb {isS:Bool} {len cap l h:Nat} {lo hi:Option Value} (hlo:IxO lo 0 l) (hhi:IxO hi len h) (h1:l≤h) (h2:h≤cap) :
  (Instr.sliceBounds isS len cap lo hi none).run P w=.ok (l,h,cap) w:=by
 have eh:∀ k code,(Instr.sliceBound (.int k (h:Int)) cap code).run P w=.ok h w:=by
  intro k code
  simp [Instr.sliceBound,asIntOf,h2]
 have el:∀ k code,(Instr.sliceBound (.int k (l:Int)) h code).run P w=.ok l w:=by
  intro k code
  simp [Instr.sliceBound,asIntOf,h1]
 rcases hlo with ⟨rfl,rfl⟩ | ⟨k,rfl⟩ <;> rcases hhi with ⟨rfl,rfl⟩ | ⟨k',rfl⟩ <;> simp [Instr.sliceBounds,eh,el]
theorem zaw {t e:TypeId} {sz:Nat} {a:Option Addr} {len cap l h:Nat} {lo hi:Option Value} (hu:P.underlying t=some (.slice e)) (hs:(P.info? e).map (·.size)=some sz) (hlo:IxO lo 0 l) (hhi:IxO hi len h) (h1:l≤h) (h2:h≤cap) :
  (Instr.sliceAt t (.slice a len cap) lo hi none).run P w=.ok (.slice (if cap=l then a else a.map (·.add (l * sz))) (h - l) (cap - l)) w:=by
 simp [Instr.sliceAt,Instr.slice,xw hu,zxb hlo hhi h1 h2,zbx hs]
theorem zeb {t e:TypeId} {sz n:Nat} {a:Addr} {l h:Nat} {lo hi:Option Value} (hu:P.underlying t=some (.array n e)) (hs:(P.info? e).map (·.size)=some sz) (hlo:IxO lo 0 l) (hhi:IxO hi n h) (h1:l≤h) (h2:h≤n) :
  (Instr.sliceAt t (.pointer (some a)) lo hi none).run P w=.ok (.slice (some (if n=l then a else a.add (l * sz))) (h - l) (n - l)) w:=by
 simp [Instr.sliceAt,xw hu,Instr.sureAddr,zxb hlo hhi h1 h2,zbx hs]
theorem z7o {t:TypeId} {s:ByteArray} {l h:Nat} {lo hi:Option Value} (hu:P.underlying t=some .string) (hlo:IxO lo 0 l) (hhi:IxO hi s.size h) (h1:l≤h) (h2:h≤s.size) :
  (Instr.sliceAt t (.string s) lo hi none).run P w=.ok (.string (s.extract l h)) w:=by
 simp [Instr.sliceAt,Instr.slice,xw hu,zxb hlo hhi h1 h2]
def Cells (H:Heap) (a:Option Addr) (vs:List Value):Prop :=
 vs=[] ∨ ∃ b o c T fr,a=some ⟨b,o,none⟩∧H[b]?=some (.cells c T fr)∧o+vs.length≤c.size∧(c.extract o (o+vs.length)).toList=vs
theorem Cells.ext {M:List Nat} {H H':Heap} {a:Option Addr} {vs:List Value} (h:Cells H a vs) (hx:Ext M H H') (hM:∀ x,a=some x→vs ≠ []→x.block ∉ M):Cells H' a vs:=by
 by_cases hv:vs=[]
 ·exact .inl hv
 rcases h with h | ⟨b,o,c,T,fr,rfl,hb,hn,he⟩
 ·exact .inl h
 ·exact .inr ⟨b,o,c,T,fr,rfl,hx.get hb (hM _ rfl hv),hn,he⟩
theorem Cells.lt {H:Heap} {a:Option Addr} {vs:List Value} (h:Cells H a vs) (hne:vs ≠ []):∃ x,a=some x∧x.block < H.size:=by
 rcases h with h | ⟨b,o,c,T,fr,rfl,hb,hn,he⟩
 ·exact absurd h hne
 ·exact ⟨_,rfl,lt_of_get hb⟩
theorem z4h {a:Addr}:(loadCells a 0).run P w=.ok #[] w:=rfl
theorem zzi {H:Heap} {a:Option Addr} {l c sz n:Nat} {vs:List Value} (hw:w.heap=H) (h:Cells H a vs) (hn:n * sz=vs.length):(Builtin.firstCells sz n (.slice a l c)).run P w=.ok vs.toArray w:=by
 rcases h with rfl | ⟨b,o,c',T,fr,rfl,hb,hle,he⟩
 ·simp only [List.length_nil] at hn
  cases a with
  | none=>rfl
  | some a=>simp only [Builtin.firstCells,hn,z4h]
 ·simp only [Builtin.firstCells,hn]
  rw [zun hw hb hle]
  congr 1
  apply Array.ext'
  simpa using he
theorem Cells.part {H:Heap} {a:Option Addr} {vs:List Value} (h:Cells H a vs) (k m:Nat) (hk:k+m≤vs.length):Cells H (a.map (·.add k)) ((vs.drop k).take m):=by
 rcases h with rfl | ⟨b,o,c,T,fr,rfl,hb,hle,he⟩
 ·left;simp
 ·right
  refine ⟨b,o+k,c,T,fr,by simp [jv],hb,by simp;omega,?_⟩
  have hl:((vs.drop k).take m).length=m:=by simp;omega
  rw [hl]
  conv=>rhs;rw [← he]
  simp only [Array.toList_extract,List.extract_eq_take_drop,List.drop_take,List.take_take,List.drop_drop]
  congr 1
  omega
theorem Cells.take {H:Heap} {a:Option Addr} {vs:List Value} (h:Cells H a vs) (m:Nat):Cells H a (vs.take m):=by
 by_cases hm:m≤vs.length
 ·have:=h.part 0 m (by omega)
  cases a with
  | none =>
   rcases h with rfl | ⟨b,o,c,T,fr,h,_⟩
   ·left;simp
   ·cases h
  | some a=>simpa [Addr.add] using this
 ·rw [List.take_of_length_le (by omega)];exact h
theorem Cells.drop {H:Heap} {a:Option Addr} {vs:List Value} (h:Cells H a vs) (k cap:Nat) (hcap:vs.length≤cap):Cells H (if cap=k then a else a.map (·.add k)) (vs.drop k):=by
 by_cases hk:k < vs.length
 ·rw [if_neg (by omega)]
  have:=h.part k (vs.length - k) (by omega)
  rwa [List.take_of_length_le (by simp)] at this
 ·left;exact List.drop_eq_nil_of_le (by omega)
def byteCells (L:List UInt8):List Value:=L.map fun b=>.int .u8 (b.toNat:Int)
@[simp] theorem jh {L:List UInt8}:(byteCells L).length=L.length:=by simp [byteCells]
theorem zaa {L:List UInt8}:zc2 (byteCells L):=by
 intro v hv
 simp only [byteCells,List.mem_map] at hv
 obtain ⟨b,_,rfl⟩:=hv
 rfl
theorem ze9 {L:List UInt8} {n:Nat}:(byteCells L).take n=byteCells (L.take n):=by simp [byteCells]
theorem zga {L:List UInt8} {n:Nat}:(byteCells L).drop n=byteCells (L.drop n):=by simp [byteCells]
theorem byteCells_append {L M:List UInt8}:byteCells L++byteCells M=byteCells (L++M):=by simp [byteCells]
theorem zec {L:List UInt8} {i:Nat} (h:i < L.length):(byteCells L)[i]?=some (.int .u8 ((L.getD i 0).toNat:Int)):=by
 simp [byteCells,List.getD_eq_getElem?_getD,List.getElem?_eq_getElem h]
theorem Cells.bytes {H:Heap} {a:Option Addr} {L:List UInt8} (h:Cells H a (byteCells L)) (hne:L ≠ []):∃ b o c T fr,a=some ⟨b,o,none⟩∧H[b]?=some (.cells c T fr)∧o+L.length≤c.size∧Bytes c o (fun i=>L.getD i 0) L.length:=by
 rcases h with h | ⟨b,o,c,T,fr,rfl,hb,hn,he⟩
 ·exact absurd (by simpa [byteCells] using h) hne
 ·refine ⟨b,o,c,T,fr,rfl,hb,by simpa using hn,fun i hi=>?_⟩
  have h1:=zec hi
  rw [← he,Array.getElem?_toList,Array.getElem?_extract] at h1
  simp only [jh] at h1 hn
  rw [if_pos (by omega)] at h1
  exact h1
theorem zpa {H:Heap} {b o:Nat} {c:Array Value} {T:TypeId} {fr:Nat × Nat} {L:List UInt8} (hb:H[b]?=some (.cells c T fr)) (hn:o+L.length≤c.size) (h:Bytes c o (fun i=>L.getD i 0) L.length):Cells H (some ⟨b,o,none⟩) (byteCells L):=by
 refine .inr ⟨b,o,c,T,fr,rfl,hb,by simpa using hn,?_⟩
 apply List.ext_getElem?
 intro i
 simp only [jh]
 by_cases hi:i < L.length
 ·rw [zec hi,Array.getElem?_toList,Array.getElem?_extract,if_pos (by omega),h i hi]
 ·rw [List.getElem?_eq_none (by simp;omega),List.getElem?_eq_none (by simp;omega)]
def zq3 (c:Array Value):Prop:=∀ (i:Nat) (v:Value),c[i]?=some v→v.oneCell'=true
theorem zq3.set {c:Array Value} (h:zq3 c) {k:Nat} {x:Value} (hx:x.oneCell'=true):zq3 (c.setIfInBounds k x):=by
 intro i v hv
 by_cases e:k=i
 ·subst e
  by_cases hk:k < c.size
  ·simp [hk] at hv;subst hv;exact hx
  ·rw [Array.getElem?_eq_none (by simp;omega)] at hv;cases hv
 ·rw [Array.getElem?_setIfInBounds_ne e] at hv
  exact h i v hv
theorem zq3.setCells {vs:List Value}:∀ {c:Array Value} {o:Nat},zq3 c→zc2 vs→zq3 (setCells c o vs):=by
 induction vs with
 | nil=>intro c o h _;exact h
 | cons v r ih=>intro c o h h1;exact ih (h.set (h1 v (by simp))) fun x hx=>h1 x (by simp [hx])
theorem zq3.one {c:Array Value} (h:zq3 c):zc2 c.toList:=by
 intro v hv
 obtain ⟨i,hi⟩:=List.getElem?_of_mem hv
 exact h i v (by simpa using hi)
theorem qkt {H:Heap} {st xt e ty:TypeId} {sz bd od dl dc sl sc:Nat} {sa:Option Addr} {cd:Array Value} {Td:TypeId} {vs:List Value} (hu:P.underlying st=some (.slice e)) (hs:(P.info? e).map (·.size)=some sz)
  (hw:w.heap=H) (hsrc:Cells H sa vs) (hn:min sl dl * sz=vs.length) (h1:zc2 vs) (hd:H[bd]?=some (.cells cd Td (0,0))) (hdn:od+vs.length≤cd.size) :
  ∃ w',(Builtin.copy_ #[st,xt] ty #[.slice (some ⟨bd,od,none⟩) dl dc,.slice sa sl sc]).run P w=.ok (.int .i64 ((min sl dl:Nat):Int)) w'∧Calm w w'∧w'.heap=H.setIfInBounds bd (.cells (setCells cd od vs) Td (0,0)):=by
 obtain ⟨w',h2,h4,h3⟩:=zqo (P:=P) vs w H cd od 0 h1 hw hd (by simpa using hdn)
 refine ⟨w',?_,h4,by simpa using h3⟩
 have hf:=zzi (P:=P) (l:=sl) (c:=sc) (sz:=sz) (n:=min sl dl) hw hsrc hn
 have hmin:Nat.min sl dl=min sl dl:=rfl
 simp only [Builtin.copy_,List.getElem?_toArray,List.getElem?_cons_zero,List.getElem?_cons_succ,Sem.run_bind,xw hu,Result.andThen_ok,Builtin.lenOf,Sem.run_pure,zbx hs,hmin,hf,h2,goInt]
def Mine (H:Heap) (B:Nat) (T:TypeId) (sz:Nat) (x:Option Addr × Nat × Nat) (vs:List Value):Prop :=
 (x=(none,0,0)∧vs=[]) ∨ ∃ b c,x.1=some ⟨b,0,none⟩∧B≤b∧H[b]?=some (.cells c T (0,0))∧c.size=x.2.2 * sz∧vs.length=x.2.1 * sz∧x.2.1≤x.2.2∧(c.extract 0 vs.length).toList=vs
theorem Mine.cells {H:Heap} {B:Nat} {T:TypeId} {sz:Nat} {x:Option Addr × Nat × Nat} {vs:List Value} (h:Mine H B T sz x vs):Cells H x.1 vs:=by
 rcases h with ⟨_,rfl⟩ | ⟨b,c,hx,_,hb,hc,hl,hle,he⟩
 ·exact .inl rfl
 ·refine .inr ⟨b,0,c,T,(0,0),hx,hb,?_,by simpa using he⟩
  rw [hl,hc];simpa using Nat.mul_le_mul_right sz hle
theorem Mine.len {H:Heap} {B:Nat} {T:TypeId} {sz:Nat} {x:Option Addr × Nat × Nat} {vs:List Value} (h:Mine H B T sz x vs):vs.length=x.2.1 * sz:=by
 rcases h with ⟨rfl,rfl⟩ | ⟨b,c,hx,_,hb,hc,hl,hle,he⟩
 ·simp
 ·exact hl
def jf (x:Option Addr × Nat × Nat):List Nat:=match x.1 with | some a=>[a.block] | none=>[]
theorem Mine.ext {M:List Nat} {H H':Heap} {B:Nat} {T:TypeId} {sz:Nat} {x:Option Addr × Nat × Nat} {vs:List Value} (h:Mine H B T sz x vs) (hx:Ext M H H') (hM:∀ b,b ∈ jf x→b ∉ M):Mine H' B T sz x vs:=by
 rcases h with h | ⟨b,c,hx1,hB,hb,hc,hl,hle,he⟩
 ·exact .inl h
 ·exact .inr ⟨b,c,hx1,hB,hx.get hb (hM b (by simp [jf,hx1])),hc,hl,hle,he⟩
theorem Mine.mono {H:Heap} {B B':Nat} {T:TypeId} {sz:Nat} {x:Option Addr × Nat × Nat} {vs:List Value} (h:Mine H B T sz x vs) (hB:B'≤B):Mine H B' T sz x vs:=by
 rcases h with h | ⟨b,c,hx1,hB1,hb⟩
 ·exact .inl h
 ·exact .inr ⟨b,c,hx1,Nat.le_trans hB hB1,hb⟩
theorem jc {H:Heap} {B:Nat} {T:TypeId} {sz:Nat} {x:Option Addr × Nat × Nat} {vs:List Value} (h:Mine H B T sz x vs):∀ b,b ∈ jf x→B≤b:=by
 rcases h with ⟨rfl,_⟩ | ⟨b,c,hx1,hB,_⟩
 ·simp [jf]
 ·simp [jf,hx1,hB]
theorem qky (newLen:Nat):∀ (r c:Nat),c≤2 * newLen→Builtin.growBy newLen r c≤2 * newLen+192:=by
 intro r
 induction r with
 | zero=>intro c h;simp only [Builtin.growBy];omega
 | succ r ih =>
  intro c h
  simp only [Builtin.growBy]
  split
  ·omega
  ·rename_i hlt
   by_cases hb:c+(c+768) / 4≤2 * newLen
   ·exact ih _ hb
   ·cases r with
    | zero=>simp only [Builtin.growBy];omega
    | succ r =>
     simp only [Builtin.growBy]
     rw [if_pos (by omega)]
     omega
theorem qh9 {newLen oldCap:Nat} (h:oldCap < newLen):Builtin.nextslicecap newLen oldCap≤2 * newLen+192:=by
 unfold Builtin.nextslicecap
 split
 ·omega
 ·split
  ·omega
  ·exact qky _ _ _ (by omega)
def Src (P:Program) (w:World) (v:Value) (sz n:Nat) (vs:List Value):Prop:=(Builtin.lenOf v).run P w=.ok n w∧vs.length=n * sz∧∀ w',w'.heap=w.heap→(Builtin.firstCells sz n v).run P w'=.ok vs.toArray w'
theorem Src.slc {H:Heap} {a:Option Addr} {l c sz:Nat} {vs:List Value} (hw:w.heap=H) (h:Cells H a vs) (hl:vs.length=l * sz):Src P w (.slice a l c) sz l vs :=
 ⟨rfl,hl,fun w' hw'=>zzi (hw'.trans hw) h hl.symm⟩
def strCells (s:ByteArray):List Value:=s.data.toList.map fun b=>.int .u8 b.toNat
theorem Src.str {s:ByteArray}:Src P w (.string s) 1 s.size (strCells s):=by
 refine ⟨rfl,by simp [strCells],fun _ _=>?_⟩
 have:s.extract 0 s.size=s:=by
  ext1
  simp
 simp only [Builtin.firstCells,this,strCells,Sem.run_pure]
 congr 1
 apply Array.ext'
 simp
theorem qgh {H:Heap} {st xt e ty:TypeId} {info:TypeInfo} {z:Value} {sz B:Nat} {x:Option Addr × Nat × Nat} {y:Value} {n:Nat} {vs us:List Value} (hu:P.underlying st=some (.slice e)) (hx:∃ d,P.underlying xt=some d∧∀ k,d ≠ .int k)
  (hi:P.info? e=some info) (hsz:info.size=sz) (hz:info.zero=some z) (hzs:z.cells.size=sz) (hb0:info.bytes ≠ 0) (hw:w.heap=H) (hown:Mine H B e sz x vs) (hB:B≤H.size) (hsrc:Src P w y sz n us) (h1:zc2 us)
  (hroom:(2 * (x.2.1+n)+192) * info.bytes≤281474976710656) :
  ∃ x' w',(Builtin.append_ #[st,xt] ty #[.slice x.1 x.2.1 x.2.2,y]).run P w=.ok (.slice x'.1 x'.2.1 x'.2.2) w'∧Calm w w'∧Mine w'.heap B e sz x' (vs++us)∧x'.2.1=x.2.1+n∧Ext (jf x) H w'.heap∧(∀ b,b ∈ jf x'→b ∈ jf x ∨ H.size≤b):=by
 obtain ⟨hlen,hul,hfirst⟩:=hsrc
 obtain ⟨d,hxd,hxk⟩:=hx
 have hnoint:(d matches .int _)=false:=by
  cases d <;> first | rfl | (exact absurd rfl (hxk _))
 have hse:(P.info? e).map (·.size)=some sz:=by rw [hi];simp [hsz]
 have hti:(typeInfo e).run P w=.ok info w:=by simp [typeInfo,hi]
 by_cases hfit:x.2.1+n≤x.2.2
 ·-- there is room
  rcases hown with ⟨rfl,rfl⟩ | ⟨b,c,hx1,hBb,hb,hc,hl,hle,he⟩
  ·simp only [Nat.zero_add,Nat.le_zero] at hfit
   subst hfit
   simp only [Nat.zero_mul] at hul
   obtain rfl:us=[]:=List.length_eq_zero_iff.1 hul
   refine ⟨(none,0,0),w,?_,.refl w,.inl ⟨rfl,rfl⟩,rfl,by rw [hw];exact .refl _ _,fun b hb=>.inl hb⟩
   simp only [Builtin.append_,List.getElem?_toArray,List.getElem?_cons_zero,List.getElem?_cons_succ,Sem.run_bind,xw hu,xw hxd,Result.andThen_ok,Sem.run_pure,hnoint,Bool.false_eq_true,if_false,zbx hse,hlen,
    Nat.add_zero,Nat.le_refl,if_true,Bool.not_false,hfirst w rfl]
  ·have hcs:vs.length+us.length≤c.size:=by
    rw [hl,hul,hc,← Nat.add_mul]
    exact Nat.mul_le_mul_right sz hfit
   obtain ⟨w',h2,h4,h3⟩:=zqo (P:=P) us w H c (x.2.1 * sz) 0 h1 hw hb (by rw [← hl];simpa using hcs)
   refine ⟨(x.1,x.2.1+n,x.2.2),w',?_,h4,?_,rfl,?_,fun b hb=>.inl hb⟩
   ·rw [hx1]
    simp only [Builtin.append_,List.getElem?_toArray,List.getElem?_cons_zero,List.getElem?_cons_succ,Sem.run_bind,xw hu,xw hxd,Result.andThen_ok,Sem.run_pure,hnoint,Bool.false_eq_true,if_false,zbx hse,hlen,
     if_pos hfit,Bool.not_false,if_true,hfirst w rfl,jv,Nat.zero_add,h2]
   ·rw [h3]
    refine .inr ⟨b,_,hx1,hBb,qp hb,by simp [hc],?_,hfit,?_⟩
    ·rw [List.length_append,hl,hul,← Nat.add_mul]
    ·apply List.ext_getElem?
     intro i
     rw [Array.toList_extract,List.extract_eq_take_drop]
     simp only [List.drop_zero,Nat.sub_zero]
     rw [List.getElem?_take]
     by_cases hilt:i < (vs++us).length
     ·rw [if_pos hilt]
      rw [Array.getElem?_toList,zg2 (by rw [Nat.add_zero,← hl];exact hcs)]
      simp only [Nat.add_zero]
      by_cases hiv:i < vs.length
      ·rw [if_neg (by omega),List.getElem?_append_left hiv]
       have:((c.extract 0 vs.length).toList)[i]?=vs[i]?:=by rw [he]
       rw [Array.getElem?_toList,Array.getElem?_extract,if_pos (by omega)] at this
       simpa using this
      ·rw [List.length_append] at hilt
       rw [if_pos (by omega),List.getElem?_append_right (by omega),hl]
     ·rw [if_neg hilt,List.getElem?_eq_none (by omega)]
   ·rw [h3]
    exact Ext.set _ (by simp [jf,hx1])
 ·-- it grows
  subst hw
  have hcl:=hown.cells
  have hll:=hown.len
  have hgrow:Builtin.nextslicecap (x.2.1+n) x.2.2 * info.bytes≤281474976710656 :=
   Nat.le_trans (Nat.mul_le_mul_right _ (qh9 (by omega))) hroom
  have hcap:x.2.1+n≤281474976710656:=by
   have:(x.2.1+n) * 1≤(2 * (x.2.1+n)+192) * info.bytes:=Nat.mul_le_mul (by omega) (by omega)
   omega
  have hold:∀ w',w'.heap=w.heap→(Builtin.firstCells sz x.2.1 (.slice x.1 x.2.1 x.2.2)).run P w'=.ok vs.toArray w':=fun w' hw'=>zzi hw' hcl hll.symm
  have hch:∀ w:World,(choose (.appendCap (x.2.1+n) x.2.2 e)).run P w=.ok (x.2.1+n+w.tape w.drawn (.appendCap (x.2.1+n) x.2.2 e) % (2 ^ 63 - (x.2.1+n))) { w with drawn:=w.drawn+1 } :=
   fun w=>by simp [Question.forced,Question.cut]
  generalize hq:x.2.1+n+w.tape w.drawn (.appendCap (x.2.1+n) x.2.2 e) % (2 ^ 63 - (x.2.1+n))=q at *
  have hqn:x.2.1+n≤q:=by omega
  have hzv:∀ w',(zeroValue e).run P w'=.ok z w':=fun w'=>by simp [zeroValue,typeInfo,hi,hz]
  refine ⟨(some ⟨w.heap.size,0,none⟩,x.2.1+n,q),{ w with drawn:=w.drawn+1,heap:=w.heap.push (.cells (vs.toArray++us.toArray++Builtin.zeroCells z.cells (q - (x.2.1+n))) e) },?_,⟨rfl,rfl,rfl,Nat.le_succ _⟩,?_,rfl,?_,?_⟩
  ·have hn1:¬ ((x.2.1+n:Nat):Int) > IntKind.i64.max:=by
    have:IntKind.i64.max=9223372036854775807:=by decide
    rw [this];omega
   have hn2:¬ Builtin.nextslicecap (x.2.1+n) x.2.2 * info.bytes > 2 ^ 48:=by
    have:(2:Nat) ^ 48=281474976710656:=by decide
    rw [this];omega
   have hti':∀ w',(typeInfo e).run P w'=.ok info w':=fun w'=>by simp [typeInfo,hi]
   simp only [Builtin.append_,List.getElem?_toArray,List.getElem?_cons_zero,List.getElem?_cons_succ,Sem.run_bind,xw hu,xw hxd,Result.andThen_ok,Sem.run_pure,hnoint,Bool.false_eq_true,if_false,zbx hse,hlen,
    if_neg hfit,Bool.not_false,if_true,hti',hn1,false_and,hn2,hch,hq,run_askRoom,hold { w with drawn:=w.drawn+1 } rfl,hfirst { w with drawn:=w.drawn+1 } rfl,hzv,newRow,run_newObj]
  ·refine .inr ⟨w.heap.size,vs.toArray++us.toArray++Builtin.zeroCells z.cells (q - (x.2.1+n)),rfl,hB,?_,?_,?_,hqn,?_⟩
   ·simp
   ·simp only [Array.size_append,List.size_toArray,Builtin.zeroCells,Array.size_map,Array.size_range,hll,hul,hzs]
    rw [← Nat.add_mul,← Nat.add_mul]
    congr 1
    omega
   ·rw [List.length_append,hll,hul,← Nat.add_mul]
   ·rw [Array.toList_extract,List.extract_eq_take_drop]
    simp only [List.drop_zero,Nat.sub_zero,Array.toList_append,List.length_append]
    rw [← List.length_append,List.take_left]
  ·exact .push _
  ·intro b hb
   simp only [jf,List.mem_singleton] at hb
   exact .inr (by omega)
end
theorem Mine.put {H:Heap} {B:Nat} {T:TypeId} {x:Option Addr × Nat × Nat} {vs:List Value} (h:Mine H B T 1 x vs) {i:Nat} (hi:i < vs.length) (v:Value) :
  ∃ b c,x.1=some ⟨b,0,none⟩∧H[b]?=some (.cells c T (0,0))∧i < c.size∧c[i]?=vs[i]?∧Mine (H.setIfInBounds b (.cells (c.setIfInBounds i v) T (0,0))) B T 1 x (vs.set i v):=by
 rcases h with ⟨_,rfl⟩ | ⟨b,c,hx,hB,hb,hc,hl,hle,he⟩
 ·cases hi
 ·have hvc:vs.length≤c.size:=by omega
  have hget:∀ j,j < vs.length→c[j]?=vs[j]?:=by
   intro j hj
   have:((c.extract 0 vs.length).toList)[j]?=vs[j]?:=by rw [he]
   rw [Array.getElem?_toList,Array.getElem?_extract,if_pos (by omega)] at this
   simpa using this
  refine ⟨b,c,hx,hb,by omega,hget i hi,.inr ⟨b,_,hx,hB,qp hb,by simpa using hc,by simpa using hl,hle,?_⟩⟩
  apply List.ext_getElem?
  intro j
  rw [Array.getElem?_toList,Array.getElem?_extract]
  simp only [List.length_set,Nat.sub_zero,Nat.zero_add,Array.size_setIfInBounds]
  by_cases hj:j < vs.length
  ·rw [if_pos (by omega),Array.getElem?_setIfInBounds,List.getElem?_set]
   by_cases e:i=j
   ·subst e;simp [hi,show i < c.size by omega]
   ·simp only [e,if_false];exact hget j hj
  ·rw [if_neg (by omega),List.getElem?_eq_none (by simp;omega)]
def arr (L:List UInt8):Value:=.agg (byteCells L).toArray
section
variable {P:Program}
theorem byte_at (L:List UInt8) (i:Nat):(byteCells L).toArray[i]?=(L[i]?).map fun b=>Value.int .u8 (b.toNat:Int):=by
 simp [byteCells]
theorem z1t {e:TypeId} {info:TypeInfo} {w:World} (he:P.underlying e=some (.int .u8)) (L:List UInt8) {i:Nat} (hi:i < L.length):(part e (byteCells L).toArray i).run P w=.ok (.int .u8 ((L[i]).toNat:Int)) w :=
 run_part_plain w (by simp [Program.plainKey,he]) (by rw [byte_at];simp [hi])
theorem zv6 {e:TypeId} {d:Nat} {w:World} (he:P.underlying e=some (.int .u8)) (hc:P.cellsOf e=1) (A B:List UInt8):∀ is:List Nat,(∀ i ∈ is,i < A.length∧i < B.length) →
  (Op.eqItems (d+1) e (P.cellsOf e) (byteCells A).toArray (byteCells B).toArray is).run P w=.ok (decide (∀ i ∈ is,A[i]?=B[i]?)) w
 | [],_=>by simp [Op.eqItems]
 | i :: is,h=>by
  have h1:=h i (by simp)
  have ih:=zv6 (d:=d) (w:=w) he hc A B is fun j hj=>h j (by simp [hj])
  simp only [Op.eqItems,Sem.run_bind,hc,Nat.mul_one]
  rw [z1t (info:=default) he A h1.1]
  simp only [Result.andThen_ok]
  rw [z1t (info:=default) he B h1.2]
  simp only [Result.andThen_ok]
  rw [run_equalIn_int w d e .u8 .u8 _ _ he]
  simp only [Result.andThen_ok]
  rw [hc] at ih
  by_cases hb:A[i]=B[i]
  ·have:(((A[i]).toNat:Int) == ((B[i]).toNat:Int))=true:=by rw [hb];simp
   simp only [this,Bool.not_true,Bool.false_eq_true,if_false,ih]
   congr 1
   simp [List.getElem?_eq_getElem h1.1,List.getElem?_eq_getElem h1.2,hb]
  ·have:(((A[i]).toNat:Int) == ((B[i]).toNat:Int))=false:=by
    simp only [beq_eq_false_iff_ne,ne_eq]
    intro hh
    apply hb
    apply UInt8.toNat_inj.1
    omega
   simp only [this,Bool.not_false,if_true,Sem.run_pure]
   congr 1
   simp [List.getElem?_eq_getElem h1.1,List.getElem?_eq_getElem h1.2,hb]
theorem zzs {t e:TypeId} {n:Nat} {w:World} (hu:P.underlying t=some (.array n e)) (he:P.underlying e=some (.int .u8)) (hc:P.cellsOf e=1) {A B:List UInt8} (hA:A.length=n) (hB:B.length=n) :
  (Op.equal t (arr A) (arr B)).run P w=.ok (decide (A=B)) w:=by
 have hi:∃ i,P.info? e=some i:=info_of_underlying he
 obtain ⟨i,hi⟩:=hi
 unfold Op.equal Op.maxDepth arr
 rw [run_equalIn_array w 9999 _ _ hu hi,zv6 (d:=9998) he hc A B (List.range n) (by intro j hj;simp at hj;omega)]
 congr 1
 simp only [List.mem_range,decide_eq_decide]
 constructor
 ·intro h
  apply List.ext_getElem?
  intro j
  by_cases hj:j < n
  ·exact h j hj
  ·rw [List.getElem?_eq_none (by omega),List.getElem?_eq_none (by omega)]
 ·rintro rfl _ _;rfl
theorem qi3 {t e:TypeId} {n:Nat} {w:World} (hu:P.underlying t=some (.array n e)) (he:P.underlying e=some (.int .u8)) (hc:P.cellsOf e=1) {A:List UInt8} (hA:A.length=n) (em:Bool) :
  (Instr.checkKey em 10000 t (arr A)).run P w=.ok () w:=by
 have hi:∃ i,P.info? e=some i:=info_of_underlying he
 obtain ⟨i,hi⟩:=hi
 unfold arr
 rw [show (10000:Nat)=9998+1+1 from rfl,Instr.checkKey]
 simp only [Sem.run_bind,xw hu,Result.andThen_ok]
 simp only [Std.Legacy.Range.forIn_eq_forIn_range',Std.Legacy.Range.size,Nat.sub_zero,Nat.add_one_sub_one,Nat.div_one]
 have each:∀ j ∈ List.range' 0 n,j < A.length:=by intro j hj;simp [List.mem_range'] at hj;omega
 generalize List.range' 0 n=is at each
 induction is with
 | nil=>simp
 | cons j is ih =>
  have p1:(part e (byteCells A).toArray j).run P w=_:=z1t (info:=default) he A (each j (by simp))
  have p2:(Instr.checkKey em (9998+1) e (.int .u8 ((A[j]'(each j (by simp))).toNat:Int))).run P w=.ok () w:=by
   rw [Instr.checkKey]
   simp only [Sem.run_bind,xw he,Result.andThen_ok,Sem.run_pure]
  simp only [List.forIn_cons,Sem.run_bind,run_sizeOf w hi,Result.andThen_ok,hc,Nat.mul_one,p1,p2,Sem.run_pure]
  exact ih fun y hy=>each y (by simp [hy])
end
structure KeyOk (P:Program) (kt:TypeId) (κ:Type) [DecidableEq κ] (ok:κ→Prop) (enc:κ→Value):Prop where
 find:∀ (w:World) (k:κ) (es:List MapEntry) (l:List (κ × Value × Nat)),ok k→(∀ x ∈ l,ok x.1)→es=l.map (fun x=>⟨enc x.1,x.2.1,x.2.2⟩) →
  (Instr.findKey kt (enc k) es).run P w=.ok ((l.findIdx? (fun x=>x.1 == k)).bind fun i=>(l[i]?).map fun x=>(i,x.2.1)) w
 chk:∀ (w:World) (k:κ) (e:Bool),ok k→(Instr.checkKey e 10000 kt (enc k)).run P w=.ok () w
 same:∀ k:κ,ok k→Instr.sameBits 10000 (enc k) (enc k)=true
section
variable {P:Program} {κ:Type} [DecidableEq κ] {ok:κ→Prop} {enc:κ→Value}
theorem zsu {kt:TypeId} {w:World} (heq:∀ (w:World) (a b:κ),ok a→ok b→(Op.equal kt (enc a) (enc b)).run P w=.ok (decide (a=b)) w) {k:κ} (hk:ok k):∀ (l:List (κ × Value × Nat)) (i:Nat),(∀ x ∈ l,ok x.1) →
  (Instr.findAsking kt (enc k) (l.map fun x=>⟨enc x.1,x.2.1,x.2.2⟩) i).run P w=.ok ((l.findIdx? (fun x=>x.1 == k)).bind fun j=>(l[j]?).map fun x=>(i+j,x.2.1)) w
 | [],i,_=>by simp [Instr.findAsking]
 | x :: l,i,h=>by
  have ih:=zsu (w:=w) heq hk l (i+1) fun y hy=>h y (by simp [hy])
  simp only [List.map_cons,Instr.findAsking,Sem.run_bind,heq w k x.1 hk (h x (by simp)),Result.andThen_ok]
  by_cases e:x.1=k
  ·subst e
   simp [List.findIdx?_cons]
  ·have e':¬ k=x.1:=fun h=>e h.symm
   simp only [e',decide_false,Bool.false_eq_true,if_false,ih]
   congr 1
   rw [List.findIdx?_cons]
   simp only [beq_eq_false_iff_ne.2 e]
   cases hf:List.findIdx? (fun x=>x.1 == k) l with
   | none=>simp
   | some j=>simp [Nat.add_assoc,Nat.add_comm 1 j]
theorem KeyOk.wide {kt:TypeId} (heq:∀ (w:World) (a b:κ),ok a→ok b→(Op.equal kt (enc a) (enc b)).run P w=.ok (decide (a=b)) w)
  (hw:(match P.underlying kt with | some (.array _ _) | some (.struct _)=>true | _=>false)=true) (hc:∀ (w:World) (k:κ) (e:Bool),ok k→(Instr.checkKey e 10000 kt (enc k)).run P w=.ok () w)
  (hs:∀ k:κ,ok k→Instr.sameBits 10000 (enc k) (enc k)=true):KeyOk P kt κ ok enc where
 find w k es l hk hl he:=by
  subst he
  rw [run_findKey_eq w hw,zsu heq hk l 0 hl]
  simp
 chk:=hc
 same:=hs
end
theorem qak (L:List UInt8):Instr.sameBits 10000 (arr L) (arr L)=true:=by
 unfold arr
 rw [show (10000:Nat)=9999+1 from rfl,Instr.sameBits]
 simp only [beq_self_eq_true,Bool.true_and,List.all_eq_true]
 intro x hx
 simp only [byteCells] at hx
 have:∀ (l:List UInt8),x ∈ (l.map fun b=>Value.int .u8 (b.toNat:Int)).zip (l.map fun b=>Value.int .u8 (b.toNat:Int))→∃ b:UInt8,x=(Value.int .u8 (b.toNat:Int),Value.int .u8 (b.toNat:Int)):=by
  intro l
  induction l with
  | nil=>intro h;cases h
  | cons b l ih =>
   intro h
   simp only [List.map_cons,List.zip_cons_cons,List.mem_cons] at h
   rcases h with rfl | h
   ·exact ⟨b,rfl⟩
   ·exact ih h
 obtain ⟨b,rfl⟩:=this L hx
 simp [Instr.sameBits]
theorem KeyOk.arr {P:Program} {t e:TypeId} {n:Nat} (hu:P.underlying t=some (.array n e)) (he:P.underlying e=some (.int .u8)) (hc:P.cellsOf e=1):KeyOk P t (List UInt8) (fun L=>L.length=n) arr :=
 .wide (fun w a b ha hb=>zzs hu he hc ha hb) (by rw [hu]) (fun w k e hk=>qi3 hu he hc hk e) fun k _=>qak k
def ents {κ:Type} (enc:κ→Value) (l:List (κ × Value × Nat)):Array MapEntry:=(l.map fun x=>⟨enc x.1,x.2.1,x.2.2⟩).toArray
set_option linter.unusedSectionVars false
section
variable {κ ν:Type} [DecidableEq κ]
abbrev ML (κ ν:Type):=List (κ × ν × Nat)
def zcu (l:ML κ ν) (k:κ):Option ν:=(l.find? fun x=>x.1 == k).map (·.2.1)
def zqn (l:ML κ ν) (k:κ) (v:ν) (c:Nat):ML κ ν:=if (zcu l k).isSome then l.map (fun x=>if x.1=k then (x.1,v,x.2.2) else x) else l++[(k,v,c)]
def zxj (l:ML κ ν) (k:κ) (c:Nat):Nat:=if (zcu l k).isSome then c else c+1
def qdb (l:ML κ ν) (k:κ):ML κ ν:=l.filter fun x=>x.1 != k
structure MOk (ok:κ→Prop) (l:ML κ ν) (c:Nat):Prop where
 keys:(l.map (·.1)).Nodup
 born:(l.map (·.2.2)).Nodup
 old:∀ x ∈ l,x.2.2 < c
 fine:∀ x ∈ l,ok x.1
theorem zf0 {l:ML κ ν} {k:κ} {v:ν} (h:zcu l k=some v):∃ c,(k,v,c) ∈ l:=by
 simp only [zcu,Option.map_eq_some_iff] at h
 obtain ⟨x,hx,rfl⟩:=h
 have h1:=List.find?_some hx
 have h2:=List.mem_of_find?_eq_some hx
 simp at h1
 subst h1
 exact ⟨x.2.2,h2⟩
theorem zt7 {l:ML κ ν} (hn:(l.map (·.1)).Nodup) {k:κ} {v:ν} {c:Nat} (h:(k,v,c) ∈ l):zcu l k=some v:=by
 induction l with
 | nil=>cases h
 | cons x l ih =>
  simp only [List.map_cons,List.nodup_cons] at hn
  simp only [zcu,List.find?_cons]
  rcases List.mem_cons.1 h with h | h
  ·subst h;simp
  ·have hne:x.1 ≠ k:=fun e=>hn.1 (by rw [e];exact List.mem_map.2 ⟨_,h,rfl⟩)
   simp only [beq_eq_false_iff_ne.2 hne]
   exact ih hn.2 h
theorem zcl {l:ML κ ν} {k:κ} {x:κ × ν × Nat} (e:x.1=k):zcu (x :: l) k=some x.2.1:=by simp [zcu,e]
theorem zcm {l:ML κ ν} {k:κ} {x:κ × ν × Nat} (e:x.1 ≠ k):zcu (x :: l) k=zcu l k:=by simp only [zcu,List.find?_cons,beq_eq_false_iff_ne.2 e]
theorem zx0 {l:ML κ ν} {k:κ} {x:κ × ν × Nat} (e:x.1=k):qdb (x :: l) k=qdb l k:=by simp [qdb,e]
theorem zxv {l:ML κ ν} {k:κ} {x:κ × ν × Nat} (e:x.1 ≠ k):qdb (x :: l) k=x :: qdb l k:=by simp [qdb,e]
theorem qco {l:ML κ ν} {k:κ} (h:∀ x ∈ l,x.1 ≠ k):qdb l k=l:=by
 rw [qdb,List.filter_eq_self]
 intro x hx
 simp [h x hx]
theorem z0x {l:ML κ ν} {k:κ} (h:zcu l k=none):∀ x ∈ l,x.1 ≠ k:=by
 simp only [zcu,Option.map_eq_none_iff,List.find?_eq_none] at h
 intro x hx e
 exact absurd (h x hx) (by simp [e])
theorem zl8 {l:ML κ ν} {k:κ} (h:∀ x ∈ l,x.1 ≠ k):zcu l k=none:=by
 simp only [zcu,Option.map_eq_none_iff,List.find?_eq_none]
 intro x hx
 simp [h x hx]
theorem zrn {l:ML κ ν} {k:κ} {v:ν} {c:Nat} (h:(zcu l k).isSome=true):zqn l k v c=l.map (fun x=>if x.1=k then (x.1,v,x.2.2) else x):=by simp [zqn,h]
theorem znx {l:ML κ ν} {k:κ} {v:ν} {c:Nat} (h:zcu l k=none):zqn l k v c=l++[(k,v,c)]:=by simp [zqn,h]
theorem zr0 {l:ML κ ν} {k:κ} {v:ν} {c:Nat} {x:κ × ν × Nat} (h:x ∈ zqn l k v c):(x.1=k∧x.2.1=v) ∨ (x.1 ≠ k∧x ∈ l):=by
 cases hg:zcu l k with
 | none =>
  rw [znx hg] at h
  rcases List.mem_append.1 h with h | h
  ·exact .inr ⟨z0x hg x h,h⟩
  ·simp at h;subst h;exact .inl ⟨rfl,rfl⟩
 | some v' =>
  rw [zrn (by rw [hg];rfl)] at h
  obtain ⟨y,hy,rfl⟩:=List.mem_map.1 h
  by_cases e:y.1=k
  ·rw [if_pos e];exact .inl ⟨e,rfl⟩
  ·rw [if_neg e];exact .inr ⟨e,hy⟩
theorem key_inj {ok:κ→Prop} {l:ML κ ν} {c:Nat} (h:MOk ok l c) {x y:κ × ν × Nat} (hx:x ∈ l) (hy:y ∈ l) (e:x.1=y.1):x=y:=by
 have h1:=h.keys
 clear h
 induction l with
 | nil=>cases hx
 | cons z l ih =>
  simp only [List.map_cons,List.nodup_cons] at h1
  rcases List.mem_cons.1 hx with e1 | hx1 <;> rcases List.mem_cons.1 hy with e2 | hy1
  ·rw [e1,e2]
  ·exact absurd (List.mem_map.2 ⟨y,hy1,by rw [← e,e1]⟩) h1.1
  ·exact absurd (List.mem_map.2 ⟨x,hx1,by rw [e,e2]⟩) h1.1
  ·exact ih hx1 hy1 h1.2
theorem born_inj {ok:κ→Prop} {l:ML κ ν} {c:Nat} (h:MOk ok l c) {x y:κ × ν × Nat} (hx:x ∈ l) (hy:y ∈ l) (e:x.2.2=y.2.2):x=y:=by
 have h1:=h.born
 clear h
 induction l with
 | nil=>cases hx
 | cons z l ih =>
  simp only [List.map_cons,List.nodup_cons] at h1
  rcases List.mem_cons.1 hx with e1 | hx1 <;> rcases List.mem_cons.1 hy with e2 | hy1
  ·rw [e1,e2]
  ·exact absurd (List.mem_map.2 ⟨y,hy1,by rw [← e,e1]⟩) h1.1
  ·exact absurd (List.mem_map.2 ⟨x,hx1,by rw [e,e2]⟩) h1.1
  ·exact ih hx1 hy1 h1.2
theorem z9z {l:ML κ ν} {k:κ} {v:ν}:(l.map (fun x=>if x.1=k then (x.1,v,x.2.2) else x)).map (·.1)=l.map (·.1):=by
 rw [List.map_map];congr 1;funext x;simp only [Function.comp];split <;> rfl
theorem qbi {l:ML κ ν} {k:κ} {v:ν}:(l.map (fun x=>if x.1=k then (x.1,v,x.2.2) else x)).map (·.2.2)=l.map (·.2.2):=by
 rw [List.map_map];congr 1;funext x;simp only [Function.comp];split <;> rfl
theorem MOk.upd {ok:κ→Prop} {l:ML κ ν} {c:Nat} (h:MOk ok l c) {k:κ} (hk:ok k) (v:ν):MOk ok (zqn l k v c) (zxj l k c):=by
 cases hg:zcu l k with
 | some v' =>
  rw [zrn (by rw [hg];rfl),show zxj l k c=c from by simp [zxj,hg]]
  refine ⟨by rw [z9z];exact h.keys,by rw [qbi];exact h.born,?_,?_⟩
  ·intro x hx
   obtain ⟨y,hy,rfl⟩:=List.mem_map.1 hx
   split <;> exact h.old y hy
  ·intro x hx
   obtain ⟨y,hy,rfl⟩:=List.mem_map.1 hx
   split <;> exact h.fine y hy
 | none =>
  rw [znx hg,show zxj l k c=c+1 from by simp [zxj,hg]]
  have hn:=z0x hg
  refine ⟨?_,?_,?_,?_⟩
  ·rw [List.map_append,List.nodup_append]
   refine ⟨h.keys,by simp,?_⟩
   intro a ha b hb
   simp at hb;subst hb
   obtain ⟨y,hy,rfl⟩:=List.mem_map.1 ha
   exact hn y hy
  ·rw [List.map_append,List.nodup_append]
   refine ⟨h.born,by simp,?_⟩
   intro a ha b hb
   simp at hb;subst hb
   obtain ⟨y,hy,rfl⟩:=List.mem_map.1 ha
   have:=h.old y hy;omega
  ·intro x hx
   rcases List.mem_append.1 hx with hx | hx
   ·have:=h.old x hx;omega
   ·simp at hx;subst hx;simp
  ·intro x hx
   rcases List.mem_append.1 hx with hx | hx
   ·exact h.fine x hx
   ·simp at hx;subst hx;exact hk
theorem MOk.nil {ok:κ→Prop}:MOk (κ:=κ) (ν:=ν) ok [] 0:=⟨by simp,by simp,by simp,by simp⟩
theorem zyu {l:ML κ ν} {k k':κ} {v:ν} {c:Nat}:zcu (zqn l k v c) k'=if k'=k then some v else zcu l k':=by
 cases hg:zcu l k with
 | none =>
  rw [znx hg]
  simp only [zcu,List.find?_append]
  by_cases e:k'=k
  ·subst e
   have:l.find? (fun x=>x.1 == k')=none:=by simpa [zcu] using hg
   simp [this]
  ·have e':¬ k=k':=fun h=>e h.symm
   simp [e,e']
 | some v' =>
  rw [zrn (by rw [hg];rfl)]
  obtain ⟨c',hm⟩:=zf0 hg
  clear hg
  induction l with
  | nil=>cases hm
  | cons x l ih =>
   simp only [zcu,List.map_cons,List.find?_cons]
   by_cases ex:x.1=k
   ·by_cases e:k'=k
    ·subst e;simp [ex]
    ·have e':¬ x.1=k':=fun h=>e (by rw [← h,ex])
     simp only [ex,if_true,beq_eq_false_iff_ne.2 (ex ▸ e'),e,if_false]
     by_cases hml:(k,v',c') ∈ l
     ·have:=ih hml
      simp only [zcu,e,if_false] at this
      exact this
     ·have hnk:∀ y ∈ l,y.1=k'→(if y.1=k then (y.1,v,y.2.2) else y)=y:=by
       intro y _ hy;rw [if_neg (by rw [hy];exact e)]
      clear ih hm hml
      induction l with
      | nil=>rfl
      | cons y l ih2 =>
       simp only [List.map_cons,List.find?_cons]
       by_cases ey:y.1=k
       ·simp only [ey,if_true,beq_eq_false_iff_ne.2 (ex ▸ e')]
        exact ih2 fun z hz=>hnk z (by simp [hz])
       ·simp only [ey,if_false]
        by_cases ey':y.1=k'
        ·simp [ey']
        ·simp only [beq_eq_false_iff_ne.2 ey']
         exact ih2 fun z hz=>hnk z (by simp [hz])
   ·have hml:(k,v',c') ∈ l:=by
     rcases List.mem_cons.1 hm with h | h
     ·exact absurd (by rw [← h]) ex
     ·exact h
    simp only [ex,if_false]
    by_cases ex':x.1=k'
    ·subst ex';simp [ex]
    ·simp only [beq_eq_false_iff_ne.2 ex']
     exact ih hml
theorem qlu {l:ML κ ν} {k k':κ}:zcu (qdb l k) k'=if k'=k then none else zcu l k':=by
 induction l with
 | nil=>simp [qdb,zcu]
 | cons x l ih =>
  simp only [qdb,zcu,List.filter_cons] at ih ⊢
  by_cases ex:x.1=k
  ·simp only [ex,bne_self_eq_false,Bool.false_eq_true,if_false]
   rw [ih]
   by_cases e:k'=k
   ·simp [e]
   ·have e':¬ k=k':=fun h=>e h.symm
    simp only [e,if_false,List.find?_cons,ex,beq_eq_false_iff_ne.2 e']
  ·simp only [bne_iff_ne.2 ex,if_true,List.find?_cons]
   by_cases ex':x.1=k'
   ·subst ex';simp [ex]
   ·simp only [beq_eq_false_iff_ne.2 ex']
    exact ih
end
section heap
variable {P:Program} {w:World} {H:Heap} {κ:Type} [DecidableEq κ] {ok:κ→Prop} {enc:κ→Value} {mt kt et:TypeId} {m:Nat} {l:ML κ Value} {c:Nat}
theorem qln {o:Obj} {r:Nat} (hw:w.heap=H) (h:H[r]?=some o) (hno:∀ c e f,o ≠ .cells c e f):(getObj r).run P w=.ok o w:=by
 subst hw
 cases o <;> first | (exact absurd rfl (hno _ _ _)) | simp [getObj,Sem.run,h]
theorem qft {o o':Obj} {r:Nat} (hw:w.heap=H) (h:H[r]?=some o) (hno:∀ c e f,o ≠ .cells c e f):(setObj r o').run P w=.ok () { w with heap:=H.setIfInBounds r o' }:=by
 subst hw
 cases o <;> first | (exact absurd rfl (hno _ _ _)) | simp [setObj,Sem.run,h]
theorem zz5 {l:ML κ Value} {k:κ}:((l.findIdx? (fun x=>x.1 == k)).bind fun i=>(l[i]?).map fun x=>(i,x.2.1)).map (·.2)=zcu l k:=by
 induction l with
 | nil=>rfl
 | cons x l ih =>
  simp only [List.findIdx?_cons,zcu,List.find?_cons]
  by_cases e:x.1=k
  ·simp [e]
  ·simp only [beq_eq_false_iff_ne.2 e]
   refine Eq.trans ?_ ih
   cases List.findIdx? (fun x=>x.1 == k) l with
   | none=>simp
   | some i =>
    simp only [Bool.false_eq_true,if_false,Option.map_some,Option.bind_some,List.getElem?_cons_succ]
    cases l[i]? <;> rfl
theorem qmu (K:KeyOk P kt κ ok enc) (hu:P.underlying mt=some (.map kt et)) {z:Value} (hz:∀ w,(zeroValue et).run P w=.ok z w) (hw:w.heap=H) (hm:H[m]?=some (.map (ents enc l) c)) (hl:MOk ok l c) {k:κ} (hk:ok k) :
  (Instr.lookup mt (.map (some m)) (enc k) true).run P w=.ok (.tuple #[(zcu l k).getD z,.bool (zcu l k).isSome]) w:=by
 have hf:=K.find w k (ents enc l).toList l hk hl.fine (by simp [ents])
 have hg:=zz5 (l:=l) (k:=k)
 generalize ((l.findIdx? (fun x=>x.1 == k)).bind fun i=>(l[i]?).map fun x=>(i,x.2.1))=r at hf hg
 simp only [Instr.lookup,Sem.run_bind,xw hu,Result.andThen_ok,qln hw hm (by intros;simp),Sem.run_pure,K.chk w k _ hk,hf]
 rw [← hg]
 cases r with
 | none=>simp [hz]
 | some x=>simp
theorem qhd (hn:(l.map (·.1)).Nodup) {k:κ} {v:Value} {i:Nat} {x:κ × Value × Nat} (hi:l.findIdx? (fun x=>x.1 == k)=some i) (hx:l[i]?=some x) :
  (ents enc l).modify i (fun e=>{ e with key:=enc k,val:=v })=ents enc (l.map (fun x=>if x.1=k then (x.1,v,x.2.2) else x)):=by
 rw [List.findIdx?_eq_some_iff_getElem] at hi
 obtain ⟨hlt,hk,_⟩:=hi
 simp only [beq_iff_eq] at hk
 apply Array.ext_getElem?
 intro j
 rw [Array.getElem?_modify]
 simp only [ents,List.getElem?_toArray,List.getElem?_map,List.map_map]
 by_cases hj:i=j
 ·subst hj
  simp only [if_true]
  rw [List.getElem?_eq_getElem hlt]
  simp [hk]
 ·simp only [hj,if_false]
  by_cases hjl:j < l.length
  ·rw [List.getElem?_eq_getElem hjl]
   simp only [Option.map_some,Function.comp]
   have hne:l[j].1 ≠ k:=by
    intro e
    have:=List.pairwise_iff_getElem.1 hn
    rcases Nat.lt_or_gt_of_ne hj with h | h
    ·exact this i j (by simpa using hlt) (by simpa using hjl) h (by simp [hk,e])
    ·exact this j i (by simpa using hjl) (by simpa using hlt) h (by simp [hk,e])
   simp [hne]
  ·rw [List.getElem?_eq_none (by omega)];rfl
theorem qbp {k:κ} (h:zcu l k=none):l.findIdx? (fun x=>x.1 == k)=none:=by
 rw [List.findIdx?_eq_none_iff]
 intro x hx
 simp [z0x h x hx]
theorem z9i {k:κ} {v:Value} (h:zcu l k=some v):∃ i x,l.findIdx? (fun x=>x.1 == k)=some i∧l[i]?=some x∧x.1=k:=by
 cases hf:l.findIdx? (fun x=>x.1 == k) with
 | none =>
  rw [List.findIdx?_eq_none_iff] at hf
  obtain ⟨c,hm⟩:=zf0 h
  have:=hf _ hm
  simp at this
 | some i =>
  have h2:=List.findIdx?_eq_some_iff_getElem.1 hf
  obtain ⟨hlt,hk,_⟩:=h2
  simp only [beq_iff_eq] at hk
  exact ⟨i,l[i],rfl,List.getElem?_eq_getElem hlt,hk⟩
theorem qlk (K:KeyOk P kt κ ok enc) (hu:P.underlying mt=some (.map kt et)) (hw:w.heap=H) (hm:H[m]?=some (.map (ents enc l) c)) (hl:MOk ok l c) {k:κ} (hk:ok k) (v:Value) :
  (Instr.mapUpdate mt (.map (some m)) (enc k) v).run P w=.ok () { w with heap:=H.setIfInBounds m (.map (ents enc (zqn l k v c)) (zxj l k c)) }:=by
 have hf:=K.find w k (ents enc l).toList l hk hl.fine (by simp [ents])
 simp only [Instr.mapUpdate,Sem.run_bind,xw hu,Result.andThen_ok,qln hw hm (by intros;simp),K.chk w k _ hk,hf]
 cases hg:zcu l k with
 | none =>
  simp only [qbp hg,Option.bind_none]
  rw [qft hw hm (by intros;simp)]
  congr 4
  rw [znx hg]
  ·simp [ents]
  ·simp [zxj,hg]
 | some v' =>
  obtain ⟨i,x,hi,hx,hxk⟩:=z9i hg
  simp only [hi,Option.bind_some,hx,Option.map_some]
  have hkey:((ents enc l)[i]?.map (·.key)).getD (enc k)=enc k:=by
   simp [ents,hx,hxk]
  simp only [Sem.run_bind,hkey,Instr.keyThatStays,K.same k hk,if_true,Sem.run_pure,Result.andThen_ok]
  rw [qft hw hm (by intros;simp)]
  congr 4
  ·rw [qhd hl.keys hi hx,zrn (by rw [hg];rfl)]
  ·simp [zxj,hg]
theorem zvr (hw:w.heap=H):(Instr.makeMap mt none).run P w=.ok (.map (some H.size)) { w with heap:=H.push (.map #[] 0) }:=by
 subst hw;simp [Instr.makeMap]
theorem qjy (hu:P.underlying mt=some (.map kt et)) (hw:w.heap=H) (hm:H[m]?=some (.map (ents enc l) c)) :
  (Instr.range mt (.map (some m))).run P w=.ok (.pointer (some ⟨H.size,0,none⟩)) { w with heap:=H.push (.mapIter (some m) c #[] c) }:=by
 subst hw
 simp only [Instr.range,Sem.run_bind,xw hu,qln rfl hm (by intros;simp),Result.andThen_ok,Sem.run_pure,run_newObj]
theorem qpv {ty:TypeId} {r since last:Nat} {seen:Array Nat} (hw:w.heap=H) (hm:H[m]?=some (.map (ents enc l) c)) (hr:H[r]?=some (.mapIter (some m) since seen last)) (hold:∀ x ∈ l,x.2.2 < since) (hsl:since≤last) :
  ((∀ x ∈ l,x.2.2 ∈ seen)∧∃ w',(Instr.next (.pointer (some ⟨r,0,none⟩)) false ty).run P w=.ok (.tuple #[.bool false]) w'∧Calm w w'∧w'.heap=H) ∨
  ∃ x ∈ l,x.2.2 ∉ seen∧∃ w',(Instr.next (.pointer (some ⟨r,0,none⟩)) false ty).run P w=.ok (.tuple #[.bool true,enc x.1,x.2.1]) w'∧Calm w w'∧w'.heap=H.setIfInBounds r (.mapIter (some m) since (seen.push x.2.2) c):=by
 subst hw
 rcases run_next_at (P:=P) w ty r m since last seen (ents enc l) c hr hm (by intro x hx;simp only [ents] at hx;obtain ⟨y,hy,rfl⟩:=List.mem_map.1 hx;exact hold y hy) hsl with ⟨h0,h1⟩ | ⟨e,he,w1,hw1,h1⟩
 ·left
  refine ⟨fun x hx=>?_,w,h1,.refl w,rfl⟩
  have h2:leftOf (ents enc l) seen=#[]:=Array.eq_empty_of_size_eq_zero h0
  unfold leftOf at h2
  rw [Array.filter_eq_empty_iff] at h2
  have:=h2 ⟨enc x.1,x.2.1,x.2.2⟩ (by simp [ents];exact ⟨_,_,_,hx,rfl,rfl,rfl⟩)
  simpa using this
 ·right
  simp only [leftOf,ents,Array.toList_filter,List.mem_filter] at he
  obtain ⟨h2,h3⟩:=he
  obtain ⟨x,hx,rfl⟩:=List.mem_map.1 h2
  refine ⟨x,hx,by simpa using h3,_,h1,?_,?_⟩
  ·rcases hw1 with rfl | rfl <;> first | exact ⟨rfl,rfl,rfl,Nat.le_refl _⟩ | exact ⟨rfl,rfl,rfl,Nat.le_succ _⟩
  ·rcases hw1 with rfl | rfl <;> rfl
theorem qnq {r since last:Nat} {seen:Array Nat} (hw:w.heap=H) (hm:H[m]?=some (.map (ents enc l) c)) {x:κ × Value × Nat} (hr:H[r]?=some (.mapIter (some m) since (seen.push x.2.2) c)) (hx:x ∈ l) (hl:MOk ok l c) :
  (Instr.entry (.pointer (some ⟨r,0,none⟩))).run P w=.ok (.tuple #[enc x.1,x.2.1]) w:=by
 subst hw
 refine run_entry_at w r m since seen (ents enc l) c ⟨enc x.1,x.2.1,x.2.2⟩ hr hm (by simp only [ents];exact List.mem_map.2 ⟨x,hx,rfl⟩) ?_
 have:=hl.born
 simp only [ents,List.map_map]
 exact this
end heap
def vl {κ ν:Type} (ev:ν→Value) (l:ML κ ν):ML κ Value:=l.map fun x=>(x.1,ev x.2.1,x.2.2)
section views
variable {P:Program} {w:World} {H:Heap} {κ ν:Type} [DecidableEq κ] {ok:κ→Prop} {enc:κ→Value} {ev:ν→Value} {mt kt et:TypeId} {m:Nat} {l:ML κ ν} {c:Nat}
theorem zwl {k:κ}:zcu (vl ev l) k=(zcu l k).map ev:=by
 induction l with
 | nil=>rfl
 | cons x l ih =>
  simp only [vl,zcu,List.map_cons,List.find?_cons] at ih ⊢
  by_cases e:x.1=k
  ·simp [e]
  ·simp only [beq_eq_false_iff_ne.2 e];exact ih
theorem qot {k:κ} {v:ν}:zqn (vl ev l) k (ev v) c=vl ev (zqn l k v c):=by
 unfold zqn
 rw [zwl]
 cases zcu l k with
 | none=>simp [vl]
 | some v' =>
  simp only [Option.map_some,Option.isSome_some,if_true]
  simp only [vl,List.map_map]
  congr 1
  funext x
  simp only [Function.comp]
  split <;> rfl
theorem qoc {k:κ}:zxj (vl ev l) k c=zxj l k c:=by
 unfold zxj;rw [zwl];cases zcu l k <;> rfl
theorem MOk.vl (h:MOk ok l c):MOk ok (vl ev l) c:=by
 refine ⟨?_,?_,?_,?_⟩
 ·have:=h.keys;simp only [Fw.vl,List.map_map];exact this
 ·have:=h.born;simp only [Fw.vl,List.map_map];exact this
 ·intro x hx;obtain ⟨y,hy,rfl⟩:=List.mem_map.1 hx;exact h.old y hy
 ·intro x hx;obtain ⟨y,hy,rfl⟩:=List.mem_map.1 hx;exact h.fine y hy
theorem zkh (K:KeyOk P kt κ ok enc) (hu:P.underlying mt=some (.map kt et)) {z:Value} (hz:∀ w,(zeroValue et).run P w=.ok z w) (hw:w.heap=H) (hm:H[m]?=some (.map (ents enc (vl ev l)) c)) (hl:MOk ok l c) {k:κ} (hk:ok k) :
  (Instr.lookup mt (.map (some m)) (enc k) true).run P w=.ok (.tuple #[((zcu l k).map ev).getD z,.bool (zcu l k).isSome]) w:=by
 rw [qmu K hu hz hw hm hl.vl hk,zwl]
 cases zcu l k <;> rfl
theorem zu8 (K:KeyOk P kt κ ok enc) (hu:P.underlying mt=some (.map kt et)) (hw:w.heap=H) (hm:H[m]?=some (.map (ents enc (vl ev l)) c)) (hl:MOk ok l c) {k:κ} (hk:ok k) (v:ν) {y:Value} (hy:y=ev v) :
  (Instr.mapUpdate mt (.map (some m)) (enc k) y).run P w=.ok () { w with heap:=H.setIfInBounds m (.map (ents enc (vl ev (zqn l k v c))) (zxj l k c)) }:=by
 subst hy
 rw [qlk K hu hw hm hl.vl hk,qot,qoc]
theorem qnh {ty:TypeId} {r since last:Nat} {seen:Array Nat} (hw:w.heap=H) (hm:H[m]?=some (.map (ents enc (vl ev l)) c)) (hr:H[r]?=some (.mapIter (some m) since seen last)) (hold:∀ x ∈ l,x.2.2 < since) (hsl:since≤last) :
  ((∀ x ∈ l,x.2.2 ∈ seen)∧∃ w',(Instr.next (.pointer (some ⟨r,0,none⟩)) false ty).run P w=.ok (.tuple #[.bool false]) w'∧Calm w w'∧w'.heap=H) ∨
  ∃ x ∈ l,x.2.2 ∉ seen∧∃ w',(Instr.next (.pointer (some ⟨r,0,none⟩)) false ty).run P w=.ok (.tuple #[.bool true,enc x.1,ev x.2.1]) w'∧Calm w w'∧w'.heap=H.setIfInBounds r (.mapIter (some m) since (seen.push x.2.2) c):=by
 rcases qpv (P:=P) (ty:=ty) hw hm hr (by intro x hx;obtain ⟨y,hy,rfl⟩:=List.mem_map.1 hx;exact hold y hy) hsl with ⟨h1,h2⟩ | ⟨x,hx,h1,h2⟩
 ·exact .inl ⟨fun x hx=>h1 (x.1,ev x.2.1,x.2.2) (List.mem_map.2 ⟨x,hx,rfl⟩),h2⟩
 ·obtain ⟨y,hy,rfl⟩:=List.mem_map.1 hx
  exact .inr ⟨y,hy,h1,h2⟩
theorem qiv {r since last:Nat} {seen:Array Nat} (hw:w.heap=H) (hm:H[m]?=some (.map (ents enc (vl ev l)) c)) {x:κ × ν × Nat} (hr:H[r]?=some (.mapIter (some m) since (seen.push x.2.2) c)) (hx:x ∈ l) (hl:MOk ok l c) :
  (Instr.entry (.pointer (some ⟨r,0,none⟩))).run P w=.ok (.tuple #[enc x.1,ev x.2.1]) w :=
 qnq (x:=(x.1,ev x.2.1,x.2.2)) (last:=last) hw hm hr (List.mem_map.2 ⟨x,hx,rfl⟩) hl.vl
theorem qjl {seen:Array Nat} {x:κ × ν × Nat} (hx:x ∈ l) (hn:x.2.2 ∉ seen) :
  (l.filter fun y=>!(seen.push x.2.2).contains y.2.2).length < (l.filter fun y=>!seen.contains y.2.2).length:=by
 have hsub:∀ y:κ × ν × Nat,(!(seen.push x.2.2).contains y.2.2)=true→(!seen.contains y.2.2)=true:=by
  intro y hy
  simp only [Bool.not_eq_true',Array.contains_eq_mem,Array.mem_push,decide_eq_false_iff_not,not_or] at hy ⊢
  exact hy.1
 induction l with
 | nil=>cases hx
 | cons y l ih =>
  have hle:∀ l:ML κ ν,(l.filter fun y=>!(seen.push x.2.2).contains y.2.2).length≤(l.filter fun y=>!seen.contains y.2.2).length:=by
   intro l
   rw [← List.countP_eq_length_filter,← List.countP_eq_length_filter]
   exact List.countP_mono_left fun z _=>hsub z
  rcases List.mem_cons.1 hx with rfl | hx
  ·have h1:(!(seen.push x.2.2).contains x.2.2)=false:=by simp
   have h2:(!seen.contains x.2.2)=true:=by simp [hn]
   simp only [List.filter_cons,h1,h2,Bool.false_eq_true,if_false,if_true,List.length_cons]
   have:=hle l;omega
  ·have:=ih hx
   simp only [List.filter_cons]
   by_cases h:(!(seen.push x.2.2).contains y.2.2)=true
   ·simp only [h,hsub y h,if_true,List.length_cons];omega
   ·rw [if_neg h]
    by_cases h2:(!seen.contains y.2.2)=true
    ·rw [if_pos h2,List.length_cons];omega
    ·rw [if_neg h2];exact this
end views
def zck (x:Option Addr × Nat × Nat):Value:=.slice x.1 x.2.1 x.2.2
theorem zo4 {P:Program} {m:Sem Value} {l:List Sh} {w:World} {K:Tup l→Prop} (t:Tup l) (h:m.run P w=.ok (.tuple (Tup.vals l t).toArray) w) (hK:K t):qlg P m l w K:=⟨t,h,hK⟩
theorem z1p {v:Value} {i:Nat} {s:Sh} {K:s.T→Prop} {vs:Array Value} (t:s.T) (hv:v=.tuple vs) (h:vs[i]?=some (s.val t)) (hK:K t):exV v i s K:=⟨vs,t,hv,h,hK⟩
theorem zzp {P:Program} {m:Sem Unit} {w:World} {K:World→Prop} (w':World) (h:m.run P w=.ok () w') (hK:K w') (hc:Calm w w':=by first | exact ⟨rfl,rfl,rfl,Nat.le_refl _⟩ | exact ⟨rfl,rfl,rfl,Nat.le_succ _⟩):zbs P m w K:=⟨w',h,hc,hK⟩
section
variable {P:Program} {w:World}
theorem qjp {t e:TypeId} {n:Nat} {x y:Operand} (hu:P.underlying t=some (.array n e)) (he:P.underlying e=some (.int .u8)) (hc:P.cellsOf e=1) (hg:P.eqGuardType P.depth t=false) {A B:List UInt8} (hA:A.length=n) (hB:B.length=n) :
  (eqM .eql t x y (arr A) (arr B)).run P w=.ok (.bool (decide (A=B))) w:=by
 have h:=zzs (w:=w) hu he hc hA hB
 unfold arr at h ⊢
 simp [eqM,eqGuard,binOp,hg,h]
theorem zy2 {t e:TypeId} {n:Nat} {x y:Operand} (hu:P.underlying t=some (.array n e)) (he:P.underlying e=some (.int .u8)) (hc:P.cellsOf e=1) (hg:P.eqGuardType P.depth t=false) {A B:List UInt8} (hA:A.length=n) (hB:B.length=n) :
  (eqM .neq t x y (arr A) (arr B)).run P w=.ok (.bool (!decide (A=B))) w:=by
 have h:=zzs (w:=w) hu he hc hA hB
 unfold arr at h ⊢
 simp [eqM,eqGuard,binOp,hg,h]
end
def strOf (L:List UInt8):ByteArray:=⟨L.toArray⟩
theorem fold_push (L:List UInt8):∀ (s:ByteArray),(L.map fun b=>(b.toNat:Int)).foldl (fun r n=>r.push (UInt8.ofNat n.toNat)) s=⟨s.data++L.toArray⟩:=by
 induction L with
 | nil=>intro s;cases s;simp
 | cons b l ih =>
  intro s
  simp only [List.map_cons,List.foldl_cons]
  rw [ih]
  cases s
  simp [ByteArray.push]
section
variable {P:Program} {w:World} {H:Heap}
theorem zph {st sd e:TypeId} {a:Option Addr} {l c:Nat} {L:List UInt8} (hs:P.underlying st=some (.slice e)) (he:P.underlying e=some (.int .u8)) (hd:P.underlying sd=some .string) (hw:w.heap=H) (hL:Cells H a (byteCells L)) (hl:l=L.length) :
  (convert st sd (.slice a l c)).run P w=.ok (.string (strOf L)) w:=by
 subst hl
 rw [run_convert_bytes_string w st sd e a _ c hs he hd]
 cases a with
 | none =>
  have:L=[]:=by
   rcases hL with h | ⟨b,o,c,T,fr,h,_⟩
   ·simpa [byteCells] using h
   ·cases h
  subst this
  rfl
 | some a =>
  have hcs:(loadCells a L.length).run P w=.ok ((L.map fun b=>(b.toNat:Int)).map (Value.int .u8)).toArray w:=by
   rw [List.map_map]
   rcases hL with h | ⟨b,o,c,T,fr,h,hb,hn,hc⟩
   ·have:L=[]:=by simpa [byteCells] using h
    subst this
    rfl
   ·cases h
    rw [jh] at hn
    rw [zun hw hb hn]
    congr 1
    rw [jh] at hc
    apply Array.ext'
    rw [hc]
    rfl
  rw [run_bytesToString w a L.length c _ hcs,fold_push]
  simp [strOf]
theorem qqe {st e:TypeId} {b o l c:Nat} {cc:Array Value} {T:TypeId} (hs:P.underlying st=some (.slice e)) (he:P.underlying e=some (.int .u8)) (hw:w.heap=H) (hb:H[b]?=some (.cells cc T (0,0))) :
  ∃ w',(convert st st (.slice (some ⟨b,o,none⟩) l c)).run P w=.ok (.slice (some ⟨b,o,none⟩) l c) w'∧Calm w w'∧w'.heap=H.setIfInBounds b (.cells cc T (cc.size,cc.size+1)):=by
 subst hw
 refine ⟨w.freeze { block:=b,off:=cc.size } 1,?_,⟨rfl,rfl,rfl,Nat.le_refl _⟩,?_⟩
 ·simp only [convert,Sem.run_bind,xw hs,xw he,Result.andThen_ok,beq_self_eq_true,markStringish,run_shape,World.shape?,hb,run_freeze,Sem.run_pure]
 ·simp only [World.freeze,Nat.succ_ne_zero,if_false]
  apply Array.ext_getElem?
  intro i
  rw [Array.getElem?_modify,Array.getElem?_setIfInBounds]
  by_cases e:b=i
  ·subst e
   have:=lt_of_get hb
   simp only [if_true,this,hb,Option.map_some]
   rfl
  ·simp [e]
theorem z5g {a:Addr} {vs:List Value} (hw:w.heap=H) (h:Cells H (some a) vs) {i:Nat} {v:Value} (hi:vs[i]?=some v):w.cell? (a.add i)=some v:=by
 have hlt:=(List.getElem?_eq_some_iff.1 hi).1
 rcases h with h | ⟨b,o,c,T,fr,h,hb,hn,hc⟩
 ·subst h;simp at hlt
 ·cases h
  rw [jv,z5a hw hb]
  rw [← hc,Array.getElem?_toList,Array.getElem?_extract] at hi
  split at hi
  ·exact hi
  ·cases hi
theorem z0f {a:Option Addr} {l c:Nat} {L:List UInt8} (hw:w.heap=H) (hL:Cells H a (byteCells L)) (hl:l=L.length):(Extern.Bytes.bytesOf (.slice a l c)).run P w=.ok (strOf L) w:=by
 subst hl
 cases a with
 | none =>
  have:L=[]:=by
   rcases hL with h | ⟨b,o,c,T,fr,h,_⟩
   ·simpa [byteCells] using h
   ·cases h
  subst this
  rfl
 | some a =>
  simp only [Extern.Bytes.bytesOf]
  have h:=Lib.run_loadBytesX (P:=P) w (L.map fun b=>(b.toNat:Int)) a .empty fun j x hj=>z5g hw hL (by
   rw [List.getElem?_map] at hj
   obtain ⟨b,hb,rfl⟩:=Option.map_eq_some_iff.1 hj
   simp [byteCells,hb])
  rw [List.length_map] at h
  rw [h]
  simp [strOf,Lib.bytesOf,Function.comp_def]
theorem z3j {a a':Option Addr} {l c l' c':Nat} {L L':List UInt8} (hw:w.heap=H) (hL:Cells H a (byteCells L)) (hl:l=L.length) (hL':Cells H a' (byteCells L')) (hl':l'=L'.length) :
  (Extern.BytealgCompare.compare #[.slice a l c,.slice a' l' c']).run P w=.ok (.int .i64 (Lib.compareBytes L L')) w:=by
 change Sem.run P (do pure (goInt (Extern.BytealgCompare.cmp (← Extern.Bytes.bytesOf (.slice a l c)) (← Extern.Bytes.bytesOf (.slice a' l' c'))))) w=_
 simp only [Sem.run_bind,z0f hw hL hl,z0f hw hL' hl',Sem.run_pure,Result.andThen_ok]
 rw [Lib.cmp_eq]
 rfl
end
open Go.Proofs Go.Shelf Go.RowKit Go.Lib Go.Sort
theorem getElem_flatMap {α:Type} {k:Nat} (enc:α→List Value) (hk:∀ x,(enc x).length=k) (h0:0 < k):∀ (xs:List α) (t:Nat),(xs.flatMap enc)[t]?=(xs[t / k]?).bind fun x=>(enc x)[t % k]?
 | [],t=>by simp
 | x :: xs,t=>by
  rw [List.flatMap_cons]
  by_cases ht:t < k
  ·rw [List.getElem?_append_left (by rw [hk];exact ht),Nat.div_eq_of_lt ht,Nat.mod_eq_of_lt ht]
   simp
  ·rw [List.getElem?_append_right (by rw [hk];omega),hk,getElem_flatMap enc hk h0 xs (t - k)]
   have h1:t / k=(t - k) / k+1:=by
    rw [Nat.div_eq_sub_div h0 (by omega)]
   have h2:t % k=(t - k) % k:=by rw [Nat.mod_eq_sub_mod (by omega)]
   rw [h1,h2]
   simp
theorem qj {α:Type} {k:Nat} (enc:α→List Value) (hk:∀ x,(enc x).length=k) (xs:List α):(xs.flatMap enc).length=xs.length * k:=by
 induction xs with
 | nil=>simp
 | cons x r ih=>rw [List.flatMap_cons,List.length_append,hk,ih,List.length_cons,Nat.add_mul];omega
theorem z9m {α:Type} [Inhabited α] {k:Nat} (enc:α→List Value) (hk:∀ x,(enc x).length=k) (h0:0 < k) (d:Array α) (t:Nat) (h:t < d.size * k):(d.toList.flatMap enc)[t]?=some (flatK enc k d)[t]!:=by
 rw [getElem_flatMap enc hk h0,get_flatK enc k d t h]
 have h1:t / k < d.size:=(Nat.div_lt_iff_lt_mul h0).2 h
 have h2:t % k < k:=Nat.mod_lt _ h0
 simp only [Array.getElem?_toList]
 rw [Array.getElem?_eq_getElem h1,Option.bind_some,List.getElem?_eq_getElem (by rw [hk];exact h2),getElem!_pos d _ h1,getElem!_pos _ _ (by rw [hk];exact h2)]
theorem grown_of {W W':World} (hx:Ext [] W.heap W'.heap) (hc:Calm W W'):∃ q os',W'=grow (W.drewN q) os':=by
 refine ⟨W'.drawn - W.drawn,W'.heap.extract W.heap.size W'.heap.size,?_⟩
 obtain ⟨h1,h2⟩:=hx
 have hh:W'.heap=W.heap++W'.heap.extract W.heap.size W'.heap.size:=by
  apply Array.ext_getElem?
  intro i
  by_cases hi:i < W.heap.size
  ·rw [Array.getElem?_append_left hi];exact h2 i hi (by simp)
  ·rw [Array.getElem?_append_right (by omega),Array.getElem?_extract]
   by_cases hi':i < W'.heap.size
   ·rw [if_pos (by omega)];congr 1;omega
   ·rw [if_neg (by omega),Array.getElem?_eq_none (by omega)]
 obtain ⟨c1,c2,c3,c4⟩:=hc
 cases W' with
 | mk h t d o u =>
  simp only at hh c1 c2 c3 c4
  subst c1 c2 c3
  unfold grow World.drewN
  simp only [World.mk.injEq,and_self,and_true]
  exact ⟨hh,trivial,(Nat.add_sub_cancel' c4).symm⟩
variable {P:Program} {ρ:Ren} {α:Type} [Inhabited α]
def Beside (B:Nat) (W W':World):Prop:=∃ r,B≤r∧(∀ o,W.heap[r]?=some o→zlp o)∧Ext [r] W.heap W'.heap
theorem Beside.new {B:Nat} {W W':World} (hB:B≤W.heap.size) (hx:Ext [] W.heap W'.heap):Beside B W W' :=
 ⟨W.heap.size,hB,fun o h=>by have:=(Array.getElem?_eq_some_iff.1 h).1;omega,hx.mono (by simp)⟩
theorem Beside.size {B:Nat} {W W':World} (h:Beside B W W'):W.heap.size≤W'.heap.size:=by
 obtain ⟨r,_,_,h⟩:=h;exact h.1
theorem Beside.cells {B:Nat} {W W':World} (h:Beside B W W') {b:Nat} {c:Array Value} {T:TypeId} {fr:Nat × Nat} (hb:W.heap[b]?=some (.cells c T fr)):W'.heap[b]?=some (.cells c T fr):=by
 obtain ⟨r,_,hn,hx⟩:=h
 refine hx.get hb fun hm=>?_
 simp only [List.mem_singleton] at hm
 subst hm
 exact hn _ hb c T fr rfl
theorem Beside.old {B:Nat} {W W':World} (h:Beside B W W') {b:Nat} (hb:b < B) (hlt:b < W.heap.size):W'.heap[b]?=W.heap[b]?:=by
 obtain ⟨r,hB,_,hx⟩:=h
 exact hx.2 b hlt (by simp;omega)
theorem Beside.ext {B:Nat} {W W':World} (h:Beside B W W') {M:List Nat} {H:Heap} (hH:H.size≤B) (hx:Ext M H W.heap):Ext M H W'.heap :=
 ⟨Nat.le_trans hx.1 h.size,fun b hb hn=>(h.old (Nat.lt_of_lt_of_le hb hH) (Nat.lt_of_lt_of_le hb hx.1)).trans (hx.2 b hb hn)⟩
theorem Beside.mine {B B':Nat} {W W':World} (h:Beside B' W W') {T:TypeId} {sz:Nat} {x:Option Addr × Nat × Nat} {vs:List Value} (hM:Mine W.heap B T sz x vs):Mine W'.heap B T sz x vs:=by
 rcases hM with h0 | ⟨b,c,h1,h2,h3,h4⟩
 ·exact .inl h0
 ·exact .inr ⟨b,c,h1,h2,h.cells h3,h4⟩
theorem Beside.own {B:Nat} {W W':World} (h:Beside B W W') {a:Option Addr} {vs:List Value} (hM:Cells W.heap a vs):Cells W'.heap a vs:=by
 rcases hM with h0 | ⟨b,o,c,T,fr,h1,h2,h3⟩
 ·exact .inl h0
 ·exact .inr ⟨b,o,c,T,fr,h1,h.cells h2,h3⟩
theorem Beside.mono {B B':Nat} {W W':World} (h:Beside B W W') (hB:B'≤B):Beside B' W W':=by
 obtain ⟨r,h2,h3⟩:=h;exact ⟨r,Nat.le_trans hB h2,h3⟩
theorem zce {W:World} {l:Nat} {o:Obj}:(W.putObj l o).heap=W.heap.setIfInBounds l o:=by
 apply Array.ext_getElem?
 intro i
 by_cases h:l=i
 ·subst h
  by_cases hl:l < W.heap.size
  ·rw [World.putObj_heap_same hl,Array.getElem?_setIfInBounds_self_of_lt hl]
  ·rw [Array.getElem?_eq_none (by simp;omega),Array.getElem?_eq_none (by simpa [World.putObj] using hl)]
 ·rw [World.putObj_heap_other (by omega),Array.getElem?_setIfInBounds_ne h]
theorem Beside.put {B:Nat} {W:World} {l:Nat} {o o':Obj} (hB:B≤l) (hl:W.heap[l]?=some o) (ho:zlp o):Beside B W (W.putObj l o'):=by
 refine ⟨l,hB,fun x hx=>?_,?_⟩
 ·rw [hl] at hx;cases hx;exact ho
 ·rw [zce]
  exact ⟨by simp,fun b _ hn=>Array.getElem?_setIfInBounds_ne (by rintro rfl;exact hn (by simp))⟩
def Keep (M:List Nat) (B:Nat) (H H':Heap):Prop:=H.size≤H'.size∧(∀ b,b < B→b < H.size→b ∉ M→H'[b]?=H[b]?)∧∀ b o,B≤b→H[b]?=some o→zlp o→H'[b]?=some o
theorem Keep.refl (M:List Nat) (B:Nat) (H:Heap):Keep M B H H:=⟨Nat.le_refl _,fun _ _ _ _=>rfl,fun _ _ _ h _=>h⟩
theorem Keep.trans {M:List Nat} {B:Nat} {H H' H'':Heap} (h:Keep M B H H') (h':Keep M B H' H''):Keep M B H H'' :=
 ⟨Nat.le_trans h.1 h'.1,fun b hb hl hn=>(h'.2.1 b hb (Nat.lt_of_lt_of_le hl h.1) hn).trans (h.2.1 b hb hl hn),fun b o hb ho hn=>h'.2.2 b o hb (h.2.2 b o hb ho hn) hn⟩
theorem Keep.of {M M':List Nat} {B:Nat} {H H':Heap} (h:Ext M' H H') (hM:∀ b ∈ M',b ∈ M ∨ (B≤b∧∃ c T fr,H[b]?=some (.cells c T fr))) (hlt:∀ b ∈ M,b < B):Keep M B H H':=by
 refine ⟨h.1,fun b hb hl hn=>h.2 b hl fun hm=>?_,fun b o hb ho hn=>?_⟩
 ·rcases hM b hm with h1 | ⟨h1,_⟩
  ·exact hn h1
  ·omega
 ·refine h.get ho fun hm=>?_
  rcases hM b hm with h1 | ⟨_,c,T,fr,h1⟩
  ·have:=hlt b h1;omega
  ·rw [ho] at h1;cases h1;exact hn c T fr rfl
theorem Keep.new {M:List Nat} {B:Nat} {H H':Heap} (h:Ext [] H H'):Keep M B H H':=⟨h.1,fun b _ hl _=>h.2 b hl (by simp),fun b o _ ho _=>h.get ho (by simp)⟩
theorem Keep.get {M:List Nat} {B:Nat} {H H':Heap} (h:Keep M B H H') {b:Nat} {o:Obj} (hb:H[b]?=some o) (hB:b < B) (hM:b ∉ M):H'[b]?=some o:=(h.2.1 b hB (lt_of_get hb) hM).trans hb
theorem Keep.ext {M M0:List Nat} {B:Nat} {H0 H H':Heap} (h:Keep M B H H') (h0:Ext M0 H0 H) (hB:H0.size≤B) (hM:∀ b,b < H0.size→b ∈ M→b ∈ M0):Ext M0 H0 H' :=
 ⟨Nat.le_trans h0.1 h.1,fun b hb hn=>(h.2.1 b (Nat.lt_of_lt_of_le hb hB) (Nat.lt_of_lt_of_le hb h0.1) fun hm=>hn (hM b hb hm)).trans (h0.2 b hb hn)⟩
def qnl (P:Program) {α:Type} (gv:Value) (S:List α→Prop) (nx:List α→α→Prop) (enc:α→Array Value) (fp:List Nat) (w:World):Prop :=
 ∃ gf lb,gv=.func (.func gf) #[] lb∧∀ (l:Nat) (I:List α→World→Prop) (J:World→Prop) (w1:World) (M:List Nat),
  Ext [] w.heap w1.heap→(∀ b ∈ M,b < w1.heap.size∧b ∉ fp)→(∀ pre W W',I pre W→Beside w1.heap.size W W'→I pre W')→I [] w1 →
  (∀ pre x W,nx pre x→I pre W→zxr P l (enc x) W fun e W'=>Keep M w1.heap.size W.heap W'.heap∧((e=.returned (.bool true)∧I (pre++[x]) W') ∨ (e=.returned (.bool false)∧J W'))) →
  qg P gf (#[.func (.yield l) #[] #[]]++lb) w1 fun e W=>(∃ v,e=.returned v)∧((∃ xs,S xs∧I xs W) ∨ J W)
theorem qnl.later {P:Program} {α:Type} {gv:Value} {S:List α→Prop} {nx:List α→α→Prop} {enc:α→Array Value} {fp:List Nat} {w w':World} (h:qnl P gv S nx enc fp w) (hx:Ext [] w.heap w'.heap):qnl P gv S nx enc fp w':=by
 obtain ⟨gf,lb,hg,h⟩:=h
 exact ⟨gf,lb,hg,fun l I J w1 M h1=>h l I J w1 M (hx.trans h1)⟩
theorem zxr.mono {P:Program} {l:Nat} {args:Array Value} {w:World} {R R':Ending→World→Prop} (h:zxr P l args w R) (hr:∀ e w',R e w'→R' e w'):zxr P l args w R':=by
 obtain ⟨fn,tm,as1,bd,h1,h2⟩:=h
 exact ⟨fn,tm,as1,bd,h1,h2.mono fun e w' ⟨h,hc⟩=>⟨hr e w' h,hc⟩⟩
theorem ztt {P:Program} {l:Nat} {args:Array Value} {shs:List Sh} {tup:Bool} {w:World} {K:Tup shs→World→Prop} (h:zxr P l args w fun e w'=>∃ t,e=.returned (zqr shs tup t).2∧K t w') :
  z3w P (.func (.yield l) #[] #[]) args shs tup w K:=.yield l rfl h
theorem zsb {P:Program} {f:Nat} {args cap:Array Value} {shs:List Sh} {tup:Bool} {w:World} {K:Tup shs→World→Prop} (h:qg P f (args++cap) w fun e w'=>∃ t,e=.returned (zqr shs tup t).2∧K t w') :
  z3w P (.func (.func f) #[] cap) args shs tup w K:=.func f #[] cap rfl (by simpa using h)
theorem qge {P:Program} {α:Type} {gv:Value} {S:List α→Prop} {nx:List α→α→Prop} {shs:List Sh} {tv:α→Tup shs} {fp:List Nat} {w:World}
  {body:Tup shs→World→(World→(World→Prop)→Prop)→(World→Prop)→(World→Prop)→(Nat→World→Prop)→Prop} {done ret:Nat→World→Prop} {ext:Nat→Nat→World→Prop}
  (hseq:qnl P gv S nx (fun x=>(Tup.vals shs (tv x)).toArray) fp w) (M:List Nat) (hM:∀ b ∈ M,b < w.heap.size∧b ∉ fp) (hfp:∀ b ∈ fp,b < w.heap.size)
  (I:List α→World→Prop) (Jr:World→Prop) (Jx:Nat→World→Prop)
  (hI:∀ pre W W',I pre W→Beside w.heap.size W W'→I pre W') (hJr:∀ W W',Jr W→Beside w.heap.size W W'→Jr W') (hJx:∀ i W W',Jx i W→Beside w.heap.size W W'→Jx i W')
  (h0:I [] w)
  (hbody:∀ pre x W,nx pre x→I pre W→w.heap.size+2≤W.heap.size→∀ (beg:World→(World→Prop)→Prop) (kc kr:World→Prop) (kx:Nat→World→Prop),
   (∀ W1 (K:World→Prop),Ext [] W.heap W1.heap→(∀ W2,Beside w.heap.size W1 W2→W2.heap.size=W1.heap.size →
    (∀ W3,Keep M w.heap.size W2.heap W3.heap→I (pre++[x]) W3→kc W3)→(∀ W3,Keep M w.heap.size W2.heap W3.heap→Jr W3→kr W3)→(∀ i W3,Keep M w.heap.size W2.heap W3.heap→Jx i W3→kx i W3)→K W2)→beg W1 K) →
   body (tv x) W beg kc kr kx)
  (hdone:∀ xs W,S xs→I xs W→W.heap[w.heap.size]?=some (.deferred (some []))→done w.heap.size W)
  (hret:∀ W,Jr W→W.heap[w.heap.size]?=some (.deferred (some []))→ret w.heap.size W)
  (hext:∀ i W,Jx i W→W.heap[w.heap.size]?=some (.deferred (some []))→ext i w.heap.size W) :
  z5t P shs gv w body done ret ext:=by
 obtain ⟨gf,lb,hg,hseq⟩:=hseq
 refine ⟨gf,lb,hg,fun oD oL oB oX oE hD hno w1 hw1 hY=>?_⟩
 obtain ⟨hnL,hnB,hnX,hnE⟩:=hno
 have hx1:Ext [] w.heap w1.heap:=by rw [hw1];exact (Ext.push _).trans (Ext.push _)
 have hs1:w1.heap.size=w.heap.size+2:=by rw [hw1];simp
 have hD1:w1.heap[w.heap.size]?=some oD:=by rw [hw1];exact zet zo
 have hL1:w1.heap[w.heap.size+1]?=some oL:=by
  rw [hw1]
  have:=zo (H:=w.heap.push oD) (o:=oL)
  simpa using this
 have hDc:zlp oD:=by rw [hD];intro c T fr h;cases h
 have key:∀ {W W':World} {r:Nat} {o:Obj},(∀ o,W.heap[r]?=some o→zlp o)→w1.heap.size≤r→Ext [r] W.heap W'.heap→∀ b,b < w.heap.size+2→W.heap[b]?=some o→W'.heap[b]?=some o :=
  fun _ hr hx b hb hbo=>hx.get hbo (by simp;omega)
 refine (hseq (w.heap.size+1)
  (fun pre W=>I pre W∧W.heap[w.heap.size]?=some oD∧W.heap[w.heap.size+1]?=some oL)
  (fun W=>W.heap[w.heap.size]?=some oD∧((Jr W∧W.heap[w.heap.size+1]?=some (oX .ret)) ∨ ∃ i,Jx i W∧W.heap[w.heap.size+1]?=some (oX (.exit i))))
  w1 ((w.heap.size+1) :: M) hx1 ?_ ?_ ⟨hI _ _ _ h0 (.new (Nat.le_refl _) hx1),hD1,hL1⟩ ?_).mono ?_
 ·intro b hb
  rcases List.mem_cons.1 hb with rfl | hb
  ·exact ⟨by omega,fun h=>by have:=hfp _ h;omega⟩
  ·exact ⟨by have:=(hM b hb).1;omega,(hM b hb).2⟩
 ·rintro pre W W' ⟨h1,h2,h3⟩ hA
  have hA':=hA
  obtain ⟨r,hr,hn,hx⟩:=hA'
  exact ⟨hI _ _ _ h1 (hA.mono (by omega)),key hn hr hx _ (by omega) h2,key hn hr hx _ (by omega) h3⟩
 ·rintro pre x W hnx ⟨h1,h2,h3⟩
  have hlt:w.heap.size+1 < W.heap.size:=(Array.getElem?_eq_some_iff.1 h3).1
  refine hY (tv x) W _ h3 (hbody pre x W hnx h1 (by omega) _ _ _ _ ?_)
  intro W1 K hxW1 hK
  have h31:W1.heap[w.heap.size+1]?=some oL:=hxW1.get h3 (by simp)
  have h21:W1.heap[w.heap.size]?=some oD:=hxW1.get h2 (by simp)
  refine ⟨h31,fun W2 hW2=>?_⟩
  have hlt1:w.heap.size+1 < W1.heap.size:=(Array.getElem?_eq_some_iff.1 h31).1
  have hh2:W2.heap=W1.heap.setIfInBounds (w.heap.size+1) oB:=by rw [hW2,zce]
  have h32:W2.heap[w.heap.size+1]?=some oB:=by rw [hh2];exact Array.getElem?_setIfInBounds_self_of_lt hlt1
  have h22:W2.heap[w.heap.size]?=some oD:=by rw [hh2,Array.getElem?_setIfInBounds_ne (by omega)];exact h21
  have fin:∀ (o':Obj) (W3:World),Keep M w.heap.size W2.heap W3.heap→W3.heap[w.heap.size+1]?=some oB∧Keep ((w.heap.size+1) :: M) w1.heap.size W.heap (W3.putObj (w.heap.size+1) o').heap∧(W3.putObj (w.heap.size+1) o').heap[w.heap.size]?=some oD ∧
    (W3.putObj (w.heap.size+1) o').heap[w.heap.size+1]?=some o'∧Beside w.heap.size W3 (W3.putObj (w.heap.size+1) o'):=by
   intro o' W3 hx3
   have h33:W3.heap[w.heap.size+1]?=some oB:=hx3.2.2 _ _ (by omega) h32 hnB
   have h23:W3.heap[w.heap.size]?=some oD:=hx3.2.2 _ _ (Nat.le_refl _) h22 hDc
   have hlt3:w.heap.size+1 < W3.heap.size:=(Array.getElem?_eq_some_iff.1 h33).1
   have hn2:∀ b,b ≠ w.heap.size+1→W2.heap[b]?=W1.heap[b]?:=fun b hb=>by rw [hh2];exact Array.getElem?_setIfInBounds_ne (Ne.symm hb)
   have hn4:∀ b,b ≠ w.heap.size+1→(W3.putObj (w.heap.size+1) o').heap[b]?=W3.heap[b]?:=fun b hb=>by rw [zce];exact Array.getElem?_setIfInBounds_ne (Ne.symm hb)
   have hs2:W2.heap.size=W1.heap.size:=by rw [hh2];simp
   refine ⟨h33,⟨?_,?_,?_⟩,?_,?_,.put (by omega) h33 hnB⟩
   ·rw [zce]
    have:=hxW1.1;have:=hx3.1
    simp;omega
   ·intro b hb hl hn
    simp only [List.mem_cons,not_or] at hn
    rw [hn4 b hn.1]
    by_cases hbD:b=w.heap.size
    ·rw [hbD,h23,h2]
    ·rw [hx3.2.1 b (by omega) (by have:=hxW1.1;omega) hn.2,hn2 b hn.1]
     exact hxW1.2 b hl (by simp)
   ·intro b o hb ho hno
    rw [hn4 b (by omega)]
    exact hx3.2.2 b o (by omega) (by rw [hn2 b (by omega)];exact hxW1.get ho (by simp)) hno
   ·rw [hn4 _ (by omega)];exact h23
   ·rw [zce];exact Array.getElem?_setIfInBounds_self_of_lt hlt3
  refine hK W2 (by rw [hW2];exact .put (by omega) h31 hnL) (by rw [hh2];simp) (fun W3 hx3 h=>?_) (fun W3 hx3 h=>?_) (fun i W3 hx3 h=>?_)
  ·obtain ⟨a,b,c,d,e⟩:=fin oL W3 hx3
   exact ⟨a,b,.inl ⟨rfl,hI _ _ _ h e,c,d⟩⟩
  ·obtain ⟨a,b,c,d,e⟩:=fin (oX .ret) W3 hx3
   exact ⟨a,b,.inr ⟨rfl,c,.inl ⟨hJr _ _ h e,d⟩⟩⟩
  ·obtain ⟨a,b,c,d,e⟩:=fin (oX (.exit i)) W3 hx3
   exact ⟨a,b,.inr ⟨rfl,c,.inr ⟨i,hJx _ _ _ h e,d⟩⟩⟩
 ·have put:∀ {W:World} {o o':Obj},W.heap[w.heap.size]?=some oD→(W.putObj (w.heap.size+1) o').heap[w.heap.size]?=some (.deferred (some [])):=by
   intro W o o' h
   rw [zce,Array.getElem?_setIfInBounds_ne (by omega),h,hD]
  rintro e W ⟨hv,⟨xs,hS,h1,h2,h3⟩ | ⟨h2,⟨h1,h3⟩ | ⟨i,h1,h3⟩⟩⟩
  ·exact ⟨hv,.inl ⟨h3,hdone xs _ hS (hI _ _ _ h1 (.put (by omega) h3 hnL)) (put (o:=oD) h2)⟩⟩
  ·exact ⟨hv,.inr (.inl ⟨h3,hret _ (hJr _ _ h1 (.put (by omega) h3 (hnX _))) (put (o:=oD) h2)⟩)⟩
  ·exact ⟨hv,.inr (.inr ⟨i,h3,hext i _ (hJx _ _ _ h1 (.put (by omega) h3 (hnX _))) (put (o:=oD) h2)⟩)⟩
theorem qhl {P:Program} {w:World} {H:Heap} {y:TypeId} {v:Value} (hs:P.cellsOf y=v.cells.size) (hz:(zc P y).size=v.cells.size) (h0:v.cells.size ≠ 0) (h1:zc2 v.cells.toList) (hw:w.heap=H) {K:Nat→World→Prop}
  (hK:∀ w',w'.heap=H.push (.cells v.cells y (0,0))→K H.size w'):zbj (zc P y) y w fun b w1=>zbs P (storeVar y (⟨b,0,none⟩:Addr) v) w1 fun w2=>K b w2:=by
 refine jw hw fun w1 hw1=>?_
 refine zbw hs h0 h1 hw1 zo (by omega) fun w2 hw2=>hK w2 ?_
 rw [hw2,zax (by simpa using hz.symm)]
 apply Array.ext_getElem?
 intro i
 by_cases h:H.size=i
 ·subst h
  simp
 ·rw [Array.getElem?_setIfInBounds_ne h]
  by_cases hi:i < H.size
  ·rw [zet (Array.getElem?_eq_getElem hi),zet (Array.getElem?_eq_getElem hi)]
  ·rw [Array.getElem?_eq_none (by simp;omega),Array.getElem?_eq_none (by simp;omega)]
def Elem (P:Program) (e:TypeId) (sz bts:Nat):Prop:=∃ info z,P.info? e=some info∧info.size=sz∧info.zero=some z∧z.cells.size=sz∧info.bytes=bts
theorem zno {P:Program} {e:TypeId} {sz bts:Nat} {z:Value} (h:(P.info? e).map (fun i=>(i.size,i.bytes,i.zero))=some (sz,bts,some z)) (hz:z.cells.size=sz):Elem P e sz bts:=by
 obtain ⟨i,hi,h⟩:=Option.map_eq_some_iff.1 h
 simp only [Prod.mk.injEq] at h
 exact ⟨i,z,hi,h.1,h.2.2,hz,h.2.1⟩
theorem zcf {P:Program} {w:World} {H:Heap} {st xt e ty:TypeId} {sz bts B:Nat} {x:Option Addr × Nat × Nat} {y:Value} {n:Nat} {vs us:List Value} (E:Elem P e sz bts) (hb:bts ≠ 0) (hu:P.underlying st=some (.slice e)) (hx:∃ d,P.underlying xt=some d∧∀ k,d ≠ .int k)
  (hw:w.heap=H) (hown:Mine H B e sz x vs) (hB:B≤H.size) (hsrc:Src P w y sz n us) (h1:zc2 us) (hroom:(2 * (x.2.1+n)+192) * bts≤281474976710656) {K:(Option Addr × Nat × Nat)→World→Prop}
  (hK:∀ x' w',Mine w'.heap B e sz x' (vs++us)→x'.2.1=x.2.1+n→Ext (jf x) H w'.heap→(∀ b,b ∈ jf x'→b ∈ jf x ∨ H.size≤b)→K x' w') :
  zaf P (Builtin.append_ #[st,xt] ty #[.slice x.1 x.2.1 x.2.2,y]) .slc w K:=by
 obtain ⟨i,z,hi,hs,hz,hzs,hbb⟩:=E
 obtain ⟨x',w',h2,hc,h3,h4,h5,h6⟩:=qgh (ty:=ty) hu hx hi hs hz hzs (by omega) hw hown hB hsrc h1 (by rw [hbb];exact hroom)
 exact zae x' w' h2 (hK x' w' h3 h4 h5 h6) hc
theorem za4 {P:Program} {st e:TypeId} (hu:P.underlying st=some (.slice e)):∃ d,P.underlying st=some d∧∀ k,d ≠ .int k:=⟨_,hu,by intro k h;cases h⟩
theorem zgx {P:Program} {w:World} {H:Heap} {a:Option Addr} {len sz:Nat} {α:Type} {enc:α→List Value} (hk:∀ x,(enc x).length=sz) (h0:0 < sz) {xs:List α} {v:α} {i:Nat} {n:Int} (hw:w.heap=H) (hL:Cells H a (xs.flatMap enc))
  (hlen:len=xs.length) (hi:xs[i]?=some v) (hn:n=(i:Int)) {K:Array Value→Prop} (hK:K (enc v).toArray):ixS a len sz n fun p=>ldA P sz p w K:=by
 have hlt:=(List.getElem?_eq_some_iff.1 hi).1
 rcases hL with h | ⟨b,o,c,T,fr,rfl,hb,hsz,hc⟩
 ·have:=congrArg List.length h
  rw [qj enc hk] at this
  have:=Nat.mul_pos (show 0 < xs.length by omega) h0
  simp_all
 ·refine qmq i hn (by omega) ?_
  have hm:i * sz+sz≤xs.length * sz:=by
   have:=Nat.mul_le_mul_right sz (show i+1≤xs.length by omega)
   rw [Nat.add_mul] at this;omega
  rw [qj enc hk] at hsz
  refine zmy hw hb (by omega) ?_
  have:c.extract (o+i * sz) (o+i * sz+sz)=(enc v).toArray:=by
   apply Array.ext_getElem?
   intro j
   rw [Array.getElem?_extract]
   by_cases hj:j < sz
   ·rw [if_pos (by omega)]
    have h2:(xs.flatMap enc)[i * sz+j]?=(enc v)[j]?:=by
     rw [getElem_flatMap enc hk h0]
     have h3:(i * sz+j) / sz=i:=by
      rw [Nat.mul_comm,Nat.mul_add_div h0,Nat.div_eq_of_lt hj];rfl
     have h4:(i * sz+j) % sz=j:=by
      rw [Nat.mul_comm,Nat.mul_add_mod,Nat.mod_eq_of_lt hj]
     rw [h3,h4,hi];rfl
    rw [← hc,Array.getElem?_toList,Array.getElem?_extract,qj enc hk,if_pos (by omega)] at h2
    rw [show o+i * sz+j=o+(i * sz+j) by omega,h2]
    simp
   ·rw [if_neg (by omega)]
    rw [Array.getElem?_eq_none (by simp [hk];omega)]
  rw [this];exact hK
theorem zpd (off:Nat):∀ (vs:List Value) (k:Nat) (cs:Array Value),(vs.zipIdx k).foldl (fun cs x=>cs.setIfInBounds (off+x.2) x.1) cs=setCells cs (off+k) vs
 | [],_,_=>rfl
 | v :: r,k,cs=>by
  simp only [List.zipIdx_cons,List.foldl_cons,setCells]
  rw [zpd off r (k+1)]
  rfl
theorem qmo {v:Value} {size:Nat} {cs:Array Value} (hs:v.cells.size=size) (hc:cs.size=size):Instr.fill (fun i=>some (i * size,size)) cs [(0,v)]=some v.cells:=by
 simp only [Instr.fill,Nat.zero_mul,Nat.zero_add,hs,hc,ne_eq,not_true_eq_false,decide_false,Bool.false_or,Nat.lt_irrefl,decide_eq_true_eq,if_false,Bool.or_self,Bool.false_eq_true,gt_iff_lt]
 congr 1
 have h:=zpd 0 v.cells.toList 0 cs
 simp only [Nat.zero_add] at h
 rw [← Array.foldl_toList,Array.toList_zipIdx,h,zax (by simpa [hc] using hs)]
theorem zd7 {P:Program} {w:World} {st e:TypeId} {sz bts:Nat} {v:Value} (E:Elem P e sz bts) (hu:P.underlying st=some (.slice e)) (hv:v.cells.size=sz) (h0:0 < sz) (h1:sz≤16777216) :
  (Instr.buildSlice st 1 #[(0,v)]).run P w=.ok (.slice (some ⟨w.heap.size,0,none⟩) 1 1) { w with heap:=w.heap.push (.cells v.cells e) }:=by
 obtain ⟨i,z,hi,hs,hz,hzs,_⟩:=E
 have hn1:¬ (1 * i.size > 2 ^ 24):=by
  have:(2:Nat) ^ 24=16777216:=by decide
  rw [this];omega
 have hn2:¬ (1 * i.size=0):=by omega
 have hf:Instr.fill (fun k=>some (k * i.size,i.size)) ((Array.range (1 * i.size)).map (z.cells[· % z.cells.size]!)) [(0,v)]=some v.cells:=qmo (by omega) (by simp)
 exact run_buildSlice w st e 1 #[(0,v)] v.cells i z hu hi hz hn1 hn2 hf
theorem zfa:∀ {a b:List UInt8},Lib.compareBytes a b < 0 ↔ a < b
 | [],[]=>by simp [Lib.compareBytes]
 | [],b :: y=>by simp [Lib.compareBytes]
 | a :: x,[]=>by simp [Lib.compareBytes]
 | a :: x,b :: y=>by
  have ih:=zfa (a:=x) (b:=y)
  rw [List.cons_lt_cons_iff]
  simp only [Lib.compareBytes]
  by_cases h1:a < b
  ·simp [h1]
  ·rw [if_neg h1]
   by_cases h2:b < a
   ·rw [if_pos h2]
    have:a ≠ b:=by rintro rfl;exact h1 h2
    simp [h1,this]
   ·rw [if_neg h2]
    have:a=b:=UInt8.le_antisymm (UInt8.not_lt.1 h2) (UInt8.not_lt.1 h1)
    subst this
    simp [h1,ih]
theorem zf7:∀ {a b:List UInt8},Lib.compareBytes a b=0 ↔ a=b
 | [],[]=>by simp [Lib.compareBytes]
 | [],b :: y=>by simp [Lib.compareBytes]
 | a :: x,[]=>by simp [Lib.compareBytes]
 | a :: x,b :: y=>by
  have ih:=zf7 (a:=x) (b:=y)
  simp only [Lib.compareBytes,List.cons.injEq]
  by_cases h1:a < b
  ·have:a ≠ b:=by rintro rfl;exact UInt8.lt_irrefl _ h1
   simp [h1,this]
  ·rw [if_neg h1]
   by_cases h2:b < a
   ·have:a ≠ b:=by rintro rfl;exact h1 h2
    simp [h2,this]
   ·rw [if_neg h2]
    have:a=b:=UInt8.le_antisymm (UInt8.not_lt.1 h2) (UInt8.not_lt.1 h1)
    simp [this,ih]
theorem zvl:∀ {a b:List UInt8},Lib.compareBytes a b=- Lib.compareBytes b a
 | [],[]=>by simp [Lib.compareBytes]
 | [],b :: y=>by simp [Lib.compareBytes]
 | a :: x,[]=>by simp [Lib.compareBytes]
 | a :: x,b :: y=>by
  have ih:=zvl (a:=x) (b:=y)
  simp only [Lib.compareBytes]
  by_cases h1:a < b
  ·have:¬ b < a:=fun h=>UInt8.lt_irrefl _ (UInt8.lt_trans h1 h)
   simp [h1,this]
  ·by_cases h2:b < a
   ·simp [h1,h2]
   ·simp [h1,h2];exact ih
theorem zkp:∀ {a b:List UInt8},Lib.compareBytes a b=-1 ∨ Lib.compareBytes a b=0 ∨ Lib.compareBytes a b=1
 | [],[]=>by simp [Lib.compareBytes]
 | [],b :: y=>by simp [Lib.compareBytes]
 | a :: x,[]=>by simp [Lib.compareBytes]
 | a :: x,b :: y=>by
  simp only [Lib.compareBytes]
  split
  ·simp
  ·split
   ·simp
   ·exact zkp
@[simp] theorem zaj {L:List UInt8}:(strOf L).toList=L:=by rw [ByteArray.toList_eq];rfl
@[simp] theorem jl {L:List UInt8}:(strOf L).size=L.length:=rfl
theorem qhh {s:ByteArray}:strOf s.data.toList=s:=rfl
theorem z7l {L:List UInt8} {l h:Nat}:(strOf L).extract l h=strOf ((L.take h).drop l):=by
 apply ByteArray.ext
 simp only [ByteArray.data_extract,strOf]
 apply Array.ext'
 simp [List.extract_eq_take_drop,List.drop_take]
theorem qcs {A B:List UInt8}:strOf A++strOf B=strOf (A++B):=by
 apply ByteArray.ext
 simp [strOf,ByteArray.data_append]
theorem zos {L:List UInt8} {i:Int} {K:Int→Prop} (k:Nat) (hi:i=(k:Int)) (hk:k < L.length) (hK:K ((L[k]).toNat:Int)):ztu (strOf L) i K:=by
 subst hi
 refine ⟨by omega,L[k],?_,hK⟩
 show (strOf L)[((k:Int)).toNat]?=some L[k]
 rw [Int.toNat_natCast]
 have h:k < (strOf L).size:=hk
 rw [getElem?_pos (strOf L) k h]
 rfl
theorem zx1 {A B:List UInt8} {K:ByteArray→Prop} (h:A.length+B.length≤9223372036854775807) (hK:K (strOf (A++B))):qlf (strOf A) (strOf B) K:=⟨by simp only [jl];exact h,by rw [qcs];exact hK⟩
theorem z9h (A:Array UInt8):(ByteArray.mk A).toList=A.toList:=ByteArray.toList_eq _
theorem zhz {L:List UInt8} {A:Array UInt8}:((strOf L).toList == (ByteArray.mk A).toList)=true ↔ L=A.toList:=by rw [zaj,z9h,beq_iff_eq]
theorem qof {L M:List UInt8}:((strOf L).toList == (strOf M).toList)=true ↔ L=M:=by rw [zaj,zaj,beq_iff_eq]
section
variable {P:Program} {w:World}
theorem z0v {t:TypeId} {L:List UInt8} {l h:Nat} {lo hi:Option Value} (hu:P.underlying t=some .string) (hlo:IxO lo 0 l) (hhi:IxO hi L.length h) (h1:l≤h) (h2:h≤L.length) :
  (Instr.sliceAt t (.string (strOf L)) lo hi none).run P w=.ok (.string (strOf ((L.take h).drop l))) w:=by
 rw [z7o (s:=strOf L) hu hlo hhi h1 h2,z7l]
end
theorem qck {a b:List UInt8}:(strOf a == strOf b)=decide (a=b):=by
 show ((strOf a).data == (strOf b).data)=_
 rw [Bool.eq_iff_iff,beq_iff_eq,decide_eq_true_iff]
 simp [strOf]
theorem qcb {κ:Type} [DecidableEq κ] {enc:κ→ByteArray} (heq:∀ a b,(enc a == enc b)=decide (a=b)) {k:κ}:∀ (l:List (κ × Value × Nat)) (i:Nat),
  Instr.findNow .string (.string (enc k)) (l.map fun x=>⟨.string (enc x.1),x.2.1,x.2.2⟩) i=some ((l.findIdx? (fun x=>x.1 == k)).bind fun j=>(l[j]?).map fun x=>(i+j,x.2.1))
 | [],i=>by simp [Instr.findNow]
 | x :: l,i=>by
  have ih:=qcb heq (k:=k) l (i+1)
  simp only [List.map_cons,Instr.findNow,Instr.sameNow,heq]
  by_cases e:x.1=k
  ·subst e
   simp [List.findIdx?_cons]
  ·have e2:¬ k=x.1:=fun h=>e h.symm
   simp only [e2,decide_false,ih]
   congr 1
   rw [List.findIdx?_cons]
   simp only [beq_eq_false_iff_ne.2 e]
   cases hf:List.findIdx? (fun x=>x.1 == k) l with
   | none=>simp
   | some j=>simp [Nat.add_assoc,Nat.add_comm 1 j]
theorem KeyOk.str {P:Program} {t:TypeId} (hu:P.underlying t=some .string):KeyOk P t (List UInt8) (fun _=>True) (fun L=>.string (strOf L)) where
 find w k es l _ _ he:=by
  subst he
  have h:=qcb (enc:=strOf) (fun a b=>qck) (k:=k) l 0
  simp only [Nat.zero_add] at h
  simp only [Instr.findKey,Sem.run_bind,xw hu,Result.andThen_ok,h,Sem.run_pure]
 chk w k e _:=by
  rw [show (10000:Nat)=9999+1 from rfl,Instr.checkKey]
  simp only [Sem.run_bind,xw hu,Result.andThen_ok,Sem.run_pure]
 same k _:=by simp [Instr.sameBits,qck]
def strRow (xs:List (List UInt8)):List Value:=xs.map fun L=>.string (strOf L)
@[simp] theorem zf1 {xs:List (List UInt8)}:(strRow xs).length=xs.length:=by simp [strRow]
theorem qgp {xs:List (List UInt8)}:zc2 (strRow xs):=by
 intro v hv
 obtain ⟨L,_,rfl⟩:=List.mem_map.1 hv
 rfl
theorem zum {xs:List (List UInt8)} {n:Nat}:(strRow xs).take n=strRow (xs.take n):=by simp [strRow]
theorem zz6 {xs:List (List UInt8)} {n:Nat}:(strRow xs).drop n=strRow (xs.drop n):=by simp [strRow]
theorem zv5 {xs ys:List (List UInt8)}:strRow xs++strRow ys=strRow (xs++ys):=by simp [strRow]
theorem z2i {w:World} {H:Heap} {a:Option Addr} {len i:Nat} {n:Int} {xs:List (List UInt8)} (hw:w.heap=H) (hL:Cells H a (strRow xs)) (hlen:len=xs.length) (hi:i < xs.length) (hn:n=(i:Int)) {K:ByteArray→Prop} (hK:K (strOf xs[i])) :
  ixS a len 1 n fun p=>ld .str p w K:=by
 rcases hL with h | ⟨b,o,c,T,fr,rfl,hb,hsz,hc⟩
 ·have:=congrArg List.length h
  rw [zf1] at this;simp at this;subst this;simp at hi
 ·refine zqm i hn (by omega) ?_
  refine jg (s:=.str) hw hb ?_ hK
  have h2:(strRow xs)[i]?=some (.string (strOf xs[i])):=by simp [strRow,hi]
  rw [← hc,Array.getElem?_toList,Array.getElem?_extract,zf1] at h2
  split at h2
  ·exact h2
  ·cases h2
theorem qj3 {w:World} {H:Heap} {a a':Option Addr} {len len' i j:Nat} {n n':Int} {xs ys:List (List UInt8)} (hw:w.heap=H) (hL:Cells H a (strRow xs)) (hlen:len=xs.length) (hi:i < xs.length) (hn:n=(i:Int))
  (hL':Cells H a' (strRow ys)) (hlen':len'=ys.length) (hj:j < ys.length) (hn':n'=(j:Int)) {K:ByteArray→ByteArray→Prop} (hK:K (strOf xs[i]) (strOf ys[j])) :
  ixS a len 1 n fun p=>ixS a' len' 1 n' fun p'=>ld .str p w fun t=>ld .str p' w fun t'=>K t t':=by
 rcases hL with h | ⟨b,o,c,T,fr,rfl,hb,hsz,hc⟩
 ·have:=congrArg List.length h
  rw [zf1] at this;simp at this;subst this;simp at hi
 rcases hL' with h | ⟨b',o',c',T',fr',rfl,hb',hsz',hc'⟩
 ·have:=congrArg List.length h
  rw [zf1] at this;simp at this;subst this;simp at hj
 refine zqm i hn (by omega) ?_
 refine zqm j hn' (by omega) ?_
 have h2:(strRow xs)[i]?=some (.string (strOf xs[i])):=by simp [strRow,hi]
 rw [← hc,Array.getElem?_toList,Array.getElem?_extract,zf1] at h2
 have h3:(strRow ys)[j]?=some (.string (strOf ys[j])):=by simp [strRow,hj]
 rw [← hc',Array.getElem?_toList,Array.getElem?_extract,zf1] at h3
 refine jg (s:=.str) hw hb (by split at h2;exact h2;cases h2) ?_
 refine jg (s:=.str) hw hb' (by split at h3;exact h3;cases h3) ?_
 exact hK
end Go.Fw
namespace Go.Proofs.YtbmegmbnlajbbaaGreatDoor
open Go Go.Fw Go.Proofs
def zss (c:Int):Bool:=decide (c=46 ∨ c=95 ∨ c=45 ∨ (48≤c∧c≤57) ∨ (97≤c∧c≤122) ∨ (65≤c∧c≤90))
def zd9 (b:UInt8):Bool:=zss (b.toNat:Int)
def zc8 (L:List UInt8):Bool:=decide (L ≠ []∧L.length≤16∧L ≠ [46]∧L ≠ [46,46]) && L.all zd9
abbrev Path:=List (List UInt8)
def zxw (p:Path):Int:=if p.all zc8 then (if 8 < p.length then 42 else 0) else 41
def zf9:Path→Path→Int
 | [],[]=>0
 | [],_ :: _=>-1
 | _ :: _,[]=>1
 | x :: a,y :: b=>if Lib.compareBytes x y ≠ 0 then Lib.compareBytes x y else zf9 a b
theorem z5n {c:Int} {w:World} (h:c=46 ∨ c=95 ∨ c=45 ∨ (48≤c∧c≤57) ∨ (97≤c∧c≤122) ∨ (65≤c∧c≤90)):(Ending.returned (Value.bool true)=.returned (.bool (zss c)))∧w=w:=⟨by simp only [zss,decide_eq_true h],rfl⟩
theorem qd4 {c:Int} {w:World} (h:¬ (c=46 ∨ c=95 ∨ c=45 ∨ (48≤c∧c≤57) ∨ (97≤c∧c≤122) ∨ (65≤c∧c≤90))):(Ending.returned (Value.bool false)=.returned (.bool (zss c)))∧w=w:=⟨by simp only [zss,decide_eq_false h],rfl⟩
theorem qc8 {c:Int} {w:World} {b:Bool} (h:b=zss c):(Ending.returned (Value.bool b)=.returned (.bool (zss c)))∧w=w:=⟨by rw [h],rfl⟩
theorem qjs {w:World} (c:Int):qg P zko #[.int .u8 c] w fun e w'=>e=.returned (.bool (zss c))∧w'=w:=by
 refine z2y ?_
 unfold zoh
 repeat' first
  | refine zab ?_
  | refine za5 (fun h=>?_) (fun h=>?_)
  | refine zq (fun h=>?_) (fun h=>?_)
  | exact z5n (by omega)
  | exact qd4 (by omega)
  | exact qc8 (decide_eq_decide.2 (by omega))
theorem qgd {w:World} (c:Int):qg P zqg #[.int .u8 c] w fun e w'=>e=.returned (.bool (zss c))∧w'=w:=by
 refine z94 ?_
 unfold zs6
 repeat' first
  | refine zab ?_
  | refine za5 (fun h=>?_) (fun h=>?_)
  | refine zq (fun h=>?_) (fun h=>?_)
  | exact z5n (by omega)
  | exact qc8 (by rw [zss,Bool.eq_iff_iff,beq_iff_eq,decide_eq_true_iff];omega)
theorem qfa {L:List UInt8} {i:Nat} (hi:i < L.length) (h:∀ b ∈ L.take i,zd9 b=true) (hb:zd9 L[i]=true):∀ b ∈ L.take (i+1),zd9 b=true:=by
 intro b hm
 rw [List.take_add_one,List.getElem?_eq_getElem hi] at hm
 rcases List.mem_append.1 hm with hm | hm
 ·exact h b hm
 ·simp only [Option.toList_some,List.mem_singleton] at hm;subst hm;exact hb
theorem zxx {L:List UInt8} {i:Nat} (hi:i < L.length) (hb:zd9 L[i]=false):L.all zd9=false:=by
 rw [List.all_eq_false]
 exact ⟨L[i],List.getElem_mem hi,by simp [hb]⟩
theorem qpz {w:World} (L:List UInt8) (hL:L.length≤9223372036854775807):qg P zrm #[.string (strOf L)] w fun e w'=>e=.returned (.bool (zc8 L))∧w'=w:=by
 refine z7q ?_
 unfold zqu
 have no:∀ {w:World},¬ (L ≠ []∧L.length≤16∧L ≠ [46]∧L ≠ [46,46])→(Ending.returned (Value.bool false)=.returned (.bool (zc8 L)))∧w=w:=fun h=>⟨by simp only [zc8,decide_eq_false h,Bool.false_and],rfl⟩
 refine zab ?_
 refine zdq (p:=L=[]) zhz (fun h=>no fun h2=>h2.1 h) (fun h1=>?_)
 refine zq (fun h=>no fun h2=>by have:=h2.2.1;simp only [jl] at h;omega) (fun h2=>?_)
 refine zdq (p:=L=[46]) zhz (fun h=>no fun h2=>h2.2.2.1 h) (fun h3=>?_)
 refine zdq (p:=L=[46,46]) zhz (fun h=>no fun h2=>h2.2.2.2 h) (fun h4=>?_)
 have hc:(L ≠ []∧L.length≤16∧L ≠ [46]∧L ≠ [46,46]):=⟨h1,by simp only [jl] at h2;omega,h3,h4⟩
 have hno:zc8 L=L.all zd9:=by simp only [zc8,decide_eq_true hc,Bool.true_and]
 rw [hno]
 refine jd (fun (s:Int) W=>∃ i:Nat,s=(i:Int)∧i≤L.length∧W=w∧∀ b ∈ L.take i,zd9 b=true) (fun s _=>(L.length - s).toNat) ⟨0,rfl,Nat.zero_le _,rfl,by simp⟩ ?_
 rintro _ w ⟨i,rfl,hi,rfl,hp⟩
 refine zq (fun hlt=>?_) (fun hge=>?_)
 ·have hil:i < L.length:=by simp only [jl] at hlt;omega
  refine zos i rfl hil ?_
  refine zbl (zd9 L[i]) (qjs _) ?_
  cases hb:zd9 L[i] with
  | false=>exact vw rfl ⟨by rw [zxx hil hb],rfl⟩
  | true =>
   refine jk rfl ?_
   refine xk ((i+1:Nat):Int) (by omega) (by omega) (by omega) ?_
   exact ⟨⟨i+1,rfl,by omega,rfl,qfa hil hp hb⟩,by omega⟩
 ·have:i=L.length:=by simp only [jl] at hge;omega
  subst this
  rw [List.take_length] at hp
  exact ⟨by rw [List.all_eq_true.2 hp],rfl⟩
theorem qox {w:World} (L:List UInt8) (hL:L.length≤9223372036854775807):qg P zwn #[.string (strOf L)] w fun e w'=>e=.returned (.bool (zc8 L))∧w'=w:=by
 refine qew ?_
 unfold zwv
 have no:∀ {w:World},¬ (L ≠ []∧L.length≤16∧L ≠ [46]∧L ≠ [46,46])→(Ending.returned (Value.bool false)=.returned (.bool (zc8 L)))∧w=w:=fun h=>⟨by simp only [zc8,decide_eq_false h,Bool.false_and],rfl⟩
 refine zab ?_
 refine zq (fun h=>no fun h2=>h2.1 (by simp only [jl] at h;exact List.eq_nil_of_length_eq_zero (by omega))) (fun h1=>?_)
 refine zq (fun h=>no fun h2=>by have:=h2.2.1;simp only [jl] at h;omega) (fun h2=>?_)
 refine zdq (p:=L=[46]) zhz (fun h=>no fun h2=>h2.2.2.1 h) (fun h3=>?_)
 refine zdq (p:=L=[46,46]) zhz (fun h=>no fun h2=>h2.2.2.2 h) (fun h4=>?_)
 have hc:(L ≠ []∧L.length≤16∧L ≠ [46]∧L ≠ [46,46]):=⟨by rintro rfl;simp [jl] at h1,by simp only [jl] at h2;omega,h3,h4⟩
 have hno:zc8 L=L.all zd9:=by simp only [zc8,decide_eq_true hc,Bool.true_and]
 rw [hno]
 refine jd (fun (s:Int) W=>∃ i:Nat,s=(i:Int)∧i≤L.length∧W=w∧∀ b ∈ L.take i,zd9 b=true) (fun s _=>(L.length - s).toNat) ⟨0,rfl,Nat.zero_le _,rfl,by simp⟩ ?_
 rintro _ w ⟨i,rfl,hi,rfl,hp⟩
 refine zq (fun hlt=>?_) (fun hge=>?_)
 ·have hil:i < L.length:=by simp only [jl] at hlt;omega
  refine zos i rfl hil ?_
  refine zbl (zd9 L[i]) (qgd _) ?_
  cases hb:zd9 L[i] with
  | false=>exact vw rfl ⟨by rw [zxx hil hb],rfl⟩
  | true =>
   refine jk rfl ?_
   refine xk ((i+1:Nat):Int) (by omega) (by omega) (by omega) ?_
   exact ⟨⟨i+1,rfl,by omega,rfl,qfa hil hp hb⟩,by omega⟩
 ·have:i=L.length:=by simp only [jl] at hge;omega
  subst this
  rw [List.take_length] at hp
  exact ⟨by rw [List.all_eq_true.2 hp],rfl⟩
theorem zyn:P.underlying qw=some (.slice qc):=by kernel_rfl
theorem qir:(P.info? qc).map (·.size)=some 1:=by kernel_rfl
def Fit (p:Path):Prop:=∀ L ∈ p,L.length≤9223372036854775807
theorem qej {p:Path} {i:Nat} (hi:i < p.length) (hb:zc8 p[i]=false):p.all zc8=false:=by
 rw [List.all_eq_false]
 exact ⟨p[i],List.getElem_mem hi,by simp [hb]⟩
theorem z7m {p:Path} {i:Nat} (hi:i < p.length) (h:∀ b ∈ p.take i,zc8 b=true) (hb:zc8 p[i]=true):∀ b ∈ p.take (i+1),zc8 b=true:=by
 intro b hm
 rw [List.take_add_one,List.getElem?_eq_getElem hi] at hm
 rcases List.mem_append.1 hm with hm | hm
 ·exact h b hm
 ·simp only [Option.toList_some,List.mem_singleton] at hm;subst hm;exact hb
theorem qnw {w:World} {H:Heap} {a:Option Addr} {n nc:Nat} {p:Path} (hw:w.heap=H) (hL:Cells H a (strRow p)) (hn:n=p.length) (hf:Fit p) (hp:p.length≤9223372036854775807):qg P zpi #[.slice a n nc] w fun e w'=>e=.returned (.int .i64 (zxw p))∧w'=w:=by
 subst hn
 refine z2e ?_
 unfold zot
 refine jd (fun (s:Int) W=>∃ i:Nat,s=(i:Int)∧i≤p.length∧W=w∧∀ b ∈ p.take i,zc8 b=true) (fun s _=>(p.length - s).toNat) ⟨0,rfl,Nat.zero_le _,rfl,by simp⟩ ?_
 rintro _ w ⟨i,rfl,hi,rfl,hok⟩
 refine zq (fun hlt=>?_) (fun hge=>?_)
 ·have hil:i < p.length:=by omega
  refine z2i hw hL rfl hil rfl ?_
  refine zn (qpz _ (hf _ (List.getElem_mem hil))) ?_
  rintro e w' ⟨rfl,rfl⟩
  refine ⟨_,rfl,?_⟩
  cases hb:zc8 p[i] with
  | false=>exact vw rfl ⟨by simp [zxw,qej hil hb],rfl⟩
  | true =>
   refine jk rfl ?_
   refine xk ((i+1:Nat):Int) (by omega) (by omega) (by omega) ?_
   exact ⟨⟨i+1,rfl,by omega,rfl,z7m hil hok hb⟩,by omega⟩
 ·have:i=p.length:=by omega
  subst this
  rw [List.take_length] at hok
  have hall:p.all zc8=true:=List.all_eq_true.2 hok
  refine zq (fun h=>⟨by simp only [zxw,hall,if_true];rw [if_pos (by omega)],rfl⟩) (fun h=>⟨by simp only [zxw,hall,if_true];rw [if_neg (by omega)],rfl⟩)
def zdc (p q:Path):Bool:=q.isPrefixOf p
theorem within_iff {p q:Path}:zdc p q=true ↔ q.length≤p.length∧p.take q.length=q:=by
 unfold zdc
 rw [List.isPrefixOf_iff_prefix]
 constructor
 ·rintro ⟨t,rfl⟩
  exact ⟨by simp,by simp⟩
 ·rintro ⟨h1,h2⟩
  exact ⟨p.drop q.length,(congrArg (·++p.drop q.length) h2.symm).trans (List.take_append_drop _ _)⟩
theorem zzk {p q:Path} {i:Nat} (hip:i < p.length) (hiq:i < q.length) (h:p.take i=q.take i) (e:p[i]=q[i]):p.take (i+1)=q.take (i+1):=by
 rw [List.take_add_one,List.take_add_one,List.getElem?_eq_getElem hip,List.getElem?_eq_getElem hiq,h,e]
theorem qaf {w:World} {H:Heap} {a b:Option Addr} {n nc m mc:Nat} {p q:Path} (hw:w.heap=H) (hL:Cells H a (strRow p)) (hn:n=p.length) (hM:Cells H b (strRow q)) (hm:m=q.length) (hp:p.length≤9223372036854775807) (hq:q.length≤9223372036854775807) :
  qg P zi1 #[.slice a n nc,.slice b m mc] w fun e w'=>e=.returned (.bool (zdc p q))∧w'.heap=H:=by
 subst hn hm
 refine z6i ?_
 unfold zry
 refine zq (fun h=>⟨by congr 2;refine (Bool.eq_false_iff.2 ?_).symm;intro h2;have:=(within_iff.1 h2).1;omega,hw⟩) (fun hl=>?_)
 refine jd (fun (s:Int) W=>∃ i:Nat,s=(i:Int)∧i≤q.length∧W.heap=H∧p.take i=q.take i) (fun s _=>(q.length - s).toNat) ⟨0,rfl,Nat.zero_le _,hw,by simp⟩ ?_
 rintro _ W ⟨i,rfl,hi,hW,hs⟩
 refine zq (fun hlt=>?_) (fun hge=>?_)
 ·have hil:i < q.length:=by omega
  refine jq hW fun W1 hW1=>?_
  refine qj3 hW1 hL rfl (by omega) rfl hM rfl hil rfl ?_
  by_cases e:p[i]'(by omega)=q[i]
  ·refine jk (by simp [e]) ?_
   refine xk ((i+1:Nat):Int) (by omega) (by omega) (by omega) ?_
   exact ⟨⟨i+1,rfl,by omega,hW1,zzk (by omega) hil hs e⟩,by omega⟩
  ·refine vw (by simp [e]) ?_
   refine ⟨?_,hW1⟩
   congr 2
   refine (Bool.eq_false_iff.2 ?_).symm
   intro h2
   have h3:=(within_iff.1 h2).2
   apply e
   have h4:(p.take q.length)[i]?=q[i]?:=by rw [h3]
   rw [List.getElem?_take,if_pos hil,List.getElem?_eq_getElem (by omega),List.getElem?_eq_getElem hil] at h4
   exact Option.some.inj h4
 ·have:i=q.length:=by omega
  subst this
  rw [List.take_length] at hs
  exact ⟨by rw [within_iff.2 ⟨by omega,hs⟩],hW⟩
theorem ql1 {w:World} (x y:List UInt8):qg P zei #[.string (strOf x),.string (strOf y)] w fun e w'=>e=.returned (.int .i64 (Lib.compareBytes x y))∧w'=w:=by
 have nan:∀ (w:World) (x:List UInt8),qg P zfk #[.string (strOf x)] w fun e w'=>e=.returned (.bool false)∧w'=w:=by
  intro w x
  refine zts ?_
  unfold zhy
  exact ⟨by simp,rfl⟩
 refine zrg ?_
 unfold zf6
 refine zbl false (nan w x) ?_
 refine zbl false (nan w y) ?_
 refine jk rfl ?_
 refine jk rfl ?_
 rw [bytesLess_eq,zaj,zaj]
 have hr:=zkp (a:=x) (b:=y)
 refine zq (fun h=>?_) (fun h=>?_)
 ·have:=zfa.2 h
  exact ⟨by congr 2;omega,rfl⟩
 ·have h1:¬ Lib.compareBytes x y < 0:=fun h2=>h (zfa.1 h2)
  by_cases e:x=y
  ·refine jk (by simp [e]) ?_
   have:=zf7.2 e
   exact ⟨by rw [this],rfl⟩
  ·refine vw (by simp [e];exact fun h2=>absurd h2 h) ?_
   have h2:Lib.compareBytes x y ≠ 0:=fun h2=>e (zf7.1 h2)
   exact ⟨by congr 2;omega,rfl⟩
theorem u8:P.underlying xu=some (.int .u8):=by kernel_rfl
theorem uS8:P.underlying zk=some (.slice xu):=by kernel_rfl
theorem sz8:(P.info? xu).map (·.size)=some 1:=by kernel_rfl
theorem zwa:P.underlying qc=some .string:=by kernel_rfl
theorem E8:Elem P xu 1 1:=zno (z:=.int .u8 0) (by kernel_rfl) rfl
theorem uB:P.underlying zey=some (.pointer jm):=by kernel_rfl
theorem uUP:P.underlying zj5=some .unsafePointer:=by kernel_rfl
theorem iB:(P.info? jm).map (·.size)=some 2:=by kernel_rfl
theorem zcB:zc P jm=#[.pointer none,.slice none 0 0]:=by kernel_rfl
theorem up8:P.underlying zuy=some (.pointer xu):=by kernel_rfl
theorem qsx:liesAt P P.depth jm (2 / P.cellsOf jm) 0 jm 1=true:=by kernel_rfl
theorem c8:P.cellsOf xu=1:=by kernel_rfl
theorem qop {t:TypeId} {n:Nat} (h:(P.info? t).map (·.size)=some n):∃ j,P.info? t=some j∧j.size=n:=by
 obtain ⟨j,h1,h2⟩:=Option.map_eq_some_iff.1 h
 exact ⟨j,h1,h2⟩
theorem qjc {w:World} {H:Heap} {b:Nat} {c:Array Value} {T:TypeId} {fr:Nat × Nat} (hw:w.heap=H) (hb:H[b]?=some (.cells c T fr)):w.shape? b=some (T,c.size):=by
 subst hw;simp [World.shape?,hb]
def Bd (H:Heap) (lo b:Nat) (L:List UInt8):Prop:=∃ x p,H[b]?=some (.cells #[.pointer p,zck x] jm (0,0))∧(p=none ∨ p=some ⟨b,0,none⟩)∧b < lo∧Mine H lo xu 1 x (byteCells L)
theorem zzb {w:World} {H:Heap} {b:Nat} {x:Option Addr × Nat × Nat} {p:Option Addr} (hw:w.heap=H) (hb:H[b]?=some (.cells #[.pointer p,zck x] jm (0,0))) (hp:p=none ∨ p=some ⟨b,0,none⟩) :
  qg P zcg #[.pointer (some ⟨b,0,none⟩)] w fun e w'=>e=.returned (.tuple #[])∧w'.heap[b]?=some (.cells #[.pointer (some ⟨b,0,none⟩),zck x] jm (0,0))∧Ext [b] H w'.heap:=by
 refine zkd ?_
 unfold zdu
 obtain ⟨j,hj,hjs⟩:=qop iB
 simp only [xq]
 refine jg (s:=.ptr) (t:=p) hw hb rfl ?_
 rcases hp with rfl | rfl
 ·refine vw rfl ?_
  have hsh:=qjc hw hb
  refine zae (s:=.any) _ w (Lib.run_to_unsafe w ⟨b,0,none⟩ uB uUP hj (by omega) hsh (by simp)) ?_
  refine z0j (l:=[.any]) (.pointer (some ⟨b,0,none⟩)) (by rw [zo8 (e:=Extern.AbiNoEscape.same) (by kernel_rfl)];rfl) ?_
  refine zae (s:=.ptr) (some ⟨b,0,none⟩) w (Lib.run_from_unsafe w ⟨b,0,none⟩ uUP uB hj hsh qsx) ?_
  refine zbp hw hb (by simp) fun w1 hw1=>?_
  exact ⟨by trivial,by rw [hw1];exact qp hb,by rw [hw1];exact Ext.set _ (by simp)⟩
 ·refine jk rfl ?_
  refine jg (s:=.ptr) (t:=some ⟨b,0,none⟩) hw hb rfl ?_
  refine qx (s:=.bool) false ?_ ?_
  ·have h:=Lib.run_neq_ptr_same (P:=P) w ⟨b,0,none⟩ uB hj
   simp [eqM,eqGuard,h]
   rfl
  ·refine jk rfl ?_
   exact ⟨by trivial,by rw [hw];exact hb,by rw [hw];exact .refl _ _⟩
theorem qql {w:World} {H:Heap} {b:Nat} {n:Nat} (hw:w.heap=H) (hb:H[b]?=some (.cells #[.pointer none,.slice none 0 0] jm (0,0))) (hn0:0 < n) (hn:n≤140737488351232) :
  qg P zfg #[.pointer (some ⟨b,0,none⟩),.int .i64 (n:Int)] w fun e w'=>e=.returned (.tuple #[])∧Bd w'.heap H.size b []∧Ext [b] H w'.heap:=by
 refine zpb ?_
 unfold zfc
 refine zn (l:=[]) (zzb (x:=(none,0,0)) hw hb (.inl rfl)) ?_
 rintro e w1 ⟨rfl,hb1,hx1⟩
 refine ⟨(),rfl,?_⟩
 refine zab ?_
 refine zq (fun h=>absurd h (by omega)) (fun _=>?_)
 refine jq rfl fun w2 hw2=>?_
 have hb2:w2.heap[b]?=some (.cells #[.pointer (some ⟨b,0,none⟩),.slice none 0 0] jm (0,0)):=by rw [hw2];exact hb1
 have hx2:Ext [b] H w2.heap:=by rw [hw2];exact hx1
 simp only [xq,jv,Nat.zero_add]
 refine jg (s:=.slc) (t:=(none,0,0)) rfl hb2 rfl ?_
 refine qx (s:=.int .i64) 0 (by kernel_rfl) ?_
 refine jg (s:=.slc) (t:=(none,0,0)) rfl hb2 rfl ?_
 refine zbo 0 rfl (by omega) (by omega) ?_
 refine zq (fun _=>?_) (fun h=>absurd h (by omega))
 have hgrow:qg P zfe #[.pointer (some ⟨b,0,none⟩),.int .i64 (n:Int)] w2 fun e w'=>e=.returned (.tuple #[])∧Bd w'.heap H.size b []∧Ext [b] H w'.heap:=by
  refine zpr ?_
  unfold zfh
  refine jq rfl fun w3 hw3=>?_
  have hb3:w3.heap[b]?=some (.cells #[.pointer (some ⟨b,0,none⟩),.slice none 0 0] jm (0,0)):=by rw [hw3];exact hb2
  have hx3:Ext [b] H w3.heap:=by rw [hw3];exact hx2
  simp only [xq,jv,Nat.zero_add]
  refine jg (s:=.slc) (t:=(none,0,0)) rfl hb3 rfl ?_
  refine qx (s:=.int .i64) 0 (by kernel_rfl) ?_
  refine zff 0 rfl (by omega) (by omega) ?_
  refine xk (n:Int) (by omega) (by omega) (by omega) ?_
  refine jg (s:=.slc) (t:=(none,0,0)) rfl hb3 rfl ?_
  obtain ⟨cs,hrun,hcs,hcs2⟩:=Lib.run_makeNoZero (P:=P) (w:=w3) #[zds] zk xu uS8 n (by omega)
  refine qic (l:=[.slc]) (some ⟨w3.heap.size,0,none⟩,n,cs.size) (w3.drew.drew.alloc (.cells cs xu)) (by rw [zju (e:=Extern.BytealgMakeNoZero.makeNoZero #[zds] #[zk]) (by kernel_rfl),hrun];rfl) ⟨rfl,rfl,rfl,by show w3.drawn≤w3.drawn+1+1;omega⟩ ?_
  have hh4:(w3.drew.drew.alloc (.cells cs xu)).heap=w3.heap.push (.cells cs xu):=rfl
  generalize w3.drew.drew.alloc (.cells cs xu)=w4 at *
  have hx34:Ext [] w3.heap w4.heap:=by rw [hh4];exact .push _
  have hb4:=hx34.get hb3 (by simp)
  refine ⟨jg (s:=.slc) (t:=(none,0,0)) rfl hb4 rfl rfl,?_⟩
  have hne:cs.size ≠ 0:=by omega
  refine qx (s:=.slc) (some ⟨w3.heap.size,0,none⟩,0,cs.size) ((zaw (l:=0) (h:=0) uS8 sz8 .no (.yes rfl) (Nat.le_refl _) (Nat.zero_le _)).trans (by rw [if_neg hne];simp [jv,Sh.val])) ?_
  refine jg (s:=.slc) (t:=(none,0,0)) rfl hb4 rfl ?_
  have hg4:w4.heap[w3.heap.size]?=some (.cells cs xu (0,0)):=by rw [hh4];exact zo
  obtain ⟨w5,h5,hc5,hh5⟩:=qkt (P:=P) (w:=w4) (ty:=zds) (xt:=zk) (sa:=none) (sl:=0) (sc:=0) (dl:=0) (dc:=cs.size) (od:=0) (vs:=[]) uS8 sz8 rfl (.inl rfl) (by simp) (by intro v hv;cases hv) hg4 (by simp)
  refine zae (s:=.int .i64) ((min 0 0:Nat):Int) w5 h5 ?_ hc5
  have hh5':w5.heap=w4.heap:=by
   rw [hh5]
   apply Array.ext_getElem?
   intro i
   rw [Array.getElem?_setIfInBounds]
   by_cases e:w3.heap.size=i
   ·subst e;rw [if_pos rfl,hg4];simp [lt_of_get hg4,setCells]
   ·rw [if_neg e]
  refine zbp hh5' hb4 (by simp) fun w6 hw6=>?_
  have hx46:Ext [b] w4.heap w6.heap:=by rw [hw6];exact Ext.set _ (by simp)
  have hbl:=lt_of_get hb
  have h3:=hx3.1
  refine ⟨by trivial,⟨(some ⟨w3.heap.size,0,none⟩,0,cs.size),some ⟨b,0,none⟩,by rw [hw6];exact qp hb4,.inr rfl,hbl,.inr ⟨w3.heap.size,cs,rfl,by omega,hx46.get hg4 (by simp only [List.mem_singleton];omega),by simp,rfl,Nat.zero_le _,by simp [byteCells]⟩⟩,(hx3.trans (hx34.mono (by simp))).trans hx46⟩
 refine zn (l:=[]) hgrow ?_
 rintro e w7 ⟨rfl,h⟩
 exact ⟨(),rfl,by trivial,h⟩
theorem zkb {w:World} {H:Heap} {lo b:Nat} {L M:List UInt8} (hw:w.heap=H) (hB:Bd H lo b L) (hlo:lo≤H.size) (hlen:L.length+M.length≤140737488351232) :
  qg P zaz #[.pointer (some ⟨b,0,none⟩),.string (strOf M)] w fun e w'=>e=.returned (.tuple #[.int .i64 (M.length:Int),.nilIface])∧Bd w'.heap lo b (L++M)∧∃ F,Ext F H w'.heap∧∀ c ∈ F,c=b ∨ lo≤c:=by
 obtain ⟨x,p,hb,hp,hbl,hm⟩:=hB
 refine zi8 ?_
 unfold zdb
 refine zn (l:=[]) (zzb hw hb hp) ?_
 rintro e w1 ⟨rfl,hb1,hx1⟩
 refine ⟨(),rfl,?_⟩
 have hm1:Mine w1.heap lo xu 1 x (byteCells L):=hm.ext hx1 (fun c hc=>by have:=jc hm c hc;simp only [List.mem_singleton];omega)
 have hxl:x.2.1=L.length:=by have:=hm.len;simp at this;omega
 simp only [xq,jv,Nat.zero_add]
 refine jg (s:=.slc) (t:=x) rfl hb1 rfl ?_
 refine zcf E8 (by omega) uS8 ⟨_,zwa,by intro k h;cases h⟩ rfl hm1 (by have:=hx1.1;omega) (n:=M.length) (us:=byteCells M) Src.str zaa (by omega) ?_
 intro x' w2 hm2 hl2 hx2 hs2
 have hb2:=hx2.get hb1 (fun h=>by have:=jc hm1 _ h;omega)
 refine zbp rfl hb2 (by simp) fun w3 hw3=>?_
 have hx3:Ext [b] w2.heap w3.heap:=by rw [hw3];exact Ext.set _ (by simp)
 refine ⟨rfl,⟨x',some ⟨b,0,none⟩,by rw [hw3];exact qp hb2,.inr rfl,hbl,?_⟩,[b]++jf x,((hx1.mono (by simp)).trans (hx2.mono fun c hc=>List.mem_append_right _ hc)).trans (hx3.mono (by simp)),fun c hc=>?_⟩
 ·rw [← byteCells_append]
  exact hm2.ext hx3 (fun c hc=>by have:=jc hm2 c hc;simp only [List.mem_singleton];omega)
 ·rcases List.mem_append.1 hc with hc | hc
  ·simp only [List.mem_singleton] at hc;exact .inl hc
  ·exact .inr (jc hm1 c hc)
theorem qih {w:World} {a:Addr} {n:Nat}:Ext [a.block] w.heap (w.freeze a n).heap:=by
 unfold World.freeze
 split
 ·exact .refl _ _
 ·refine ⟨by simp,fun b _ hn=>?_⟩
  simp only
  rw [Array.getElem?_modify,if_neg (fun e=>hn (by simp [e]))]
theorem string_c {w:World} {H:Heap} {lo b:Nat} {L:List UInt8} (hw:w.heap=H) (hB:Bd H lo b L) (hL:L ≠ []) (hlen:L.length≤140737488351232) :
  qg P zb3 #[.pointer (some ⟨b,0,none⟩)] w fun e w'=>e=.returned (.string (strOf L))∧∃ F,Ext F H w'.heap∧∀ c ∈ F,lo≤c:=by
 obtain ⟨x,p,hb,hp,hbl,hm⟩:=hB
 refine zgc ?_
 unfold zda
 refine jq hw fun w1 hw1=>?_
 simp only [xq,jv,Nat.zero_add]
 refine jg (s:=.slc) (t:=x) hw1 hb rfl ?_
 refine jg (s:=.slc) (t:=x) hw1 hb rfl ?_
 have hxl:x.2.1=L.length:=by have:=hm.len;simp at this;omega
 have hpos:0 < L.length:=by cases L with | nil=>exact absurd rfl hL | cons a l=>simp
 have hcs:=hm.cells
 rcases hm with ⟨rfl,h⟩ | ⟨g,c,hxa,hge,hg,hcz,hvl,hle,he⟩
 ·simp at hxl;omega
 obtain ⟨xa,xl,xc⟩:=x
 simp only at hxl hxa hle hcz
 subst hxa hxl
 have hxc:xc ≠ 0:=by omega
 refine zae (s:=.ptr) (some ⟨g,0,none⟩) w1 (Lib.run_unsafeSliceData_row w1 _ _ _ _ _ hxc) ?_
 refine ⟨jg (s:=.slc) (t:=(some ⟨g,0,none⟩,L.length,xc)) hw1 hb rfl rfl,?_⟩
 refine zae (s:=.str) (strOf L) (w1.freeze ⟨g,0,none⟩ L.length) (Lib.run_unsafeString_row w1 zuy zds qc xu up8 c8 g c.size (qjc hw1 hg) L hL (by omega) (by omega) fun j y hj=>?_) ?_ ?_
 ·have:=z5g (a:=⟨g,0,none⟩) hw1 hcs (i:=j) (v:=.int .u8 (y.toNat:Int)) (by simp [byteCells,hj])
  exact this
 ·refine ⟨rfl,[g],by rw [← hw1];exact qih,fun c hc=>by simp only [List.mem_singleton] at hc;omega⟩
 ·unfold World.freeze;split <;> exact ⟨rfl,rfl,rfl,Nat.le_refl _⟩
def joinP:Path→List UInt8
 | []=>[]
 | x :: xs=>x++xs.flatMap fun L=>47 :: L
def vk (p:Path):List UInt8:=47 :: joinP p
def tlen (p:Path):Nat:=(p.map (·.length)).sum
theorem z15:∀ {p:Path},(p.flatMap fun L=>(47:UInt8) :: L).length=tlen p+p.length
 | []=>rfl
 | x :: p=>by
  have:=z15 (p:=p)
  simp only [List.flatMap_cons,List.length_append,List.length_cons,tlen,List.map_cons,List.sum_cons] at this ⊢
  omega
theorem z1k {x:List UInt8} {p:Path}:(joinP (x :: p)).length=tlen (x :: p)+p.length:=by
 simp only [joinP,List.length_append,z15,tlen,List.map_cons,List.sum_cons]
 omega
theorem qku {x:List UInt8} {p:Path}:vk (x :: p)=(x :: p).flatMap fun L=>47 :: L:=by simp [vk,joinP]
theorem qbu {p:Path} {i:Nat} (h:i < p.length):tlen (p.take (i+1))=tlen (p.take i)+(p[i]).length:=by
 unfold tlen
 rw [List.take_add_one,List.getElem?_eq_getElem h,List.map_append,List.sum_append]
 simp
theorem zxy {p:Path} {i:Nat}:tlen (p.take i)≤tlen p:=by
 conv=>rhs;rw [← List.take_append_drop i p]
 unfold tlen
 rw [List.map_append,List.sum_append]
 omega
set_option maxHeartbeats 4000000 in
theorem qpp {w:World} {H:Heap} {a:Option Addr} {n nc:Nat} {p:Path} (hw:w.heap=H) (hL:Cells H a (strRow p)) (hn:n=p.length) (hnc:n≤nc) (hlen:tlen p+p.length≤1099511627776) :
  qg P zm9 #[.slice a n nc,.string (ByteArray.mk #[47])] w fun e w'=>e=.returned (.string (strOf (joinP p)))∧Ext [] H w'.heap:=by
 refine z1s ?_
 unfold zm3
 have hsep:(ByteArray.mk #[47]:ByteArray)=strOf [47]:=rfl
 have hsz:((ByteArray.mk #[47]:ByteArray).size:Int)=1:=rfl
 match p,hL,hn,hlen with
 | [],hL,hn,hlen =>
  subst hn
  exact vw rfl ⟨rfl,by rw [hw];exact .refl _ _⟩
 | [x],hL,hn,hlen =>
  subst hn
  refine jk rfl ?_
  refine vw rfl ?_
  refine z2i (i:=0) hw hL rfl (by simp) rfl ?_
  exact ⟨by simp [joinP],by rw [hw];exact .refl _ _⟩
 | x :: y :: p,hL,hn,hlen =>
  generalize hq:x :: y :: p=q at *
  have hql:q.length=p.length+2:=by rw [← hq];simp
  have hjl:(joinP q).length=tlen q+(q.length - 1):=by rw [← hq,z1k];simp
  refine jk (by simp;omega) ?_
  refine jk (by simp;omega) ?_
  refine joinP_of (fun (s:Int) W=>s=((q.length - 1:Nat):Int)∧W=w) ?_ ?_
  ·refine vw rfl ?_
   refine zab ?_
   refine zbo ((q.length - 1:Nat):Int) (by omega) (by omega) (by omega) ?_
   refine z0n 9223372036854775807 (q.length - 1) rfl rfl (by omega) (by omega) ?_
   have hdiv:2≤9223372036854775807 / (q.length - 1):=by
    rw [Nat.le_div_iff_mul_le (by omega)];omega
   refine zq (fun h=>absurd h (by rw [hsz];omega)) (fun _=>?_)
   refine zbo ((q.length - 1:Nat):Int) (by omega) (by omega) (by omega) ?_
   refine zff ((q.length - 1:Nat):Int) (by rw [hsz];omega) (by omega) (by omega) ?_
   refine xk ((q.length - 1:Nat):Int) (by omega) (by omega) (by omega) ?_
   exact ⟨rfl,rfl⟩
  rintro _ w ⟨rfl,rfl⟩
  refine jd (fun (s:Int × Int) W=>∃ i:Nat,s=(((q.length - 1+tlen (q.take i):Nat):Int),(i:Int))∧i≤q.length∧W=w) (fun s _=>(q.length - s.2).toNat) ⟨0,by simp [tlen],Nat.zero_le _,rfl⟩ ?_
  rintro _ w ⟨i,rfl,hi,rfl⟩
  refine zq (fun hlt=>?_) (fun hge=>?_)
  ·have hil:i < q.length:=by simp only at hlt;omega
   have ht1:=qbu hil
   have ht2:=zxy (p:=q) (i:=i+1)
   refine zab ?_
   refine z2i hw hL hn hil rfl ?_
   refine zab ?_
   refine zbo (9223372036854775807 - ((q.length - 1+tlen (q.take i):Nat):Int)) rfl (by omega) (by omega) ?_
   refine zq (fun h=>absurd h (by simp only [jl];omega)) (fun _=>?_)
   refine xk ((q.length - 1+tlen (q.take (i+1)):Nat):Int) (by simp only [jl];omega) (by omega) (by omega) ?_
   refine xk ((i+1:Nat):Int) (by omega) (by omega) (by omega) ?_
   exact ⟨⟨i+1,rfl,by omega,rfl⟩,by simp only;omega⟩
  have hie:i=q.length:=by simp only at hge;omega
  subst hie
  rw [List.take_length]
  refine jw hw fun w1 hw1=>?_
  rw [zcB] at hw1
  have hb1:w1.heap[H.size]?=some (.cells #[.pointer none,.slice none 0 0] jm (0,0)):=by rw [hw1];exact zo
  have hx1:Ext [] H w1.heap:=by rw [hw1];exact .push _
  refine zn (l:=[]) (qql rfl hb1 (by omega) (by omega)) ?_
  rintro e w2 ⟨rfl,hB2,hx2⟩
  refine ⟨(),rfl,?_⟩
  have hlo:H.size < w1.heap.size:=lt_of_get hb1
  have hs2:=hx2.1
  have hx02:Ext [] H w2.heap:=hx1.own hx2 (by intro b hb hlt;simp at hb;omega)
  have h0q:0 < q.length:=by omega
  refine z2i (i:=0) rfl (hL.ext hx02 (by simp)) hn h0q rfl ?_
  have hq0:q[0]=x:=by simp only [← hq,List.getElem_cons_zero]
  have hqd:q.drop 1=y :: p:=by rw [← hq];rfl
  have htx:x.length≤tlen q:=by rw [← hq];simp [tlen]
  rw [hq0]
  refine zn (zkb rfl hB2 hs2 (by simp;omega)) ?_
  rintro e w3 ⟨rfl,hB3,F3,hx3,hF3⟩
  refine ⟨((x.length:Int),.nilIface),rfl,?_⟩
  have hx03:Ext [] H w3.heap:=hx02.own hx3 (by intro b hb hlt;rcases hF3 b hb with h | h <;> omega)
  have hs3:=hx3.1
  have hdr:=(hL.ext hx03 (by simp)).drop 1 nc (by simp;omega)
  rw [zz6] at hdr
  refine qx (s:=.slc) (if nc=1 then a else a.map (·.add (1 * 1)),n - 1,nc - 1) (zaw (l:=1) (h:=n) zyn qir (.yes rfl) .no (by omega) (by omega)) ?_
  rw [List.nil_append] at hB3
  have hdl:(q.drop 1).length=n - 1:=by simp;omega
  refine jd (fun (s:Int) W=>∃ i:Nat,s=(i:Int)∧i≤n - 1∧Ext [] H W.heap∧w1.heap.size≤W.heap.size∧Bd W.heap w1.heap.size H.size (x++((q.drop 1).take i).flatMap fun L=>47 :: L)) (fun s _=>((n - 1:Nat) - s).toNat) ⟨0,rfl,Nat.zero_le _,hx03,by omega,by simpa using hB3⟩ ?_
  rintro _ W ⟨i,rfl,hi,hxW,hsW,hBW⟩
  have hjl2:(joinP q).length=x.length+((q.drop 1).flatMap fun L=>(47:UInt8) :: L).length:=by rw [← hq];simp [joinP]
  refine zq (fun hlt=>?_) (fun hge=>?_)
  ·have hil:i < (q.drop 1).length:=by simp only at hlt;omega
   have htk:((q.drop 1).take (i+1)).flatMap (fun L=>(47:UInt8) :: L)=((q.drop 1).take i).flatMap (fun L=>47 :: L)++(47 :: (q.drop 1)[i]):=by
    rw [List.take_add_one,List.getElem?_eq_getElem hil,List.flatMap_append];simp
   have htl:(((q.drop 1).take (i+1)).flatMap fun L=>(47:UInt8) :: L).length≤((q.drop 1).flatMap fun L=>(47:UInt8) :: L).length:=by
    conv=>rhs;rw [← List.take_append_drop (i+1) (q.drop 1),List.flatMap_append,List.length_append]
    omega
   rw [htk] at htl
   simp only [List.length_append,List.length_cons] at htl
   have hdrW:Cells W.heap (if nc=1 then a else a.map (·.add (1 * 1))) (strRow (q.drop 1)):=by
    have:=(hL.ext hxW (by simp)).drop 1 nc (by simp;omega)
    rwa [zz6] at this
   refine z2i rfl hdrW hdl.symm hil rfl ?_
   rw [hsep]
   refine zn (zkb rfl hBW hsW (by simp only [List.length_append,List.length_cons,List.length_nil];omega)) ?_
   rintro e w4 ⟨rfl,hB4,F4,hx4,hF4⟩
   refine ⟨(1,.nilIface),rfl,?_⟩
   have hx04:Ext [] H w4.heap:=hxW.own hx4 (by intro b hb hlt;rcases hF4 b hb with h | h <;> omega)
   refine zn (zkb rfl hB4 (Nat.le_trans hsW hx4.1) (by simp only [List.length_append,List.length_cons,List.length_nil];omega)) ?_
   rintro e w5 ⟨rfl,hB5,F5,hx5,hF5⟩
   refine ⟨(((q.drop 1)[i].length:Int),.nilIface),rfl,?_⟩
   refine xk ((i+1:Nat):Int) (by omega) (by omega) (by omega) ?_
   refine ⟨⟨i+1,rfl,by omega,hx04.own hx5 (by intro b hb hlt;rcases hF5 b hb with h | h <;> omega),Nat.le_trans hsW (Nat.le_trans hx4.1 hx5.1),?_⟩,by omega⟩
   rw [htk]
   simpa using hB5
  ·have hie:i=(q.drop 1).length:=by simp only at hge;omega
   subst hie
   rw [List.take_length] at hBW
   have hjj:x++(q.drop 1).flatMap (fun L=>(47:UInt8) :: L)=joinP q:=by rw [← hq];rfl
   rw [hjj] at hBW
   refine zn (string_c rfl hBW (by intro h;rw [h] at hjl;simp at hjl;omega) (by omega)) ?_
   rintro e w6 ⟨rfl,F6,hx6,hF6⟩
   refine ⟨strOf (joinP q),rfl,?_⟩
   exact ⟨rfl,hxW.own hx6 (by intro b hb hlt;have:=hF6 b hb;omega)⟩
theorem z5f {w:World} {H:Heap} {a:Option Addr} {n nc:Nat} {p:Path} (hw:w.heap=H) (hL:Cells H a (strRow p)) (hn:n=p.length) (hnc:n≤nc) (hlen:tlen p+p.length≤1099511627776) :
  qg P zci #[.slice a n nc] w fun e w'=>e=.returned (.string (strOf (vk p)))∧Ext [] H w'.heap:=by
 refine z8c ?_
 unfold zrp
 refine zn (qpp hw hL hn hnc hlen) ?_
 rintro e w1 ⟨rfl,hx⟩
 refine ⟨strOf (joinP p),rfl,?_⟩
 have hjl:(joinP p).length≤tlen p+p.length:=by
  cases p with
  | nil=>simp [joinP]
  | cons x p=>rw [z1k];simp
 exact zx1 (A:=[47]) (by simp;omega) ⟨rfl,hx⟩
theorem qkp {w:World} {H:Heap} {a:Option Addr} {n nc:Nat} {p:Path} (hw:w.heap=H) (hL:Cells H a (strRow p)) (hn:n=p.length) (hlen:tlen p+p.length≤1099511627776) :
  qg P zij #[.slice a n nc] w fun e w'=>e=.returned (.string (strOf (vk p)))∧w'=w:=by
 refine qdl ?_
 unfold zwq
 cases p with
 | nil =>
  subst hn
  exact vw rfl ⟨rfl,rfl⟩
 | cons x p =>
  rw [qku]
  generalize hq:x :: p=q at *
  have hql:q.length=p.length+1:=by rw [← hq];simp
  refine jk (by simp;omega) ?_
  refine jd (fun (s:ByteArray × Int) W=>∃ i:Nat,s=(strOf ((q.take i).flatMap fun L=>47 :: L),(i:Int))∧i≤q.length∧W=w) (fun s _=>(q.length - s.2).toNat) ⟨0,rfl,Nat.zero_le _,rfl⟩ ?_
  rintro _ w ⟨i,rfl,hi,rfl⟩
  refine zq (fun hlt=>?_) (fun hge=>?_)
  ·have hil:i < q.length:=by simp only at hlt;omega
   have ht1:=qbu hil
   have ht2:=zxy (p:=q) (i:=i+1)
   have hfl:((q.take i).flatMap fun L=>(47:UInt8) :: L).length=tlen (q.take i)+i:=by rw [z15];simp;omega
   refine zx1 (B:=[47]) (by rw [hfl];simp;omega) ?_
   refine z2i hw hL hn hil rfl ?_
   refine zx1 (by rw [List.length_append,hfl];simp;omega) ?_
   refine xk ((i+1:Nat):Int) (by omega) (by omega) (by omega) ?_
   refine ⟨⟨i+1,?_,by omega,rfl⟩,by simp only;omega⟩
   rw [List.take_add_one,List.getElem?_eq_getElem hil,List.flatMap_append];simp
  ·have hie:i=q.length:=by simp only at hge;omega
   subst hie
   rw [List.take_length]
   exact ⟨rfl,rfl⟩
end Go.Proofs.YtbmegmbnlajbbaaGreatDoor
namespace Go.Fw
open Go
def qp2 (P:Program) {α:Type} (gv:Value) (S:List α→Prop) (nx:List α→α→Prop) (enc:α→Array Value) (fp A:List Nat) (w:World):Prop :=
 ∃ gf lb,gv=.func (.func gf) #[] lb∧∀ (l:Nat) (I:List α→World→Prop) (J:World→Prop) (w1:World) (M:List Nat),
  Ext [] w.heap w1.heap→(∀ b ∈ M,b < w1.heap.size∧b ∉ fp)→(∀ pre W W',I pre W→Beside w1.heap.size W W'→I pre W')→(∀ pre W W',I pre W→Ext A W.heap W'.heap→I pre W')→I [] w1 →
  (∀ pre x W,nx pre x→I pre W→zxr P l (enc x) W fun e W'=>Keep M w1.heap.size W.heap W'.heap∧((e=.returned (.bool true)∧I (pre++[x]) W') ∨ (e=.returned (.bool false)∧J W'))) →
  qg P gf (#[.func (.yield l) #[] #[]]++lb) w1 fun e W=>(∃ v,e=.returned v)∧((∃ xs,S xs∧I xs W) ∨ J W)
theorem qp2.later {P:Program} {α:Type} {gv:Value} {S:List α→Prop} {nx:List α→α→Prop} {enc:α→Array Value} {fp A:List Nat} {w w':World} (h:qp2 P gv S nx enc fp A w) (hx:Ext [] w.heap w'.heap):qp2 P gv S nx enc fp A w':=by
 obtain ⟨gf,lb,hg,h⟩:=h
 exact ⟨gf,lb,hg,fun l I J w1 M h1=>h l I J w1 M (hx.trans h1)⟩
theorem qj4 {P:Program} {α:Type} {gv:Value} {S:List α→Prop} {nx:List α→α→Prop} {shs:List Sh} {tv:α→Tup shs} {fp:List Nat} {w:World}
  {body:Tup shs→World→(World→(World→Prop)→Prop)→(World→Prop)→(World→Prop)→(Nat→World→Prop)→Prop} {done ret:Nat→World→Prop} {ext:Nat→Nat→World→Prop}
  {A:List Nat} (hseq:qp2 P gv S nx (fun x=>(Tup.vals shs (tv x)).toArray) fp A w) (hA:∀ b ∈ A,b ∈ fp) (M:List Nat) (hM:∀ b ∈ M,b < w.heap.size∧b ∉ fp) (hfp:∀ b ∈ fp,b < w.heap.size)
  (I:List α→World→Prop) (Jr:World→Prop) (Jx:Nat→World→Prop)
  (hI:∀ pre W W',I pre W→Beside w.heap.size W W'→I pre W') (hJr:∀ W W',Jr W→Beside w.heap.size W W'→Jr W') (hJx:∀ i W W',Jx i W→Beside w.heap.size W W'→Jx i W')
  (hIA:∀ pre W W',I pre W→Ext A W.heap W'.heap→I pre W') (h0:I [] w)
  (hbody:∀ pre x W,nx pre x→I pre W→w.heap.size+2≤W.heap.size→∀ (beg:World→(World→Prop)→Prop) (kc kr:World→Prop) (kx:Nat→World→Prop),
   (∀ W1 (K:World→Prop),Ext [] W.heap W1.heap→(∀ W2,Beside w.heap.size W1 W2→W2.heap.size=W1.heap.size →
    (∀ W3,Keep M w.heap.size W2.heap W3.heap→I (pre++[x]) W3→kc W3)→(∀ W3,Keep M w.heap.size W2.heap W3.heap→Jr W3→kr W3)→(∀ i W3,Keep M w.heap.size W2.heap W3.heap→Jx i W3→kx i W3)→K W2)→beg W1 K) →
   body (tv x) W beg kc kr kx)
  (hdone:∀ xs W,S xs→I xs W→W.heap[w.heap.size]?=some (.deferred (some []))→done w.heap.size W)
  (hret:∀ W,Jr W→W.heap[w.heap.size]?=some (.deferred (some []))→ret w.heap.size W)
  (hext:∀ i W,Jx i W→W.heap[w.heap.size]?=some (.deferred (some []))→ext i w.heap.size W) :
  z5t P shs gv w body done ret ext:=by
 obtain ⟨gf,lb,hg,hseq⟩:=hseq
 refine ⟨gf,lb,hg,fun oD oL oB oX oE hD hno w1 hw1 hY=>?_⟩
 obtain ⟨hnL,hnB,hnX,hnE⟩:=hno
 have hx1:Ext [] w.heap w1.heap:=by rw [hw1];exact (Ext.push _).trans (Ext.push _)
 have hs1:w1.heap.size=w.heap.size+2:=by rw [hw1];simp
 have hD1:w1.heap[w.heap.size]?=some oD:=by rw [hw1];exact zet zo
 have hL1:w1.heap[w.heap.size+1]?=some oL:=by
  rw [hw1]
  have:=zo (H:=w.heap.push oD) (o:=oL)
  simpa using this
 have hDc:zlp oD:=by rw [hD];intro c T fr h;cases h
 have key:∀ {W W':World} {r:Nat} {o:Obj},(∀ o,W.heap[r]?=some o→zlp o)→w1.heap.size≤r→Ext [r] W.heap W'.heap→∀ b,b < w.heap.size+2→W.heap[b]?=some o→W'.heap[b]?=some o :=
  fun _ hr hx b hb hbo=>hx.get hbo (by simp;omega)
 refine (hseq (w.heap.size+1)
  (fun pre W=>I pre W∧W.heap[w.heap.size]?=some oD∧W.heap[w.heap.size+1]?=some oL)
  (fun W=>W.heap[w.heap.size]?=some oD∧((Jr W∧W.heap[w.heap.size+1]?=some (oX .ret)) ∨ ∃ i,Jx i W∧W.heap[w.heap.size+1]?=some (oX (.exit i))))
  w1 ((w.heap.size+1) :: M) hx1 ?_ ?_ ?_ ⟨hI _ _ _ h0 (.new (Nat.le_refl _) hx1),hD1,hL1⟩ ?_).mono ?_
 ·intro b hb
  rcases List.mem_cons.1 hb with rfl | hb
  ·exact ⟨by omega,fun h=>by have:=hfp _ h;omega⟩
  ·exact ⟨by have:=(hM b hb).1;omega,(hM b hb).2⟩
 ·rintro pre W W' ⟨h1,h2,h3⟩ hA
  have hA':=hA
  obtain ⟨r,hr,hn,hx⟩:=hA'
  exact ⟨hI _ _ _ h1 (hA.mono (by omega)),key hn hr hx _ (by omega) h2,key hn hr hx _ (by omega) h3⟩
 ·rintro pre W W' ⟨h1,h2,h3⟩ hx
  exact ⟨hIA _ _ _ h1 hx,hx.get h2 (fun h=>by have:=hfp _ (hA _ h);omega),hx.get h3 (fun h=>by have:=hfp _ (hA _ h);omega)⟩
 ·rintro pre x W hnx ⟨h1,h2,h3⟩
  have hlt:w.heap.size+1 < W.heap.size:=(Array.getElem?_eq_some_iff.1 h3).1
  refine hY (tv x) W _ h3 (hbody pre x W hnx h1 (by omega) _ _ _ _ ?_)
  intro W1 K hxW1 hK
  have h31:W1.heap[w.heap.size+1]?=some oL:=hxW1.get h3 (by simp)
  have h21:W1.heap[w.heap.size]?=some oD:=hxW1.get h2 (by simp)
  refine ⟨h31,fun W2 hW2=>?_⟩
  have hlt1:w.heap.size+1 < W1.heap.size:=(Array.getElem?_eq_some_iff.1 h31).1
  have hh2:W2.heap=W1.heap.setIfInBounds (w.heap.size+1) oB:=by rw [hW2,zce]
  have h32:W2.heap[w.heap.size+1]?=some oB:=by rw [hh2];exact Array.getElem?_setIfInBounds_self_of_lt hlt1
  have h22:W2.heap[w.heap.size]?=some oD:=by rw [hh2,Array.getElem?_setIfInBounds_ne (by omega)];exact h21
  have fin:∀ (o':Obj) (W3:World),Keep M w.heap.size W2.heap W3.heap→W3.heap[w.heap.size+1]?=some oB∧Keep ((w.heap.size+1) :: M) w1.heap.size W.heap (W3.putObj (w.heap.size+1) o').heap∧(W3.putObj (w.heap.size+1) o').heap[w.heap.size]?=some oD ∧
    (W3.putObj (w.heap.size+1) o').heap[w.heap.size+1]?=some o'∧Beside w.heap.size W3 (W3.putObj (w.heap.size+1) o'):=by
   intro o' W3 hx3
   have h33:W3.heap[w.heap.size+1]?=some oB:=hx3.2.2 _ _ (by omega) h32 hnB
   have h23:W3.heap[w.heap.size]?=some oD:=hx3.2.2 _ _ (Nat.le_refl _) h22 hDc
   have hlt3:w.heap.size+1 < W3.heap.size:=(Array.getElem?_eq_some_iff.1 h33).1
   have hn2:∀ b,b ≠ w.heap.size+1→W2.heap[b]?=W1.heap[b]?:=fun b hb=>by rw [hh2];exact Array.getElem?_setIfInBounds_ne (Ne.symm hb)
   have hn4:∀ b,b ≠ w.heap.size+1→(W3.putObj (w.heap.size+1) o').heap[b]?=W3.heap[b]?:=fun b hb=>by rw [zce];exact Array.getElem?_setIfInBounds_ne (Ne.symm hb)
   have hs2:W2.heap.size=W1.heap.size:=by rw [hh2];simp
   refine ⟨h33,⟨?_,?_,?_⟩,?_,?_,.put (by omega) h33 hnB⟩
   ·rw [zce]
    have:=hxW1.1;have:=hx3.1
    simp;omega
   ·intro b hb hl hn
    simp only [List.mem_cons,not_or] at hn
    rw [hn4 b hn.1]
    by_cases hbD:b=w.heap.size
    ·rw [hbD,h23,h2]
    ·rw [hx3.2.1 b (by omega) (by have:=hxW1.1;omega) hn.2,hn2 b hn.1]
     exact hxW1.2 b hl (by simp)
   ·intro b o hb ho hno
    rw [hn4 b (by omega)]
    exact hx3.2.2 b o (by omega) (by rw [hn2 b (by omega)];exact hxW1.get ho (by simp)) hno
   ·rw [hn4 _ (by omega)];exact h23
   ·rw [zce];exact Array.getElem?_setIfInBounds_self_of_lt hlt3
  refine hK W2 (by rw [hW2];exact .put (by omega) h31 hnL) (by rw [hh2];simp) (fun W3 hx3 h=>?_) (fun W3 hx3 h=>?_) (fun i W3 hx3 h=>?_)
  ·obtain ⟨a,b,c,d,e⟩:=fin oL W3 hx3
   exact ⟨a,b,.inl ⟨rfl,hI _ _ _ h e,c,d⟩⟩
  ·obtain ⟨a,b,c,d,e⟩:=fin (oX .ret) W3 hx3
   exact ⟨a,b,.inr ⟨rfl,c,.inl ⟨hJr _ _ h e,d⟩⟩⟩
  ·obtain ⟨a,b,c,d,e⟩:=fin (oX (.exit i)) W3 hx3
   exact ⟨a,b,.inr ⟨rfl,c,.inr ⟨i,hJx _ _ _ h e,d⟩⟩⟩
 ·have put:∀ {W:World} {o o':Obj},W.heap[w.heap.size]?=some oD→(W.putObj (w.heap.size+1) o').heap[w.heap.size]?=some (.deferred (some [])):=by
   intro W o o' h
   rw [zce,Array.getElem?_setIfInBounds_ne (by omega),h,hD]
  rintro e W ⟨hv,⟨xs,hS,h1,h2,h3⟩ | ⟨h2,⟨h1,h3⟩ | ⟨i,h1,h3⟩⟩⟩
  ·exact ⟨hv,.inl ⟨h3,hdone xs _ hS (hI _ _ _ h1 (.put (by omega) h3 hnL)) (put (o:=oD) h2)⟩⟩
  ·exact ⟨hv,.inr (.inl ⟨h3,hret _ (hJr _ _ h1 (.put (by omega) h3 (hnX _))) (put (o:=oD) h2)⟩)⟩
  ·exact ⟨hv,.inr (.inr ⟨i,h3,hext i _ (hJx _ _ _ h1 (.put (by omega) h3 (hnX _))) (put (o:=oD) h2)⟩)⟩
end Go.Fw
namespace Go.Proofs.YtbmegmbnlajbbaaGreatDoor
open Go Go.Fw Go.Proofs
def pieces:List UInt8→List (List UInt8)
 | []=>[]
 | c :: L=>if c=47 then [] :: pieces L else match pieces L with | []=>[[c]] | p :: ps=>if L.head?=some 47 then [c] :: ps else (c :: p) :: ps
theorem zkq:∀ {p r:List UInt8},(47:UInt8) ∉ p→pieces (p++47 :: r)=p :: pieces r
 | [],r,_=>by simp [pieces]
 | c :: p,r,h=>by
  have hc:c ≠ 47:=fun e=>h (by simp [e])
  have ih:=zkq (p:=p) (r:=r) (fun hm=>h (by simp [hm]))
  rw [List.cons_append,pieces,if_neg hc,ih]
  cases p with
  | nil=>simp
  | cons d p =>
   have hd:d ≠ 47:=fun e=>h (by simp [e])
   simp [hd]
theorem zpg:∀ {p:List UInt8},(47:UInt8) ∉ p→p ≠ []→pieces p=[p]
 | [],_,h=>absurd rfl h
 | [c],h,_=>by
  have hc:c ≠ 47:=fun e=>h (by simp [e])
  simp [pieces,hc]
 | c :: d :: p,h,_=>by
  have hc:c ≠ 47:=fun e=>h (by simp [e])
  have hd:d ≠ 47:=fun e=>h (by simp [e])
  have ih:=zpg (p:=d :: p) (fun hm=>h (by simp [hm])) (by simp)
  rw [pieces,if_neg hc,ih]
  simp [hd]
theorem qjq (L:List UInt8):(47:UInt8) ∉ L ∨ ∃ p r,L=p++47 :: r∧(47:UInt8) ∉ p:=by
 induction L with
 | nil=>left;simp
 | cons c L ih =>
  by_cases hc:c=47
  ·right;exact ⟨[],L,by simp [hc],by simp⟩
  ·rcases ih with h | ⟨p,r,h1,h2⟩
   ·left;simp [h,Ne.symm hc]
   ·right;exact ⟨c :: p,r,by simp [h1],by simp [h2,Ne.symm hc]⟩
theorem qjw:∀ {L:List UInt8},(47:UInt8) ∉ L→Lib.indexByte L 47=-1
 | [],_=>rfl
 | c :: L,h=>by
  have hc:¬ c=47:=fun e=>h (by simp [e])
  have ih:=qjw (L:=L) (fun hm=>h (by simp [hm]))
  simp [Lib.indexByte,hc,ih]
theorem qi1:∀ {p r:List UInt8},(47:UInt8) ∉ p→Lib.indexByte (p++47 :: r) 47=(p.length:Int)
 | [],r,_=>by simp [Lib.indexByte]
 | c :: p,r,h=>by
  have hc:¬ c=47:=fun e=>h (by simp [e])
  have ih:=qi1 (p:=p) (r:=r) (fun hm=>h (by simp [hm]))
  simp only [List.cons_append,Lib.indexByte,ih]
  have h1:(c == (47:UInt8))=false:=by simp [hc]
  have h2:((p.length:Int) == -1)=false:=by simp
  rw [h1,h2]
  simp
theorem cut_c {w:World} (L:List UInt8) (hlen:L.length≤1099511627776):qg P zqi #[.string (strOf L),.string (ByteArray.mk #[47])] w fun e w' =>
  ∃ p r b,e=.returned (.tuple #[.string (strOf p),.string (strOf r),.bool b])∧w'.heap=w.heap∧(((47:UInt8) ∉ L∧p=L∧r=[]) ∨ (L=p++47 :: r∧(47:UInt8) ∉ p)):=by
 have hsep:(ByteArray.mk #[47]:ByteArray)=strOf [47]:=rfl
 refine z4e ?_
 unfold zpf
 have hix:qg P zdj #[.string (strOf L),.string (ByteArray.mk #[47])] w fun e w'=>e=.returned (.int .i64 (Lib.indexByte L 47))∧w'=w:=by
  refine zjj ?_
  unfold zdg
  refine zab ?_
  refine zab ?_
  refine jk rfl ?_
  refine zdq (p:=L=[47]) (by rw [z9h,zaj,beq_iff_eq];exact eq_comm) (fun h=>⟨by rw [h];rfl,rfl⟩) (fun _=>?_)
  refine vw rfl ?_
  rw [hsep]
  refine zos (L:=[47]) 0 rfl (by simp) ?_
  have h2:qg P zbk #[.string (strOf L),.int .u8 47] w fun e w'=>e=.returned (.int .i64 (Lib.indexByte L 47))∧w'=w:=by
   refine zha ?_
   unfold zcp
   refine z0j (l:=[.int .i64]) (Lib.indexByte L 47) ?_ ⟨rfl,rfl⟩
   rw [zg4 (e:=Extern.BytealgIndexByte.indexByte) (by kernel_rfl),Lib.run_indexByteString]
   rfl
  refine zn h2 ?_
  rintro e w' ⟨rfl,rfl⟩
  exact ⟨_,rfl,rfl,rfl⟩
 have hcut:qg P zdz #[.string (strOf L),.string (ByteArray.mk #[47])] w fun e w' =>
  ∃ p r b,e=.returned (.tuple #[.string (strOf p),.string (strOf r),.bool b])∧w'.heap=w.heap∧(((47:UInt8) ∉ L∧p=L∧r=[]) ∨ (L=p++47 :: r∧(47:UInt8) ∉ p)):=by
  refine zln ?_
  unfold zdy
  refine zn hix ?_
  rintro e w' ⟨rfl,rfl⟩
  refine ⟨_,rfl,?_⟩
  rcases qjq L with h | ⟨p,r,rfl,h⟩
  ·rw [qjw h]
   refine jk rfl ?_
   exact ⟨L,[],false,rfl,rfl,.inl ⟨h,rfl,rfl⟩⟩
  ·rw [qi1 h]
   refine vw (by simp) ?_
   refine jq rfl fun w2 hw2=>?_
   simp only [List.length_append,List.length_cons] at hlen
   refine xk ((p.length+1:Nat):Int) (by rw [hsep,jl];simp) (by omega) (by omega) ?_
   refine qx (s:=.str) _ (z0v (l:=0) (h:=p.length) zwa .no (.yes rfl) (Nat.zero_le _) (by simp)) ?_
   refine qx (s:=.str) _ (z0v (l:=p.length+1) (h:=(p++47 :: r).length) zwa (.yes rfl) .no (by simp) (Nat.le_refl _)) ?_
   refine ⟨p,r,true,?_,hw2,.inr ⟨rfl,h⟩⟩
   rw [List.take_left,List.drop_zero,List.take_length,show p++47 :: r=(p++[47])++r by simp,List.drop_left' (by simp)]
 refine zn hcut ?_
 rintro e w' ⟨p,r,b,rfl,h1,h2⟩
 refine ⟨(strOf p,strOf r,b),rfl,?_⟩
 exact ⟨p,r,b,rfl,h1,h2⟩
theorem qg0 {w:World} {H:Heap} {b:Nat} {L:List UInt8} (hw:w.heap=H) (hb:H[b]?=some (.cells #[.string (strOf L)] qc (0,0))) (hlen:L.length≤1099511627776) :
  qp2 P (.func (.func zgf) #[] #[.pointer (some ⟨b,0,none⟩)]) (fun ys=>ys=pieces L) (fun pre y=>∃ rest,pieces L=pre++y :: rest) (fun x=>#[.string (strOf x)]) [b] [b] w:=by
 refine ⟨_,_,rfl,fun l I J w1 M hx1 hMM hst hIA h0 hY=>?_⟩
 have hb1:=(hw ▸ hx1).get hb (by simp)
 have hblt:=lt_of_get hb1
 refine zw5 ?_
 unfold zj1
 simp only [xq]
 have hlt:∀ (R:List UInt8),R.length=R.length:=fun _=>rfl
 refine zu4 (fun n _ W=>∃ pre R,I pre W∧W.heap[b]?=some (.cells #[.string (strOf R)] qc (0,0))∧pieces L=pre++pieces R∧R.length≤1099511627776∧w1.heap.size≤W.heap.size∧n=R.length) L.length ⟨[],L,h0,hb1,by simp,hlen,Nat.le_refl _,rfl⟩ ?_
 rintro n _ W ⟨pre,R,hI,hbW,hpc,hRl,hsz,rfl⟩ K hK
 refine jg (s:=.str) (t:=strOf R) rfl hbW rfl ?_
 refine zdq (p:=R ≠ []) (by rw [Bool.not_eq_true',← Bool.not_eq_true,zhz]) (fun hne=>?_) (fun he=>?_)
 ·refine jg (s:=.str) (t:=strOf R) rfl hbW rfl ?_
  refine zn (cut_c R hRl) ?_
  rintro e W2 ⟨p,r,bb,rfl,hh2,hcase⟩
  refine ⟨(strOf p,strOf r,bb),rfl,?_⟩
  have hpr:pieces R=p :: pieces r∧r.length < R.length:=by
   rcases hcase with ⟨h1,rfl,rfl⟩ | ⟨rfl,h2⟩
   ·refine ⟨by rw [zpg h1 hne];rfl,?_⟩
    cases p with
    | nil=>exact absurd rfl hne
    | cons a p=>simp
   ·exact ⟨zkq h2,by simp;omega⟩
  have hx2:Ext [] W.heap W2.heap:=by rw [hh2];exact .refl _ _
  have hI2:=hst _ _ _ hI (.new hsz hx2)
  have hb2:W2.heap[b]?=some (.cells #[.string (strOf R)] qc (0,0)):=by rw [hh2];exact hbW
  refine ztt ((hY pre p W2 ⟨pieces r,by rw [hpc,hpr.1]⟩ hI2).mono ?_)
  rintro e W3 ⟨hK3,⟨rfl,hI3⟩ | ⟨rfl,hJ3⟩⟩
  ·refine ⟨true,rfl,?_⟩
   refine jk rfl ?_
   have hb3:=hK3.get hb2 hblt (fun h=>(hMM _ h).2 (by simp))
   refine zbp rfl hb3 (by simp) fun W4 hW4=>?_
   have hx4:Ext [b] W3.heap W4.heap:=by rw [hW4];exact Ext.set _ (by simp)
   refine hK _ _ _ hpr.2 ⟨pre++[p],r,hIA _ _ _ hI3 hx4,by rw [hW4];exact qp hb3,by rw [hpc,hpr.1];simp,by omega,?_,rfl⟩
   have:=hx4.1;have:=hK3.1;rw [hh2] at this;omega
  ·refine ⟨false,rfl,?_⟩
   exact vw rfl ⟨⟨_,rfl⟩,.inr hJ3⟩
 ·have he:R=[]:=Classical.not_not.1 he
  subst he
  refine ⟨⟨_,rfl⟩,.inl ⟨pieces L,rfl,?_⟩⟩
  rw [hpc]
  simpa [pieces] using hI
def zb5 (acc:Path) (x:List UInt8):Path:=if x=[] ∨ x=[46] then acc else if x=[46,46] then acc.dropLast else acc++[x]
def ze0 (ps:Path):Path:=ps.foldl zb5 []
def zvt (L:List UInt8):Bool:=L.all fun b=>decide (b=47) || zd9 b
def zb1 (L:List UInt8):Path × Int :=
 if 256 < L.length then ([],2) else if L.head? ≠ some 47 then ([],40) else if zvt L=false then ([],40)
 else if (pieces L).any (fun x=>decide (16 < x.length)) then ([],41) else if 8 < (ze0 (pieces L)).length then ([],42) else (ze0 (pieces L),0)
theorem zhw {ps:Path} {x:List UInt8}:ze0 (ps++[x])=zb5 (ze0 ps) x:=by simp [ze0]
theorem z7t:∀ {ps acc:Path},(ps.foldl zb5 acc).length≤acc.length+ps.length
 | [],acc=>by simp
 | x :: ps,acc=>by
  have:=z7t (ps:=ps) (acc:=zb5 acc x)
  have h:(zb5 acc x).length≤acc.length+1:=by
   unfold zb5;split
   ·omega
   ·split <;> simp;omega
  simp only [List.foldl_cons,List.length_cons];omega
theorem pieces_len:∀ {L:List UInt8},(pieces L).length≤L.length
 | []=>by simp [pieces]
 | c :: L=>by
  have:=pieces_len (L:=L)
  rw [pieces]
  split
  ·simp;omega
  ·split
   ·simp
   ·rename_i p ps h
    rw [h] at this
    split <;> (simp only [List.length_cons] at this ⊢;omega)
theorem qqw:Elem P qc 1 16:=zno (z:=.string .empty) (by kernel_rfl) rfl
theorem qsl:zc P qw=#[.slice none 0 0]:=by kernel_rfl
theorem zcE:zc P zeu=#[.int .i64 0]:=by kernel_rfl
theorem Mine.cut {H:Heap} {B:Nat} {T:TypeId} {x:Option Addr × Nat × Nat} {vs:List Value} (h:Mine H B T 1 x vs) {k:Nat} (hk:k≤x.2.1) :
  Mine H B T 1 (if x.2.2=0 then x.1 else x.1.map (·.add (0 * 1)),k - 0,x.2.2 - 0) (vs.take k):=by
 rcases h with ⟨rfl,rfl⟩ | ⟨b,c,hx,hB,hb,hc,hl,hle,he⟩
 ·simp only at hk
  obtain rfl:k=0:=by omega
  exact .inl ⟨by simp,by simp⟩
 ·have hkl:(vs.take k).length=k:=by simp;omega
  refine .inr ⟨b,c,?_,hB,hb,by simpa using hc,by rw [hkl];simp,by simp only;omega,?_⟩
  ·simp only [hx]
   split
   ·rfl
   ·simp [jv]
  ·rw [hkl]
   conv=>rhs;rw [← he]
   simp only [Array.toList_extract,List.extract_eq_take_drop,List.drop_zero,Nat.sub_zero,List.take_take]
   congr 1;omega
theorem qmb {x:Option Addr × Nat × Nat} {k c:Nat}:jf (if x.2.2=0 then x.1 else x.1.map (·.add (0 * 1)),k,c)=jf x:=by
 by_cases h:x.2.2=0
 ·rw [if_pos h];rfl
 ·rw [if_neg h]
  cases hx:x.1 with
  | none=>simp [jf,hx]
  | some a=>simp [jf,hx,Addr.add]
theorem z4y {w:World} {H:Heap} {b2 b3:Nat} {v2 v3:Value} {code:Int} {x:Option Addr × Nat × Nat} (hw:w.heap=H) (h2:H[b2]?=some (.cells #[v2] qw (0,0))) (h3:H[b3]?=some (.cells #[v3] zeu (0,0))) (hne:b2 ≠ b3) {K:World→Prop}
  (hK:∀ w',Ext [b2,b3] H w'.heap→w'.heap[b2]?=some (.cells #[zck x] qw (0,0))→w'.heap[b3]?=some (.cells #[.int .i64 code] zeu (0,0))→w'.heap.size=H.size→K w') :
  stC ⟨b2,0,none⟩ (.slice x.1 x.2.1 x.2.2) w fun w3=>stC ⟨b3,0,none⟩ (.int .i64 code) w3 fun w4=>K w4:=by
 refine zbp hw h2 (by simp) fun w3 hw3=>?_
 have h33:w3.heap[b3]?=some (.cells #[v3] zeu (0,0)):=by rw [hw3];exact zid h3 (Ne.symm hne)
 have h32:w3.heap[b2]?=some (.cells #[zck x] qw (0,0)):=by rw [hw3];exact qp h2
 refine zbp rfl h33 (by simp) fun w4 hw4=>?_
 refine hK w4 ?_ (by rw [hw4];exact zid h32 hne) (by rw [hw4];exact qp h33) (by rw [hw4,hw3];simp)
 rw [hw4,hw3]
 exact ((Ext.refl _ _).set_own (.inr (by simp))).set_own (.inr (by simp))
theorem qf1 {ps:Path} {x:List UInt8}:(ps++[x]).any (fun x=>decide (16 < x.length))=(ps.any (fun x=>decide (16 < x.length)) || decide (16 < x.length)):=by simp
set_option maxHeartbeats 8000000 in
theorem qo4 {w:World} {H:Heap} (L:List UInt8) (hw:w.heap=H) :
  qg P zow #[.string (strOf L)] w fun e w'=>∃ x,e=.returned (.tuple #[zck x,.int .i64 (zb1 L).2])∧Mine w'.heap H.size qc 1 x (strRow (zb1 L).1)∧Ext [] H w'.heap:=by
 refine z3n ?_
 unfold zop
 rw [qsl,zcE]
 refine jw hw fun w1 hw1=>?_
 refine jw hw1 fun w2 hw2=>?_
 have hsz:(H.push (.cells #[.slice none 0 0] qw)).size=H.size+1:=by simp
 have h2:w2.heap[H.size]?=some (.cells #[.slice none 0 0] qw (0,0)):=by rw [hw2];exact zet zo
 have h3:w2.heap[H.size+1]?=some (.cells #[.int .i64 0] zeu (0,0)):=by rw [hw2,← hsz];exact zo
 have hx2:Ext [] H w2.heap:=by rw [hw2];exact (Ext.push _).trans (Ext.push _)
 have hs2:w2.heap.size=H.size+2:=by rw [hw2];simp
 rw [hsz]
 clear hw1 hw2
 have fin:∀ {w w':World} {x:Option Addr × Nat × Nat} {code:Int},Ext [] H w.heap→Ext [H.size,H.size+1] w.heap w'.heap→x=(none,0,0)→zb1 L=([],code) →
   ∃ y,Ending.returned (.tuple #[zck x,.int .i64 code])=.returned (.tuple #[zck y,.int .i64 (zb1 L).2])∧Mine w'.heap H.size qc 1 y (strRow (zb1 L).1)∧Ext [] H w'.heap:=by
  intro w w' x code h1 h2 hx hp
  subst hx
  rw [hp]
  exact ⟨(none,0,0),rfl,.inl ⟨rfl,rfl⟩,h1.own h2 (by intro b hb hlt;simp at hb;omega)⟩
 refine zq (fun hbig=>?_) (fun hsm=>?_)
 ·refine z4y (x:=(none,0,0)) rfl h2 h3 (by omega) fun w4 hx4 h24 h34 _=>?_
  refine jg (s:=.slc) (t:=(none,0,0)) rfl h24 rfl ?_
  refine jg (s:=.int .i64) (t:=2) rfl h34 rfl ?_
  exact fin hx2 hx4 rfl (by unfold zb1;rw [if_pos (by simp only [jl] at hbig;omega)])
 have hL256:L.length≤256:=by simp only [jl] at hsm;omega
 have hhp:qg P zgy #[.string (strOf L),.string (ByteArray.mk #[47])] w2 fun e w'=>e=.returned (.bool (decide (L.head?=some 47)))∧w'=w2:=by
  refine zsp ?_
  unfold zgt
  have h1:qg P zcn #[.string (strOf L),.string (ByteArray.mk #[47])] w2 fun e w'=>e=.returned (.bool (decide (L.head?=some 47)))∧w'=w2:=by
   refine zhn ?_
   unfold zcr
   cases L with
   | nil=>exact jk rfl ⟨rfl,rfl⟩
   | cons c L =>
    refine vw (decide_eq_true (by show ((strOf (c :: L)).size:Int) ≥ 1;rw [jl];simp only [List.length_cons];omega)) ?_
    refine qx (s:=.str) _ (z0v (l:=0) (h:=1) zwa .no (.yes rfl) (by omega) (by simp)) ?_
    refine ⟨?_,rfl⟩
    congr 2
    rw [Bool.eq_iff_iff,zhz,decide_eq_true_iff]
    simp
  exact zbl (decide (L.head?=some 47)) h1 ⟨rfl,rfl⟩
 refine zbl (decide (L.head?=some 47)) hhp ?_
 by_cases hhd:L.head?=some 47
 rotate_left
 ·refine vw (by simp [hhd]) ?_
  refine z4y (x:=(none,0,0)) rfl h2 h3 (by omega) fun w4 hx4 h24 h34 _=>?_
  refine jg (s:=.slc) (t:=(none,0,0)) rfl h24 rfl ?_
  refine jg (s:=.int .i64) (t:=40) rfl h34 rfl ?_
  exact fin hx2 hx4 rfl (by unfold zb1;rw [if_neg (by omega),if_pos hhd])
 refine jk (by simp [hhd]) ?_
 refine jd (fun (s:Int) W=>∃ i:Nat,s=(i:Int)∧i≤L.length∧W=w2∧∀ b ∈ L.take i,(decide (b=47) || zd9 b)=true) (fun s _=>(L.length - s).toNat) ⟨0,rfl,Nat.zero_le _,rfl,by simp⟩ ?_
 rintro _ w2 ⟨i,rfl,hi,rfl,hpl⟩
 refine zq (fun hlt=>?_) (fun hge=>?_)
 ·have hil:i < L.length:=by simp only [jl] at hlt;omega
  have hnext:(decide (L[i]=47) || zd9 L[i])=true→∀ b ∈ L.take (i+1),(decide (b=47) || zd9 b)=true:=by
   intro h b hm
   rw [List.take_add_one,List.getElem?_eq_getElem hil] at hm
   rcases List.mem_append.1 hm with hm | hm
   ·exact hpl b hm
   ·simp only [Option.toList_some,List.mem_singleton] at hm;subst hm;exact h
  have hgo:∀ {K:Int→Prop},(decide (L[i]=47) || zd9 L[i])=true→(∀ k,k=((i+1:Nat):Int)→K k)→za7 .i64 (i:Int) 1 K:=fun _ hK=>xk ((i+1:Nat):Int) (by omega) (by omega) (by omega) (hK _ rfl)
  refine zab ?_
  refine zab ?_
  refine zos i rfl hil ?_
  refine zam (fun h47=>?_) (fun h47=>?_)
  ·refine zos i rfl hil ?_
   refine zbl (zd9 L[i]) (qjs _) ?_
   cases hb:zd9 L[i] with
   | false =>
    refine vw rfl ?_
    refine z4y (x:=(none,0,0)) rfl h2 h3 (by omega) fun w4 hx4 h24 h34 _=>?_
    refine jg (s:=.slc) (t:=(none,0,0)) rfl h24 rfl ?_
    refine jg (s:=.int .i64) (t:=40) rfl h34 rfl ?_
    refine fin hx2 hx4 rfl ?_
    have:zvt L=false:=by
     unfold zvt
     rw [List.all_eq_false]
     refine ⟨L[i],List.getElem_mem hil,?_⟩
     have:¬ L[i]=47:=fun e=>h47 (by rw [e];rfl)
     simp [this,hb]
    unfold zb1
    rw [if_neg (by omega),if_neg (by simp [hhd]),if_pos this]
   | true =>
    refine jk rfl ?_
    refine hgo (by simp [hb]) ?_
    rintro _ rfl
    exact ⟨⟨i+1,rfl,by omega,rfl,hnext (by simp [hb])⟩,by omega⟩
  ·have h47':L[i]=47:=UInt8.toNat_inj.1 (by have h:((L[i]).toNat:Int)=47:=h47;show (L[i]).toNat=47;omega)
   refine hgo (by simp [h47']) ?_
   rintro _ rfl
   exact ⟨⟨i+1,rfl,by omega,rfl,hnext (by simp [h47'])⟩,by omega⟩
 have hie:i=L.length:=by simp only [jl] at hge;omega
 subst hie
 rw [List.take_length] at hpl
 have hok:zvt L=true:=List.all_eq_true.2 hpl
 have hP:zb1 L=if (pieces L).any (fun x=>decide (16 < x.length)) then ([],41) else if 8 < (ze0 (pieces L)).length then ([],42) else (ze0 (pieces L),0):=by
  unfold zb1;rw [if_neg (by omega),if_neg (by simp [hhd]),if_neg (by simp [hok])]
 refine jw rfl fun w12 hw12=>?_
 have h12:Ext [] w2.heap w12.heap:=by rw [hw12];exact .push _
 have hb5:w12.heap[H.size+2]?=some (.cells #[.slice none 0 0] qw (0,0)):=by rw [hw12,← hs2];exact zo
 have hs12:w12.heap.size=H.size+3:=by rw [hw12];simp [hs2]
 rw [hs2]
 have hpieces:qg P zna #[.string (strOf L)] w12 fun e w'=>e=.returned (.func (.func zgf) #[] #[.pointer (some ⟨H.size+3,0,none⟩)])∧w'.heap=w12.heap.push (.cells #[.string (strOf L)] qc):=by
  refine zzo ?_
  unfold znl
  refine jw rfl fun w13 hw13=>?_
  exact qx (s:=.any) _ rfl ⟨by rw [hs12],hw13⟩
 refine zn hpieces ?_
 rintro e w13 ⟨rfl,hw13⟩
 refine ⟨_,rfl,?_⟩
 have h1213:Ext [] w12.heap w13.heap:=by rw [hw13];exact .push _
 have hb1:w13.heap[H.size+3]?=some (.cells #[.string (strOf L)] qc (0,0)):=by rw [hw13,← hs12];exact zo
 have hs13:w13.heap.size=H.size+4:=by rw [hw13];simp [hs12]
 have h213:=h12.trans h1213
 have hx13:=hx2.trans h213
 have hpl2:=pieces_len (L:=L)
 refine qj4 (α:=List UInt8) (shs:=[.str]) (tv:=fun x=>strOf x) (fp:=[H.size+3]) (A:=[H.size+3]) (qg0 rfl hb1 (by omega)) (fun _ h=>h) [H.size,H.size+1,H.size+2] ?_ (fun b hb=>by simp only [List.mem_singleton] at hb;omega)
  (fun pre W=>∃ x,Ext [] H W.heap∧W.heap[H.size]?=some (.cells #[.slice none 0 0] qw (0,0))∧W.heap[H.size+1]?=some (.cells #[.int .i64 0] zeu (0,0))∧W.heap[H.size+2]?=some (.cells #[zck x] qw (0,0))∧Mine W.heap (H.size+4) qc 1 x (strRow (ze0 pre))∧pre.any (fun x=>decide (16 < x.length))=false)
  (fun W=>Ext [] H W.heap∧W.heap[H.size]?=some (.cells #[.slice none 0 0] qw (0,0))∧W.heap[H.size+1]?=some (.cells #[.int .i64 41] zeu (0,0))∧(pieces L).any (fun x=>decide (16 < x.length))=true)
  (fun _ _=>False) ?_ ?_ (fun _ _ _ h _=>h.elim) ?_ ?_ ?_ ?_ ?_ (fun _ _ h=>h.elim)
 ·intro b hb
  simp only [List.mem_cons,List.not_mem_nil,or_false] at hb ⊢
  omega
 ·rintro pre W W' ⟨x,h1,h2,h3,h4,h5,h6⟩ hB
  exact ⟨x,hB.ext (by omega) h1,hB.cells h2,hB.cells h3,hB.cells h4,hB.mine h5,h6⟩
 ·rintro W W' ⟨h1,h2,h3,h4⟩ hB
  exact ⟨hB.ext (by omega) h1,hB.cells h2,hB.cells h3,h4⟩
 ·rintro pre W W' ⟨x,h1,h2,h3,h4,h5,h6⟩ hx
  have hn:∀ b,b ≠ H.size+3→b ∉ [H.size+3]:=fun b h=>by simpa using h
  exact ⟨x,h1.own hx (by intro b hb hlt;simp at hb;omega),hx.get h2 (hn _ (by omega)),hx.get h3 (hn _ (by omega)),hx.get h4 (hn _ (by omega)),h5.ext hx (fun b hb=>hn b (by have:=jc h5 b hb;omega)),h6⟩
 ·exact ⟨(none,0,0),hx13,h213.get h2 (by simp),h213.get h3 (by simp),h1213.get hb5 (by simp),.inl ⟨rfl,rfl⟩,rfl⟩
 ·rintro pre y W ⟨rest,hrest⟩ ⟨x,k1,k2,k3,k4,k5,k6⟩ hsz beg kc kr kx hbeg
  have hprel:pre.length+1≤256:=by have:=congrArg List.length hrest;simp at this;omega
  have hwl:(ze0 pre).length≤pre.length:=by have:=z7t (ps:=pre) (acc:=[]);simpa [ze0] using this
  refine hbeg W _ (.refl _ _) fun W2 hB2 hs2' hkc hkr _=>?_
  have k12:Ext [] H W2.heap:=hB2.ext (by omega) k1
  have k22:=hB2.cells k2
  have k32:=hB2.cells k3
  have k42:=hB2.cells k4
  have k52:=hB2.mine k5
  have hxl:x.2.1=(ze0 pre).length:=by have:=k52.len;simp at this;omega
  have hW2:H.size+4≤W2.heap.size:=by omega
  have goOn:∀ {W3:World} {x':Option Addr × Nat × Nat},Ext ((H.size+2) :: jf x) W2.heap W3.heap→W3.heap[H.size+2]?=some (.cells #[zck x'] qw (0,0))→Mine W3.heap (H.size+4) qc 1 x' (strRow (ze0 (pre++[y])))→¬ 16 < y.length→kc W3:=by
   intro W3 x' hx h4 h5 hy
   have hown:=jc k52
   have hn:∀ b,b < H.size+2→b ∉ (H.size+2) :: jf x:=fun b hb h=>by
    rcases List.mem_cons.1 h with h | h
    ·omega
    ·have:=hown b h;omega
   refine hkc W3 (.of hx (fun b hb=>?_) (by intro b hb;simp at hb;omega)) ⟨x',k12.own hx ?_,hx.get k22 (hn _ (by omega)),hx.get k32 (hn _ (by omega)),h4,h5,by rw [qf1,k6];simp;omega⟩
   ·rcases List.mem_cons.1 hb with rfl | hb
    ·left;simp
    ·right
     refine ⟨by have:=hown b hb;omega,?_⟩
     rcases k52 with ⟨rfl,_⟩ | ⟨b2,c2,hx2',_,hb2,_⟩
     ·simp [jf] at hb
     ·simp only [jf,hx2',List.mem_singleton] at hb;subst hb;exact ⟨_,_,_,hb2⟩
   ·intro b hb hlt
    exact absurd hb (hn b (by omega))
  refine zab ?_
  refine zab ?_
  refine zq (fun hlong=>?_) (fun hshort=>?_)
  ·have hlong:16 < y.length:=by have h:=hlong;simp only [jl] at h;omega
   refine z4y (x:=(none,0,0)) rfl k22 k32 (by omega) fun w4 hx4 h24 h34 hs4=>?_
   refine hkr w4 (.of hx4 (fun b hb=>.inl (by simp at hb ⊢;omega)) (by intro b hb;simp at hb;omega)) ⟨k12.own hx4 (by intro b hb hlt;simp at hb;omega),h24,h34,?_⟩
   rw [List.any_eq_true]
   exact ⟨y,by rw [hrest];simp,by simpa using hlong⟩
  have hshort:¬ 16 < y.length:=by have h:=hshort;simp only [jl] at h;omega
  have hnone:ze0 (pre++[y])=ze0 pre→kc W2:=fun h=>goOn (.refl _ _) k42 (by rw [h];exact k52) hshort
  refine zdq (p:=y=[]) zhz (fun h=>hnone (by rw [zhw,zb5,if_pos (.inl h)])) (fun hy0=>?_)
  refine zdq (p:=y=[46]) zhz (fun h=>hnone (by rw [zhw,zb5,if_pos (.inr h)])) (fun hy1=>?_)
  refine zdq (p:=y=[46,46]) zhz (fun h=>?_) (fun hy2=>?_)
  ·refine jg (s:=.slc) (t:=x) rfl k42 rfl ?_
   refine jg (s:=.slc) (t:=x) rfl k42 rfl ?_
   refine zbo ((x.2.1:Int) - 1) rfl (by omega) (by omega) ?_
   refine qx (s:=.int .i64) ((x.2.1 - 1:Nat):Int) ?_ ?_
   ·rw [run_max_int2]
    congr 2
    show (if (0:Int) > (x.2.1:Int) - 1 then 0 else (x.2.1:Int) - 1)=((x.2.1 - 1:Nat):Int)
    split <;> omega
   have hxc:x.2.1≤x.2.2:=by
    rcases k52 with ⟨rfl,_⟩ | ⟨_,_,_,_,_,_,_,h,_⟩
    ·exact Nat.le_refl _
    ·exact h
   refine qx (s:=.slc) (if x.2.2=0 then x.1 else x.1.map (·.add (0 * 1)),(x.2.1 - 1) - 0,x.2.2 - 0) (zaw zyn qir .no (.yes rfl) (Nat.zero_le _) (by omega)) ?_
   refine zbp rfl k42 (by simp) fun W3 hW3=>?_
   have hx3:Ext [H.size+2] W2.heap W3.heap:=by rw [hW3];exact Ext.set _ (by simp)
   refine goOn (x':=(if x.2.2=0 then x.1 else x.1.map (·.add (0 * 1)),(x.2.1 - 1) - 0,x.2.2 - 0)) (hx3.mono (by simp)) (by rw [hW3];exact qp k42) ?_ hshort
   have hcut:=(Mine.cut k52 (k:=x.2.1 - 1) (by omega)).ext hx3 (fun b hb=>by rw [qmb] at hb;have:=jc k52 b hb;simp only [List.mem_singleton];omega)
   rw [zum] at hcut
   have hw2:ze0 (pre++[y])=(ze0 pre).take (x.2.1 - 1):=by rw [zhw,zb5,if_neg (by simp [hy0,hy1]),if_pos h,List.dropLast_eq_take,← hxl]
   rw [hw2]
   exact hcut
  ·refine jg (s:=.slc) (t:=x) rfl k42 rfl ?_
   refine zae (s:=.slc) (some ⟨W2.heap.size,0,none⟩,1,1) _ (zd7 qqw zyn (v:=.string (strOf y)) rfl (by omega) (by omega)) ?_
   have hxp:Ext [] W2.heap (W2.heap.push (.cells (Value.string (strOf y)).cells qc)):=.push _
   refine zcf (n:=1) (us:=[.string (strOf y)]) (H:=W2.heap.push (.cells (Value.string (strOf y)).cells qc)) qqw (by omega) zyn (za4 zyn) rfl (k52.ext hxp (by simp)) (by simp;omega)
    (Src.slc rfl (.inr ⟨W2.heap.size,0,_,_,_,rfl,zo,by simp [Value.cells],by simp [Value.cells]⟩) rfl) (by intro v hv;simp only [List.mem_singleton] at hv;subst hv;rfl) (by omega) ?_
   intro x' W4 hm4 hl4 hx4 _
   have hb4:W4.heap[H.size+2]?=some (.cells #[zck x] qw (0,0)):=hx4.get (hxp.get k42 (by simp)) (fun h=>by have:=jc k52 _ h;omega)
   refine zbp rfl hb4 (by simp) fun W5 hW5=>?_
   have hx5:Ext [H.size+2] W4.heap W5.heap:=by rw [hW5];exact Ext.set _ (by simp)
   refine goOn (x':=x') (((hxp.mono (by simp)).trans (hx4.mono (fun b hb=>List.mem_cons_of_mem _ hb))).trans (hx5.mono (by simp))) (by rw [hW5];exact qp hb4) ?_ hshort
   rw [zhw,zb5,if_neg (by simp [hy0,hy1]),if_neg hy2,← zv5]
   exact hm4.ext hx5 (fun b hb=>by have:=jc hm4 b hb;simp only [List.mem_singleton];omega)
 ·rintro xs W rfl ⟨x,k1,k2,k3,k4,k5,k6⟩ hD
  rw [if_neg (by simp [k6])] at hP
  have hxl:x.2.1=(ze0 (pieces L)).length:=by have:=k5.len;simp at this;omega
  refine jg (s:=.slc) (t:=x) rfl k4 rfl ?_
  have hne2:∀ {W':World} {o:Obj} {b:Nat},b ≠ w13.heap.size→W'.heap[b]?=some o→(W'.heap.setIfInBounds w13.heap.size (.deferred none))[b]?=some o:=fun h ho=>zid ho h
  refine zq (fun hdeep=>?_) (fun hflat=>?_)
  ·refine z4y (x:=(none,0,0)) rfl k2 k3 (by omega) fun w4 hx4 h24 h34 hs4=>?_
   refine ⟨hx4.get hD (by simp;omega),fun w5 hw5=>?_⟩
   have hh5:w5.heap=w4.heap.setIfInBounds w13.heap.size (.deferred none):=by rw [hw5,zce]
   refine jg (s:=.slc) (t:=(none,0,0)) rfl (by rw [hh5];exact hne2 (by omega) h24) rfl ?_
   refine jg (s:=.int .i64) (t:=42) rfl (by rw [hh5];exact hne2 (by omega) h34) rfl ?_
   rw [if_pos (by omega)] at hP
   rw [hP]
   refine ⟨(none,0,0),rfl,.inl ⟨rfl,rfl⟩,?_⟩
   rw [hh5]
   exact (k1.own hx4 (by intro b hb hlt;simp at hb;omega)).set_own (.inl (by omega))
  ·refine jg (s:=.slc) (t:=x) rfl k4 rfl ?_
   refine z4y (x:=x) rfl k2 k3 (by omega) fun w4 hx4 h24 h34 hs4=>?_
   have hD4:=hx4.get hD (by simp;omega)
   refine ⟨hD4,fun w5 hw5=>?_⟩
   have hh5:w5.heap=w4.heap.setIfInBounds w13.heap.size (.deferred none):=by rw [hw5,zce]
   refine jg (s:=.slc) (t:=x) rfl (by rw [hh5];exact hne2 (by omega) h24) rfl ?_
   refine jg (s:=.int .i64) (t:=0) rfl (by rw [hh5];exact hne2 (by omega) h34) rfl ?_
   rw [if_neg (by omega)] at hP
   rw [hP]
   refine ⟨x,rfl,?_,?_⟩
   ·have hm4:=k5.ext hx4 (fun b hb=>by have:=jc k5 b hb;simp;omega)
    have hB:Beside w13.heap.size w4 w5:=by rw [hw5];exact .put (Nat.le_refl _) hD4 (by intro _ _ _ h;cases h)
    exact (hB.mine hm4).mono (by omega)
   ·rw [hh5]
    exact (k1.own hx4 (by intro b hb hlt;simp at hb;omega)).set_own (.inl (by omega))
 ·rintro W ⟨k1,k2,k3,k4⟩ hD
  refine ⟨hD,fun w5 hw5=>?_⟩
  have hh5:w5.heap=W.heap.setIfInBounds w13.heap.size (.deferred none):=by rw [hw5,zce]
  refine jg (s:=.slc) (t:=(none,0,0)) rfl (by rw [hh5];exact zid k2 (by omega)) rfl ?_
  refine jg (s:=.int .i64) (t:=41) rfl (by rw [hh5];exact zid k3 (by omega)) rfl ?_
  rw [if_pos k4] at hP
  rw [hP]
  refine ⟨(none,0,0),rfl,.inl ⟨rfl,rfl⟩,?_⟩
  rw [hh5]
  exact k1.set_own (.inl (by omega))
def z3g:List UInt8→List (List UInt8)
 | []=>[[]]
 | c :: L=>if c=47 then [] :: z3g L else match z3g L with | []=>[[c]] | p :: ps=>(c :: p) :: ps
theorem z8p:∀ {p r:List UInt8},(47:UInt8) ∉ p→z3g (p++47 :: r)=p :: z3g r
 | [],r,_=>by simp [z3g]
 | c :: p,r,h=>by
  have hc:c ≠ 47:=fun e=>h (by simp [e])
  rw [List.cons_append,z3g,if_neg hc,z8p (p:=p) (r:=r) (fun hm=>h (by simp [hm]))]
theorem z07:∀ {p:List UInt8},(47:UInt8) ∉ p→z3g p=[p]
 | [],_=>rfl
 | c :: p,h=>by
  have hc:c ≠ 47:=fun e=>h (by simp [e])
  rw [z3g,if_neg hc,z07 (p:=p) (fun hm=>h (by simp [hm]))]
theorem qeu (n:Nat):∀ {L:List UInt8},L.length≤n→z3g L=pieces L ∨ z3g L=pieces L++[[]]:=by
 induction n with
 | zero =>
  intro L h
  have h0:L=[]:=List.eq_nil_of_length_eq_zero (by omega)
  subst h0;right;rfl
 | succ n ih =>
  intro L hl
  rcases qjq L with h | ⟨p,r,rfl,h⟩
  ·by_cases he:L=[]
   ·subst he;right;rfl
   ·left;rw [z07 h,zpg h he]
  ·rw [z8p h,zkq h]
   simp only [List.length_append,List.length_cons] at hl
   rcases ih (L:=r) (by omega) with h | h
   ·left;rw [h]
   ·right;rw [h];rfl
theorem qje {T:List UInt8}:ze0 (z3g T)=ze0 (pieces (47 :: T))∧(z3g T).any (fun x=>decide (16 < x.length))=(pieces (47 :: T)).any (fun x=>decide (16 < x.length)):=by
 have h0:pieces (47 :: T)=[] :: pieces T:=zkq (p:=[]) (by simp)
 have hw:ze0 ([] :: pieces T)=ze0 (pieces T):=by simp [ze0,zb5]
 rw [h0,hw]
 rcases qeu T.length (L:=T) (Nat.le_refl _) with h | h
 ·rw [h];simp
 ·rw [h,zhw];simp [zb5]
def rem (L:List UInt8) (f:Nat):Path:=if f≤L.length then z3g (L.drop f) else []
theorem qm4 {L:List UInt8} {f i:Nat} (hf:f≤i) (hi:i≤L.length) (hn:(47:UInt8) ∉ (L.take i).drop f) (h47:∀ h:i < L.length,L[i]=47):rem L f=(L.take i).drop f :: rem L (i+1):=by
 unfold rem
 rw [if_pos (by omega)]
 by_cases he:i=L.length
 ·subst he
  rw [if_neg (by omega),List.take_length] at *
  rw [z07 hn]
 ·have hil:i < L.length:=by omega
  rw [if_pos (by omega)]
  have hs:L.drop f=(L.take i).drop f++47 :: L.drop (i+1):=by
   have h1:L=L.take i++L[i] :: L.drop (i+1):=by rw [← List.drop_eq_getElem_cons hil,List.take_append_drop]
   conv=>lhs;rw [h1]
   rw [List.drop_append_of_le_length (by simp;omega),h47 hil]
  rw [hs,z8p hn]
theorem qrf {w:World} {H:Heap} (hw:w.heap=H) {K:(Option Addr × Nat × Nat)→World→Prop} (hK:∀ w',Ext [] H w'.heap→Mine w'.heap H.size qc 1 (some ⟨H.size,0,none⟩,0,0) []→K (some ⟨H.size,0,none⟩,0,0) w'):zaf P (Instr.buildSlice qw 0 #[]) .slc w K:=by
 refine zae (s:=.slc) (some ⟨H.size,0,none⟩,0,0) { w with heap:=H.push (.cells #[] qc) } (by rw [← hw];kernel_rfl) ?_
 exact hK _ (.push _) (.inr ⟨H.size,#[],rfl,Nat.le_refl _,zo,rfl,rfl,Nat.le_refl _,rfl⟩)
theorem qo2 {w:World} {H:Heap} {B:Nat} {x:Option Addr × Nat × Nat} {a:Option Addr} {l c:Nat} {xs ys:Path} (hw:w.heap=H) (hx:Mine H B qc 1 x (strRow xs)) (hB:B≤H.size) (hL:Cells H a (strRow ys)) (hl:l=ys.length) (hlen:xs.length+ys.length≤1099511627776) {K:(Option Addr × Nat × Nat)→World→Prop}
  (hK:∀ x' w',Mine w'.heap B qc 1 x' (strRow (xs++ys))→Ext (jf x) H w'.heap→K x' w'):zaf P (Builtin.append_ #[qw,qw] qw #[.slice x.1 x.2.1 x.2.2,.slice a l c]) .slc w K:=by
 have hxl:x.2.1=xs.length:=by have:=hx.len;simp at this;omega
 refine zcf qqw (by omega) zyn (za4 zyn) hw hx hB (Src.slc hw hL (by simp [hl])) qgp (by omega) ?_
 intro x' w' hm hl' hx' hs
 refine hK x' w' ?_ hx'
 rw [← zv5];exact hm
theorem qmn {w:World} {H:Heap} (L:List UInt8) (hw:w.heap=H) {K:(Option Addr × Nat × Nat)→World→Prop} (hK:∀ a w',Ext [] H w'.heap→Cells w'.heap a (strRow [L])→K (a,1,1) w'):zaf P (Instr.buildSlice qw 1 #[(0,.string (strOf L))]) .slc w K:=by
 refine zae (s:=.slc) (some ⟨w.heap.size,0,none⟩,1,1) _ (zd7 qqw zyn (v:=.string (strOf L)) rfl (by omega) (by omega)) ?_
 exact hK _ _ (by rw [← hw];exact .push _) (.inr ⟨w.heap.size,0,_,_,_,rfl,zo,by simp [Value.cells,strRow],by simp [Value.cells,strRow]⟩)
set_option maxHeartbeats 8000000 in
theorem qga {w:World} {H:Heap} (L:List UInt8) (hw:w.heap=H) :
  qg P zog #[.string (strOf L)] w fun e w'=>∃ x,e=.returned (.tuple #[zck x,.int .i64 (zb1 L).2])∧Mine w'.heap H.size qc 1 x (strRow (zb1 L).1)∧Ext [] H w'.heap:=by
 refine z9l ?_
 unfold zto
 have fin:∀ {w:World} {code:Int},Ext [] H w.heap→zb1 L=([],code) →
   ∃ y,Ending.returned (.tuple #[.slice none 0 0,.int .i64 code])=.returned (.tuple #[zck y,.int .i64 (zb1 L).2])∧Mine w.heap H.size qc 1 y (strRow (zb1 L).1)∧Ext [] H w.heap:=by
  intro w code h1 hp
  rw [hp]
  exact ⟨(none,0,0),rfl,.inl ⟨rfl,rfl⟩,h1⟩
 have hx0:Ext [] H w.heap:=by rw [hw];exact .refl _ _
 refine zq (fun hbig=>fin hx0 (by unfold zb1;rw [if_pos (by simp only [jl] at hbig;omega)])) (fun hsm=>?_)
 have hL256:L.length≤256:=by simp only [jl] at hsm;omega
 refine zab ?_
 cases L with
 | nil=>exact vw rfl (fin hx0 rfl)
 | cons c0 T =>
 refine jk (by simp;omega) ?_
 refine zos (L:=c0 :: T) 0 rfl (by simp) ?_
 refine zam (fun h=>fin hx0 ?_) (fun h=>?_)
 ·have:¬ c0=47:=fun e=>h (by simp [e])
  unfold zb1;rw [if_neg (by omega),if_pos (by simp [this])]
 have hc0:c0=47:=UInt8.toNat_inj.1 (by have h:(c0.toNat:Int)=47:=h;show c0.toNat=47;omega)
 subst hc0
 have hseg:=qje (T:=T)
 clear h
 generalize hLL:(47:UInt8) :: T=L at *
 have hhd:L.head?=some 47:=by rw [← hLL];rfl
 have hpos:1≤L.length:=by rw [← hLL];simp
 have hdrop:L.drop 1=T:=by rw [← hLL];rfl
 refine jd (fun (s:Int) W=>∃ i:Nat,s=(i:Int)∧i≤L.length∧W=w∧∀ b ∈ L.take i,(decide (b=47) || zd9 b)=true) (fun s _=>(L.length - s).toNat) ⟨0,rfl,Nat.zero_le _,rfl,by simp⟩ ?_
 rintro _ w ⟨i,rfl,hi,rfl,hpl⟩
 refine zq (fun hlt=>?_) (fun hge=>?_)
 ·have hil:i < L.length:=by simp only [jl] at hlt;omega
  have hnext:(decide (L[i]=47) || zd9 L[i])=true→∀ b ∈ L.take (i+1),(decide (b=47) || zd9 b)=true:=by
   intro h b hm
   rw [List.take_add_one,List.getElem?_eq_getElem hil] at hm
   rcases List.mem_append.1 hm with hm | hm
   ·exact hpl b hm
   ·simp only [Option.toList_some,List.mem_singleton] at hm;subst hm;exact h
  have hgo:∀ {K:Int→Prop},(decide (L[i]=47) || zd9 L[i])=true→(∀ k,k=((i+1:Nat):Int)→K k)→za7 .i64 (i:Int) 1 K:=fun _ hK=>xk ((i+1:Nat):Int) (by omega) (by omega) (by omega) (hK _ rfl)
  refine zab ?_
  refine zab ?_
  refine zos i rfl hil ?_
  refine zam (fun h47=>?_) (fun h47=>?_)
  ·refine zos i rfl hil ?_
   refine zbl (zd9 L[i]) (qgd _) ?_
   cases hb:zd9 L[i] with
   | false =>
    refine vw rfl ?_
    refine fin hx0 ?_
    have:zvt L=false:=by
     unfold zvt
     rw [List.all_eq_false]
     refine ⟨L[i],List.getElem_mem hil,?_⟩
     have:¬ L[i]=47:=fun e=>h47 (by rw [e];rfl)
     simp [this,hb]
    unfold zb1
    rw [if_neg (by omega),if_neg (by simp [hhd]),if_pos this]
   | true =>
    refine jk rfl ?_
    refine hgo (by simp [hb]) ?_
    rintro _ rfl
    exact ⟨⟨i+1,rfl,by omega,rfl,hnext (by simp [hb])⟩,by omega⟩
  ·have h47':L[i]=47:=UInt8.toNat_inj.1 (by have h:((L[i]).toNat:Int)=47:=h47;show (L[i]).toNat=47;omega)
   refine hgo (by simp [h47']) ?_
   rintro _ rfl
   exact ⟨⟨i+1,rfl,by omega,rfl,hnext (by simp [h47'])⟩,by omega⟩
 have hie:i=L.length:=by simp only [jl] at hge;omega
 subst hie
 rw [List.take_length] at hpl
 have hok:zvt L=true:=List.all_eq_true.2 hpl
 have hP:zb1 L=if (z3g T).any (fun x=>decide (16 < x.length)) then ([],41) else if 8 < (ze0 (z3g T)).length then ([],42) else (ze0 (z3g T),0):=by
  unfold zb1;rw [if_neg (by omega),if_neg (by simp [hhd]),if_neg (by simp [hok]),hseg.1,hseg.2]
 refine jd (fun (s:(Option Addr × Nat × Nat) × Int × Int) W=>∃ (x:Option Addr × Nat × Nat) (f i:Nat) (done:Path),s=(x,(f:Int),(i:Int))∧1≤f∧f≤i∧i≤L.length+1∧(i≤L.length ∨ f=i)∧z3g T=done++rem L f∧(47:UInt8) ∉ (L.take i).drop f ∧
   Ext [] H W.heap∧Mine W.heap H.size qc 1 x (strRow (ze0 done))∧done.any (fun x=>decide (16 < x.length))=false∧done.length≤f) (fun s _=>(L.length+1 - s.2.2).toNat)
  ⟨(none,0,0),1,1,[],rfl,by omega,by omega,by omega,.inl hpos,by rw [rem,if_pos hpos,hdrop];rfl,by rw [List.drop_eq_nil_of_le (by simp;omega)];simp,hx0,.inl ⟨rfl,rfl⟩,rfl,by simp⟩ ?_
 rintro _ W ⟨x,f,i,done,rfl,hf1,hfi,hi,hor,hsg,hno,hxW,hmW,hany,hdl⟩
 have hwl:(ze0 done).length≤done.length:=by have:=z7t (ps:=done) (acc:=[]);simpa [ze0] using this
 have hxl:x.2.1=(ze0 done).length:=by have:=hmW.len;simp at this;omega
 have hHW:=hxW.1
 refine zq (fun hle=>?_) (fun hgt=>?_)
 ·have hil:i≤L.length:=by simp only [jl] at hle;omega
  refine joinP_of (fun (s:(Option Addr × Nat × Nat) × Int) W'=>∃ (x':Option Addr × Nat × Nat) (f':Nat) (done':Path),s=(x',(f':Int))∧1≤f'∧f'≤i+1∧(i+1≤L.length ∨ f'=i+1)∧z3g T=done'++rem L f'∧(47:UInt8) ∉ (L.take (i+1)).drop f' ∧
   Ext [] H W'.heap∧Mine W'.heap H.size qc 1 x' (strRow (ze0 done'))∧done'.any (fun x=>decide (16 < x.length))=false∧done'.length≤f') ?_ ?_
  rotate_left
  ·rintro _ W' ⟨x',f',done',rfl,h1,h2,h3,h4,h5,h6,h7,h8,h9⟩
   refine xk ((i+1:Nat):Int) (by simp only;omega) (by omega) (by omega) ?_
   exact ⟨⟨x',f',i+1,done',rfl,h1,h2,by omega,h3,h4,h5,h6,h7,h8,h9⟩,by simp only;omega⟩
  refine joinP_of (fun _ W'=>W'=W∧∀ h:i < L.length,L[i]=47) ?_ ?_
  ·refine zq (fun hlt=>?_) (fun hge=>⟨rfl,fun h=>absurd hge (by simp only [jl];omega)⟩)
   have hil2:i < L.length:=by simp only [jl] at hlt;omega
   refine zos i rfl hil2 ?_
   refine zam (fun h47=>?_) (fun h47=>?_)
   ·refine ⟨x,f,done,rfl,hf1,by omega,.inl (by omega),hsg,?_,hxW,hmW,hany,hdl⟩
    rw [List.take_add_one,List.getElem?_eq_getElem hil2,List.drop_append_of_le_length (by simp;omega)]
    intro hm
    rcases List.mem_append.1 hm with hm | hm
    ·exact hno hm
    ·simp only [Option.toList_some,List.mem_singleton] at hm
     exact h47 (by rw [← hm];rfl)
   ·exact ⟨rfl,fun _=>UInt8.toNat_inj.1 (by have h:((L[i]).toNat:Int)=47:=h47;show (L[i]).toNat=47;omega)⟩
  rintro _ W' ⟨rfl,h47⟩
  have hstep:=qm4 hfi hil hno h47
  generalize hp:(L.take i).drop f=p at *
  refine qx (s:=.str) (strOf p) ((z0v (l:=f) (h:=i) zwa (.yes rfl) (.yes rfl) hfi hil).trans (by rw [hp];rfl)) ?_
  refine xk ((i+1:Nat):Int) (by simp only;omega) (by omega) (by omega) ?_
  refine zq (fun hlong=>?_) (fun hshort=>?_)
  ·have hlong:16 < p.length:=by have h:=hlong;simp only [jl] at h;omega
   refine fin hxW ?_
   rw [hP,if_pos]
   rw [hsg,hstep,List.any_eq_true]
   exact ⟨p,by simp,by simpa using hlong⟩
  have hshort:¬ 16 < p.length:=by have h:=hshort;simp only [jl] at h;omega
  have endI:∀ {W2:World} {x2:Option Addr × Nat × Nat},Ext [] H W2.heap→Mine W2.heap H.size qc 1 x2 (strRow (ze0 (done++[p])))→(∃ (x':Option Addr × Nat × Nat) (f':Nat) (done':Path),((x2.1,x2.2.1,x2.2.2),((i+1:Nat):Int))=(x',(f':Int))∧1≤f'∧f'≤i+1∧(i+1≤L.length ∨ f'=i+1)∧z3g T=done'++rem L f'∧(47:UInt8) ∉ (L.take (i+1)).drop f' ∧
    Ext [] H W2.heap∧Mine W2.heap H.size qc 1 x' (strRow (ze0 done'))∧done'.any (fun x=>decide (16 < x.length))=false∧done'.length≤f'):=by
   intro W2 x2 h1 h2
   refine ⟨x2,i+1,done++[p],rfl,by omega,by omega,.inr rfl,by rw [hsg,hstep];simp,by rw [List.drop_eq_nil_of_le (by simp;omega)];simp,h1,h2,by rw [qf1,hany];simp;omega,by simp;omega⟩
  refine joinP_of (fun (x':Option Addr × Nat × Nat) W2=>Ext [] H W2.heap∧Mine W2.heap H.size qc 1 x' (strRow (if p=[46,46] then (ze0 done).dropLast else ze0 done))) ?_ ?_
  ·refine zdq (p:=p=[46,46]) zhz (fun h=>?_) (fun h=>?_)
   ·rw [if_pos h]
    refine zq (fun hpos=>?_) (fun hneg=>?_)
    ·simp only at hpos
     refine qrf rfl fun W2 hx2 hm2=>?_
     have hxc:x.2.1≤x.2.2:=by
      rcases hmW with ⟨rfl,_⟩ | ⟨_,_,_,_,_,_,_,h,_⟩
      ·exact Nat.le_refl _
      ·exact h
     refine zbo ((x.2.1 - 1:Nat):Int) (by simp only;omega) (by omega) (by omega) ?_
     refine qx (s:=.slc) (if x.2.2=0 then x.1 else x.1.map (·.add (0 * 1)),(x.2.1 - 1) - 0,x.2.2 - 0) (zaw zyn qir .no (.yes rfl) (Nat.zero_le _) (show x.2.1 - 1≤x.2.2 by omega)) ?_
     have hcut:=(Mine.cut (hmW.ext hx2 (by simp)) (k:=x.2.1 - 1) (by omega)).cells
     rw [zum] at hcut
     refine qo2 (xs:=[]) rfl hm2 hx2.1 hcut (by simp;omega) (by simp;omega) ?_
     intro x3 W3 hm3 hx3
     refine ⟨(hxW.trans hx2).own hx3 (by intro b hb hlt;simp [jf] at hb;omega),?_⟩
     rw [List.dropLast_eq_take,← hxl]
     exact hm3.mono hHW
    ·simp only at hneg
     have:ze0 done=[]:=List.eq_nil_of_length_eq_zero (by omega)
     refine ⟨hxW,?_⟩
     rw [this] at hmW ⊢
     exact hmW
   ·rw [if_neg h];exact ⟨hxW,hmW⟩
  rintro x' W2 ⟨hx2,hm2⟩
  have same:ze0 (done++[p])=(if p=[46,46] then (ze0 done).dropLast else ze0 done)→(∃ (x'':Option Addr × Nat × Nat) (f':Nat) (done':Path),((x'.1,x'.2.1,x'.2.2),((i+1:Nat):Int))=(x'',(f':Int))∧1≤f'∧f'≤i+1∧(i+1≤L.length ∨ f'=i+1)∧z3g T=done'++rem L f'∧(47:UInt8) ∉ (L.take (i+1)).drop f' ∧
    Ext [] H W2.heap∧Mine W2.heap H.size qc 1 x'' (strRow (ze0 done'))∧done'.any (fun x=>decide (16 < x.length))=false∧done'.length≤f'):=fun h=>endI hx2 (by rw [h];exact hm2)
  have n1:([]:List UInt8) ≠ [46,46]:=by simp
  have n2:([46]:List UInt8) ≠ [46,46]:=by simp
  refine zdq (p:=p ≠ []) (by rw [Bool.not_eq_true',← Bool.not_eq_true,zhz]) (fun hp0=>?_) (fun hp0=>?_)
  ·refine zdq (p:=p ≠ [46]) (by rw [Bool.not_eq_true',← Bool.not_eq_true,zhz]) (fun hp1=>?_) (fun hp1=>?_)
   ·refine zdq (p:=p ≠ [46,46]) (by rw [Bool.not_eq_true',← Bool.not_eq_true,zhz]) (fun hp2=>?_) (fun hp2=>?_)
    ·rw [if_neg hp2] at hm2
     refine qmn p rfl fun a W3 hx3 hC3=>?_
     refine qo2 rfl (hm2.ext hx3 (by simp)) (by have:=hx2.1;have:=hx3.1;omega) hC3 rfl (by simp;omega) ?_
     intro x4 W4 hm4 hx4
     refine endI ((hx2.trans hx3).own hx4 (by intro b hb hlt;have:=jc hm2 b hb;omega)) ?_
     rw [zhw,zb5,if_neg (by simp [hp0,hp1]),if_neg hp2]
     exact hm4
    ·have hp2:p=[46,46]:=Classical.not_not.1 hp2
     exact same (by rw [zhw,zb5,if_neg (by simp [hp0,hp1]),if_pos hp2,if_pos hp2])
   ·have hp1:p=[46]:=Classical.not_not.1 hp1
    exact same (by rw [zhw,zb5,if_pos (.inr hp1),if_neg (by rw [hp1];exact n2)])
  ·have hp0:p=[]:=Classical.not_not.1 hp0
   exact same (by rw [zhw,zb5,if_pos (.inl hp0),if_neg (by rw [hp0];exact n1)])
 ·have hie:i=L.length+1:=by simp only [jl] at hgt;omega
  have hfe:f=L.length+1:=by rcases hor with h | h <;> omega
  have hdone:z3g T=done:=by rw [hsg,rem,if_neg (by omega),List.append_nil]
  rw [hdone,if_neg (by simp [hany])] at hP
  refine zq (fun hdeep=>?_) (fun hflat=>?_)
  ·refine fin hxW ?_
   rw [hP,if_pos (by simp only at hdeep;omega)]
  ·rw [if_neg (by simp only at hflat;omega)] at hP
   rw [hP]
   exact ⟨x,rfl,hmW,hxW⟩
theorem z8e {w:World} {H:Heap} (L:List UInt8) (hw:w.heap=H) :
  qg P zk8 #[.string (strOf L)] w fun e w'=>∃ x,e=.returned (zck x)∧Mine w'.heap H.size qc 1 x (strRow (zb1 L).1)∧Ext [] H w'.heap:=by
 refine qcd ?_
 unfold ztr
 refine zn (qga L hw) ?_
 rintro e w' ⟨x,rfl,h⟩
 exact ⟨(x,_),rfl,x,rfl,h⟩
open Go.Sort
theorem zpk:∀ {p q:Path},zf9 p q=0 ↔ p=q
 | [],[]=>by simp [zf9]
 | [],_ :: _=>by simp [zf9]
 | _ :: _,[]=>by simp [zf9]
 | x :: p,y :: q=>by
  simp only [zf9]
  by_cases h:Lib.compareBytes x y=0
  ·rw [if_neg (fun e=>e h),zpk,zf7.1 h];simp
  ·rw [if_pos h]
   have:x ≠ y:=fun e=>h (zf7.2 e)
   simp [h,this]
theorem zoi:∀ {p q:Path},zf9 p q=- zf9 q p
 | [],[]=>by simp [zf9]
 | [],_ :: _=>by simp [zf9]
 | _ :: _,[]=>by simp [zf9]
 | x :: p,y :: q=>by
  simp only [zf9]
  have hn:=zvl (a:=x) (b:=y)
  by_cases h:Lib.compareBytes x y=0
  ·rw [if_neg (fun e=>e h),if_neg (fun e=>e (by omega)),zoi]
  ·rw [if_pos h,if_pos (by omega),hn]
theorem zwp:∀ {p q:Path},zf9 p q=-1 ∨ zf9 p q=0 ∨ zf9 p q=1
 | [],[]=>by simp [zf9]
 | [],_ :: _=>by simp [zf9]
 | _ :: _,[]=>by simp [zf9]
 | x :: p,y :: q=>by
  simp only [zf9]
  split
  ·exact zkp
  ·exact zwp
theorem zr7:∀ {p q r:Path},zf9 p q < 0→zf9 q r < 0→zf9 p r < 0
 | [],[],_,h,_=>by simp [zf9] at h
 | [],_ :: _,[],_,h=>by simp [zf9] at h
 | [],_ :: _,_ :: _,_,_=>by simp [zf9]
 | _ :: _,[],_,h,_=>by simp [zf9] at h
 | _ :: _,_ :: _,[],_,h=>by simp [zf9] at h
 | x :: p,y :: q,z :: r,h1,h2=>by
  simp only [zf9] at h1 h2 ⊢
  by_cases hxy:Lib.compareBytes x y=0
  ·rw [if_neg (fun e=>e hxy)] at h1
   obtain rfl:=zf7.1 hxy
   by_cases hyz:Lib.compareBytes x z=0
   ·rw [if_neg (fun e=>e hyz)] at h2 ⊢
    exact zr7 h1 h2
   ·rw [if_pos hyz] at h2 ⊢
    exact h2
  ·rw [if_pos hxy] at h1
   by_cases hyz:Lib.compareBytes y z=0
   ·obtain rfl:=zf7.1 hyz
    rw [if_pos hxy];exact h1
   ·rw [if_pos hyz] at h2
    have h3:=zfa.2 (List.lt_trans (zfa.1 h1) (zfa.1 h2))
    rw [if_pos (by omega)];exact h3
theorem qmx {α:Type} (f:α→Path):SWO (ltOf fun x y=>zf9 (f x) (f y)):=by
 have h:∀ x y,ltOf (fun x y=>zf9 (f x) (f y)) x y=true ↔ zf9 (f x) (f y) < 0:=by
  intro x y;unfold ltOf;exact decide_eq_true_iff
 refine ⟨fun x=>?_,fun x y z h1 h2=>?_,fun x y z h1 h2=>?_⟩
 ·rw [← Bool.not_eq_true,h,zpk.2 rfl];omega
 ·rw [h] at *;exact zr7 h1 h2
 ·rw [← Bool.not_eq_true,h] at *
  intro h3
  have hxy:=zwp (p:=f x) (q:=f y)
  have hyz:=zwp (p:=f y) (q:=f z)
  have n1:=zoi (p:=f x) (q:=f y)
  have n2:=zoi (p:=f y) (q:=f z)
  rcases Int.lt_or_eq_of_le (show zf9 (f y) (f x)≤0 by omega) with h4 | h4
  ·rcases Int.lt_or_eq_of_le (show zf9 (f z) (f y)≤0 by omega) with h5 | h5
   ·have h6:=zr7 h5 h4
    have n3:=zoi (p:=f x) (q:=f z)
    omega
   ·rw [zpk.1 h5] at h3;omega
  ·rw [zpk.1 h4] at h2;omega
theorem zqx:∀ {i:Nat} {p q:Path},p.take i=q.take i→i≤p.length→i≤q.length→zf9 p q=zf9 (p.drop i) (q.drop i)
 | 0,p,q,_,_,_=>by simp
 | i+1,[],q,_,h,_=>by simp at h
 | i+1,x :: p,[],_,_,h=>by simp at h
 | i+1,x :: p,y :: q,h,h1,h2=>by
  simp only [List.take_succ_cons,List.cons.injEq] at h
  obtain ⟨rfl,h⟩:=h
  simp only [zf9,List.drop_succ_cons]
  rw [if_neg (fun e=>e (zf7.2 rfl))]
  exact zqx h (by simpa using h1) (by simpa using h2)
theorem qcj {w:World} {H:Heap} {a b:Option Addr} {n nc m mc:Nat} {p q:Path} (hw:w.heap=H) (hL:Cells H a (strRow p)) (hn:n=p.length) (hM:Cells H b (strRow q)) (hm:m=q.length) (hp:p.length≤1099511627776) :
  qg P zk2 #[.slice a n nc,.slice b m mc] w fun e w'=>e=.returned (.int .i64 (zf9 p q))∧w'=w:=by
 subst hn hm
 refine zym ?_
 unfold zlb
 have h:qg P zar #[.slice a p.length nc,.slice b q.length mc,.func (.func zei) #[] #[]] w fun e w'=>e=.returned (.int .i64 (zf9 p q))∧w'=w:=by
  refine zdi ?_
  unfold zas
  refine jd (fun (s:Int) W=>∃ i:Nat,s=(i:Int)∧i≤p.length∧i≤q.length∧W=w∧p.take i=q.take i) (fun s _=>(p.length - s).toNat) ⟨0,rfl,Nat.zero_le _,Nat.zero_le _,rfl,by simp⟩ ?_
  rintro _ w ⟨i,rfl,hi,hj,rfl,hs⟩
  have hd:=zqx hs hi hj
  refine zq (fun hlt=>?_) (fun hge=>?_)
  ·have hil:i < p.length:=by omega
   refine z2i hw hL rfl hil rfl ?_
   refine zq (fun hge=>?_) (fun hlt2=>?_)
   ·have:i=q.length:=by omega
    rw [List.drop_eq_getElem_cons hil,List.drop_eq_nil_of_le (show q.length≤i by omega)] at hd
    exact ⟨by rw [hd];rfl,rfl⟩
   ·have hjl:i < q.length:=by omega
    refine z2i hw hM rfl hjl rfl ?_
    refine zsb ((ql1 _ _).mono ?_)
    rintro e w' ⟨rfl,rfl⟩
    refine ⟨_,rfl,?_⟩
    rw [List.drop_eq_getElem_cons hil,List.drop_eq_getElem_cons hjl,zf9] at hd
    refine zam (fun hne=>?_) (fun heq=>?_)
    ·rw [if_pos hne] at hd
     exact ⟨by rw [hd],rfl⟩
    ·refine xk ((i+1:Nat):Int) (by omega) (by omega) (by omega) ?_
     exact ⟨⟨i+1,rfl,by omega,by omega,rfl,zzk hil hjl hs (zf7.1 heq)⟩,by omega⟩
  ·have:i=p.length:=by omega
   rw [List.drop_eq_nil_of_le (show p.length≤i by omega)] at hd
   refine zq (fun h=>?_) (fun h=>?_)
   ·rw [List.drop_eq_getElem_cons (show i < q.length by omega)] at hd
    exact ⟨by rw [hd];rfl,rfl⟩
   ·rw [List.drop_eq_nil_of_le (show q.length≤i by omega)] at hd
    exact ⟨by rw [hd];rfl,rfl⟩
 refine zn h ?_
 rintro e w' ⟨rfl,rfl⟩
 exact ⟨_,rfl,rfl,rfl⟩
theorem z5q {w:World} {H:Heap} {a b:Option Addr} {n nc m mc:Nat} {p q:Path} (hw:w.heap=H) (hL:Cells H a (strRow p)) (hn:n=p.length) (hM:Cells H b (strRow q)) (hm:m=q.length) (hp:p.length≤1099511627776) :
  qg P zkf #[.slice a n nc,.slice b m mc] w fun e w'=>e=.returned (.int .i64 (zf9 p q))∧w'.heap=H:=by
 subst hn hm
 refine z3p ?_
 unfold zp8
 refine zab ?_
 refine joinP_of (fun _ W=>W.heap=H∧∃ i:Nat,i≤p.length∧i≤q.length∧(i=p.length ∨ i=q.length)∧p.take i=q.take i) ?_ ?_
 ·refine jd (fun (s:Int) W=>∃ i:Nat,s=(i:Int)∧i≤p.length∧i≤q.length∧W.heap=H∧p.take i=q.take i) (fun s _=>(p.length - s).toNat) ⟨0,rfl,Nat.zero_le _,Nat.zero_le _,hw,by simp⟩ ?_
  rintro _ W ⟨i,rfl,hi,hj,hW,hs⟩
  have hd:=zqx hs hi hj
  refine zab ?_
  refine zq (fun hlt=>?_) (fun hge=>⟨hW,i,hi,hj,.inl (by omega),hs⟩)
  refine zq (fun hlt2=>?_) (fun hge=>⟨hW,i,hi,hj,.inr (by omega),hs⟩)
  have hil:i < p.length:=by omega
  have hjl:i < q.length:=by omega
  rw [List.drop_eq_getElem_cons hil,List.drop_eq_getElem_cons hjl,zf9] at hd
  have hr:=zkp (a:=p[i]) (b:=q[i])
  refine jq hW fun W1 hW1=>?_
  refine qj3 hW1 hL rfl hil rfl hM rfl hjl rfl ?_
  rw [zaj,zaj,bytesLess_eq]
  refine zq (fun h=>?_) (fun h=>?_)
  ·have h2:=zfa.2 h
   rw [if_pos (by omega)] at hd
   exact ⟨by rw [hd];congr 2;omega,hW1⟩
  have hnl:¬ Lib.compareBytes p[i] q[i] < 0:=fun h2=>h (zfa.1 h2)
  refine jq hW1 fun W2 hW2=>?_
  refine qj3 hW2 hL rfl hil rfl hM rfl hjl rfl ?_
  rw [zaj,zaj,bytesLess_eq]
  by_cases e:p[i]=q[i]
  ·refine jk (by simp [e]) ?_
   refine xk ((i+1:Nat):Int) (by omega) (by omega) (by omega) ?_
   exact ⟨⟨i+1,rfl,by omega,by omega,hW2,zzk hil hjl hs e⟩,by omega⟩
  ·refine vw (by simp [e];exact fun h2=>absurd h2 h) ?_
   have h2:Lib.compareBytes p[i] q[i] ≠ 0:=fun h2=>e (zf7.1 h2)
   rw [if_pos h2] at hd
   exact ⟨by rw [hd];congr 2;omega,hW2⟩
 ·rintro _ W ⟨hW,i,hi,hj,hor,hs⟩
  have hd:=zqx hs hi hj
  refine zq (fun h=>?_) (fun h=>?_)
  ·rw [List.drop_eq_nil_of_le (show p.length≤i by omega),List.drop_eq_getElem_cons (show i < q.length by omega)] at hd
   exact ⟨by rw [hd];rfl,hW⟩
  ·refine zq (fun h2=>?_) (fun h2=>?_)
   ·rw [List.drop_eq_nil_of_le (show q.length≤i by omega),List.drop_eq_getElem_cons (show i < p.length by omega)] at hd
    exact ⟨by rw [hd];rfl,hW⟩
   ·rw [List.drop_eq_nil_of_le (show q.length≤i by omega),List.drop_eq_nil_of_le (show p.length≤i by omega)] at hd
    exact ⟨by rw [hd];rfl,hW⟩
theorem plain47:zd9 47=false:=by decide
theorem zej {L:List UInt8}:zc8 L=true ↔ (L ≠ []∧L.length≤16∧L ≠ [46]∧L ≠ [46,46])∧∀ b ∈ L,zd9 b=true:=by
 unfold zc8
 rw [Bool.and_eq_true,decide_eq_true_iff,List.all_eq_true]
theorem z0g {L:List UInt8} (h:zc8 L=true):(47:UInt8) ∉ L:=by
 intro hm
 have:=(zej.1 h).2 47 hm
 rw [plain47] at this;cases this
def okP (p:Path):Prop:=(∀ L ∈ p,zc8 L=true)∧p.length≤8
theorem qls {p:Path}:zxw p=0 ↔ okP p:=by
 unfold zxw okP
 by_cases h:p.all zc8=true
 ·rw [if_pos h]
  rw [List.all_eq_true] at h
  by_cases h2:8 < p.length
  ·rw [if_pos h2]
   constructor
   ·intro h3;omega
   ·intro h3;omega
  ·rw [if_neg h2]
   exact ⟨fun _=>⟨h,by omega⟩,fun _=>rfl⟩
 ·rw [if_neg h]
  rw [List.all_eq_true] at h
  constructor
  ·intro h3;omega
  ·intro h3;exact absurd h3.1 h
theorem okP.take {p:Path} (h:okP p) (i:Nat):okP (p.take i):=⟨fun L hL=>h.1 L (List.mem_of_mem_take hL),by have:=h.2;simp;omega⟩
theorem okP.tlen {p:Path} (h:okP p):tlen p≤16 * p.length:=by
 obtain ⟨h,h8⟩:=h
 clear h8
 induction p with
 | nil=>simp [Go.Proofs.YtbmegmbnlajbbaaGreatDoor.tlen]
 | cons x p ih =>
  have h1:=(zej.1 (h x (by simp))).1.2.1
  have h2:=ih fun L hL=>h L (by simp [hL])
  simp only [Go.Proofs.YtbmegmbnlajbbaaGreatDoor.tlen,List.map_cons,List.sum_cons,List.length_cons] at h2 ⊢
  omega
theorem okP.small {p:Path} (h:okP p):Go.Proofs.YtbmegmbnlajbbaaGreatDoor.tlen p+p.length≤136:=by have:=h.tlen;have:=h.2;omega
theorem zz3:∀ {p:Path},p ≠ []→(∀ L ∈ p,zc8 L=true)→pieces (joinP p)=p
 | [],h,_=>absurd rfl h
 | [x],_,h=>by
  have hx:=h x (by simp)
  have:joinP [x]=x:=by simp [joinP]
  rw [this,zpg (z0g hx) (zej.1 hx).1.1]
 | x :: y :: p,_,h=>by
  have hx:=h x (by simp)
  have e:joinP (x :: y :: p)=x++47 :: joinP (y :: p):=by simp [joinP]
  rw [e,zkq (z0g hx),zz3 (by simp) fun L hL=>h L (List.mem_cons_of_mem _ hL)]
theorem z4v:∀ {p acc:Path},(∀ L ∈ p,zc8 L=true)→p.foldl zb5 acc=acc++p
 | [],acc,_=>by simp
 | x :: p,acc,h=>by
  obtain ⟨⟨h1,h2,h3,h4⟩,_⟩:=zej.1 (h x (by simp))
  rw [List.foldl_cons]
  have e:zb5 acc x=acc++[x]:=by rw [zb5,if_neg (by simp [h1,h3]),if_neg h4]
  rw [e,z4v fun L hL=>h L (List.mem_cons_of_mem _ hL)];simp
theorem qhn:∀ {p:Path},∀ b ∈ joinP p,b=47 ∨ ∃ L ∈ p,b ∈ L
 | [],b,h=>by simp [joinP] at h
 | x :: p,b,h=>by
  simp only [joinP,List.mem_append,List.mem_flatMap,List.mem_cons] at h
  rcases h with h | ⟨L,hL,h | h⟩
  ·exact .inr ⟨x,by simp,h⟩
  ·exact .inl h
  ·exact .inr ⟨L,by simp [hL],h⟩
theorem zxg {p:Path} (h:okP p):zb1 (vk p)=(p,0):=by
 have hlen:(vk p).length≤137:=by
  have h1:=h.small
  unfold vk
  cases p with
  | nil=>simp [joinP]
  | cons x p =>
   simp only [List.length_cons,z1k]
   simp only [List.length_cons] at h1
   omega
 have hok:zvt (vk p)=true:=by
  unfold zvt vk
  rw [List.all_eq_true]
  intro b hb
  rcases List.mem_cons.1 hb with rfl | hb
  ·simp
  ·rcases qhn b hb with rfl | ⟨L,hL,hm⟩
   ·simp
   ·rw [(zej.1 (h.1 L hL)).2 b hm];simp
 have hpc:pieces (vk p)=[] :: p:=by
  unfold vk
  have h0:pieces (47 :: joinP p)=[] :: pieces (joinP p):=zkq (p:=[]) (by simp)
  rw [h0]
  by_cases hp:p=[]
  ·subst hp;rfl
  ·rw [zz3 hp h.1]
 have hwalk:ze0 (pieces (vk p))=p:=by
  rw [hpc]
  show (p.foldl zb5 (zb5 [] []))=p
  rw [z4v h.1];simp [zb5]
 have hany:(pieces (vk p)).any (fun x=>decide (16 < x.length))=false:=by
  rw [hpc,List.any_eq_false]
  intro x hx
  rcases List.mem_cons.1 hx with rfl | hx
  ·simp
  ·have:=(zej.1 (h.1 x hx)).1.2.1
   simp;omega
 have h8:=h.2
 unfold zb1
 rw [if_neg (by omega),if_neg (by simp [vk]),if_neg (by simp [hok]),hany,hwalk,if_neg (by simp),if_neg (by omega)]
theorem zyw {p q:Path} (hp:okP p) (hq:okP q) (h:vk p=vk q):p=q:=by
 have:=zxg hp
 rw [h,zxg hq] at this
 simpa using this.symm
theorem zn0:∀ {L x:List UInt8},x ∈ pieces L→(47:UInt8) ∉ x∧∀ b ∈ x,b ∈ L
 | [],x,h=>by simp [pieces] at h
 | c :: L,x,h=>by
  rw [pieces] at h
  by_cases hc:c=47
  ·rw [if_pos hc] at h
   rcases List.mem_cons.1 h with rfl | h
   ·simp
   ·have:=zn0 h
    exact ⟨this.1,fun b hb=>List.mem_cons_of_mem _ (this.2 b hb)⟩
  ·rw [if_neg hc] at h
   cases hps:pieces L with
   | nil =>
    rw [hps] at h
    simp only [List.mem_singleton] at h
    subst h
    exact ⟨by simp [Ne.symm hc],by simp⟩
   | cons p ps =>
    rw [hps] at h
    have hp:=zn0 (L:=L) (x:=p) (by rw [hps];simp)
    simp only at h
    split at h
    ·rcases List.mem_cons.1 h with rfl | h
     ·exact ⟨by simp [Ne.symm hc],by simp⟩
     ·have:=zn0 (L:=L) (x:=x) (by rw [hps];simp [h])
      exact ⟨this.1,fun b hb=>List.mem_cons_of_mem _ (this.2 b hb)⟩
    ·rcases List.mem_cons.1 h with rfl | h
     ·refine ⟨by simp [Ne.symm hc,hp.1],fun b hb=>?_⟩
      rcases List.mem_cons.1 hb with rfl | hb
      ·simp
      ·exact List.mem_cons_of_mem _ (hp.2 b hb)
     ·have:=zn0 (L:=L) (x:=x) (by rw [hps];simp [h])
      exact ⟨this.1,fun b hb=>List.mem_cons_of_mem _ (this.2 b hb)⟩
theorem qfb:∀ {ps acc:Path} {x:List UInt8},x ∈ ps.foldl zb5 acc→x ∈ acc ∨ (x ∈ ps∧x ≠ []∧x ≠ [46]∧x ≠ [46,46])
 | [],acc,x,h=>.inl h
 | y :: ps,acc,x,h=>by
  rw [List.foldl_cons] at h
  rcases qfb h with h | ⟨h1,h2⟩
  ·unfold zb5 at h
   split at h
   ·exact .inl h
   ·rename_i h1
    split at h
    ·exact .inl ((List.dropLast_sublist acc).subset h)
    ·rename_i h2
     rcases List.mem_append.1 h with h | h
     ·exact .inl h
     ·simp only [List.mem_singleton] at h
      subst h
      simp only [not_or] at h1
      exact .inr ⟨by simp,h1.1,h1.2,h2⟩
  ·exact .inr ⟨List.mem_cons_of_mem _ h1,h2⟩
theorem qmk (L:List UInt8):okP (zb1 L).1:=by
 have nil:okP []:=⟨by simp,by simp⟩
 unfold zb1
 split
 ·exact nil
 split
 ·exact nil
 split
 ·exact nil
 rename_i hok
 split
 ·exact nil
 rename_i hany
 split
 ·exact nil
 rename_i hdeep
 refine ⟨fun x hx=>?_,by simp only;omega⟩
 rcases qfb hx with h | ⟨h1,h2,h3,h4⟩
 ·cases h
 ·have hm:=zn0 h1
  rw [zej]
  refine ⟨⟨h2,?_,h3,h4⟩,fun b hb=>?_⟩
  ·simp only [Bool.not_eq_true,List.any_eq_false] at hany
   have:=hany x h1
   simp at this;omega
  ·have hb2:=hm.2 b hb
   simp only [Bool.not_eq_false] at hok
   have h5:=List.all_eq_true.1 hok b hb2
   have h6:b ≠ 47:=fun e=>hm.1 (by rw [← e];exact hb)
   simpa [h6] using h5
end Go.Proofs.YtbmegmbnlajbbaaGreatDoor
