/- Part 5 of the texts below the card, joined. -/
import Derived.Test.YthaaekcaaecdeaaGreatDoorTMnd
import Derived.Laws.StructEq
import Derived.Test.YthaaekcaaecdeaaGreatDoorTMnc
import Derived.LaidEql
import Derived.Stop.Asserts
namespace Go.Proofs.YthaaekcaaecdeaaGreatDoor
open Go Go.Fw Go.Proofs
abbrev Rest:=Option (List UInt8)
def InW (H:Heap) (b:Nat) (F:List Nat) (s:Rest):Prop:=∃ (x:Option Addr×Nat×Nat) (e:Int),H[b]?=some (.cells #[zhq x,.int .i64 e] zhv (0,0))/\b∉F/\(∀ c∈zbu x,c∈F) /\
 (match s with | some R=>e=0/\Cells H x.1 (byteCells R)/\x.2.1=R.length/\x.2.1<=x.2.2/\R.length<=9223372036854775807 | none=>e≠0)
theorem zm0 {H H':Heap}{M F:List Nat}{x:Option Addr×Nat×Nat}{vs:List Value}(h:Cells H x.1 vs) (hx:Ext M H H') (hF:∀ c∈zbu x,c∈F) (hM:∀ c∈F,c∉M):Cells H' x.1 vs:=
 h.ext hx fun a ha _=>hM _ (hF _ (by simp [zbu,ha]))
theorem InW.ext {H H':Heap}{b:Nat}{F M:List Nat}{s:Rest}(h:InW H b F s) (hx:Ext M H H') (hb:b∉M) (hF:∀ c∈F,c∉M):InW H' b F s:=by
 obtain⟨x,e,h1,h2,h3,h4⟩:=h
 refine⟨x,e,hx.get h1 hb,h2,h3,?_⟩
 cases s with
 | none=>exact h4
 | some R=>exact⟨h4.1,zm0 h4.2.1 hx h3 hF,h4.2.2⟩
theorem zl7 {w:World}{H:Heap}{b:Nat}{F:List Nat}{s:Rest}(code:Int) (hw:w.heap=H) (hI:InW H b F s) (hc:code≠0) :
  zx P zat #[.pointer (some ⟨b,0,none⟩),.int .i64 code] w fun e w'=>e=.returned (.tuple #[])/\InW w'.heap b F none/\Ext [b] H w'.heap:=by
 obtain⟨x,e,h1,h2,h3,_⟩:=hI
 refine zpy ?_
 unfold zk1
 simp only [qo,zan]
 refine zdj hw h1 (by simp) fun w1 hw1=>?_
 have hx1:Ext [b] H w1.heap:=by rw [hw1];exact Ext.set _ (by simp)
 have hb1:w1.heap[b]?=some (.cells #[zhq (none,0,0),.int .i64 e] zhv (0,0)):=by rw [hw1];exact xk h1
 refine zdj rfl hb1 (by simp) fun w2 hw2=>?_
 exact⟨trivial,⟨(none,0,0),code,by rw [hw2];exact xk hb1,h2,by simp [zbu],hc⟩,by rw [hw2];exact hx1.set_own (.inr (by simp))⟩
def zwk (x:Option Addr×Nat×Nat) (k:Nat):Option Addr×Nat×Nat:=(if x.2.2=k then x.1 else x.1.map (·.add (k * 1)),x.2.1-k,x.2.2-k)
theorem zwi {x:Option Addr×Nat×Nat}{k:Nat}:∀ c∈zbu (zwk x k),c∈zbu x:=by
 obtain⟨a,n,m⟩:=x
 intro c hc
 unfold zwk at hc
 simp only at hc
 split at hc
 ·exact hc
 ·cases a with
  | none=>simp [zbu] at hc
  | some a=>
   have:(a.add k).block=a.block:=by unfold Addr.add;split <;> rfl
   simpa [zbu,this] using hc
theorem zq8 {H:Heap}{x:Option Addr×Nat×Nat}{R:List UInt8}(h:Cells H x.1 (byteCells R)) (k:Nat) (hl:R.length<=x.2.2):Cells H (zwk x k).1 (byteCells (R.drop k)):=by
 have:=Cells.drop h k x.2.2 (by simpa using hl)
 rw [zqv] at this
 simpa only [zwk,Nat.mul_one] using this
def nx:Rest->(Int×Bool)×Rest
 | some (c :: R)=>(((c.toNat:Int),true),some R)
 | _=>((0,false),none)
theorem zvl {w:World}{H:Heap}{b:Nat}{F:List Nat}{s:Rest}(hw:w.heap=H) (hI:InW H b F s) :
  zx P zfv #[.pointer (some ⟨b,0,none⟩)] w fun e w'=>e=.returned (.tuple #[.int .u8 (nx s).1.1,.bool (nx s).1.2])/\InW w'.heap b F (nx s).2/\Ext [b] H w'.heap:=by
 obtain⟨x,e,h1,h2,h3,h4⟩:=id hI
 refine zpl ?_
 unfold zky
 refine x9 ?_
 refine qg rfl ?_
 simp only [qo,zan]
 refine jh (s:=.int .i64) (t:=e) hw h1 rfl ?_
 cases s with
 | none=>exact zdk (fun _=>⟨rfl,by rw [hw];exact hI,by rw [hw];exact .refl _ _⟩) (fun h=>absurd h h4)
 | some R=>
  obtain⟨rfl,hC,hl,hcap,hlen⟩:=h4
  refine qg rfl ?_
  refine jh (s:=.slc) (t:=x) hw h1 rfl ?_
  cases R with
  | nil=>
   refine jc (by simp [hl]) ?_
   refine zl (zl7 20 hw hI (by omega)) ?_
   rintro e w' ⟨rfl,h⟩
   exact⟨(),rfl,rfl,h⟩
  | cons c R=>
   refine qg (by simp [hl];omega) ?_
   refine jh (s:=.slc) (t:=x) hw h1 rfl ?_
   obtain⟨b2,o,cs,T,fr,hx1,hb2,ho,hby⟩:=hC.bytes (by simp)
   rw [hx1]
   refine zx0 0 rfl (by rw [hl];simp) ?_
   refine jh (s:=.int .u8) (t:=(c.toNat:Int)) hw hb2 (by have:=hby 0 (by simp);simp at this;exact this) ?_
   refine jh (s:=.slc) (t:=x) hw h1 rfl ?_
   refine qw (s:=.slc) (zwk x 1) (zbi uS8 sz8 (.yes rfl) .no (by rw [hl];simp) hcap) ?_
   refine zdj hw h1 (by simp) fun w1 hw1=>?_
   have hx:Ext [b] H w1.heap:=by rw [hw1];exact Ext.set _ (by simp)
   have hown:∀ d∈zbu (zwk x 1),d∈F:=fun d hd=>h3 d (zwi d hd)
   refine⟨rfl,⟨zwk x 1,0,by rw [hw1];exact xk h1,h2,hown,rfl,?_,by simp [zwk,hl],by simp only [zwk];omega,by simp at hlen;omega⟩,hx⟩
   exact zm0 (zq8 hC 1 (by omega)) hx hown fun d hd h=>by simp at h;subst h;exact h2 hd
theorem zpw (m:Nat):(BitVec.ofInt 64 (m:Int)).toNat=m % 18446744073709551616:=by
 rw [BitVec.toNat_ofInt]
 have:((2:Nat) ^ 64:Nat)=18446744073709551616:=by decide
 rw [this];omega
theorem z96 {a b:Nat}{K:Int->Prop}(ha:a < 18446744073709551616) (hb:b < 18446744073709551616) (h:K ((a ||| b:Nat):Int)):orI .u64 (a:Int) (b:Int) K:=by
 refine⟨_,?_,h⟩
 have e:(BitVec.ofInt IntKind.u64.bits (a:Int) ||| BitVec.ofInt IntKind.u64.bits (b:Int)).toNat=a ||| b:=by
  show (BitVec.ofInt 64 (a:Int) ||| BitVec.ofInt 64 (b:Int)).toNat=a ||| b
  rw [BitVec.toNat_or,zpw,zpw,Nat.mod_eq_of_lt ha,Nat.mod_eq_of_lt hb]
 rw [e,zxa]
 have:a ||| b < 2 ^ 64:=Nat.or_lt_two_pow (by simpa using ha) (by simpa using hb)
 rw [Nat.mod_eq_of_lt (by simpa using this)]
theorem z5s (x:BitVec 8):(x &&& 127#8).toNat=x.toNat % 128:=by
 revert x;decide
theorem qaa {c:UInt8}{K:Int->Prop}(h:K ((c.toNat % 128:Nat):Int)):z6c .u8 (c.toNat:Int) 127 K:=by
 refine⟨_,?_,h⟩
 have e1:BitVec.ofInt 8 (c.toNat:Int)=BitVec.ofNat 8 c.toNat:=by
  apply BitVec.eq_of_toNat_eq
  simp
 show _=IntKind.u8.wrap ((BitVec.ofInt 8 (c.toNat:Int) &&& BitVec.ofInt 8 127).toNat:Int)
 have e3:BitVec.ofInt 8 127=127#8:=by decide
 rw [e1,e3,z5s,zmw]
 have:=c.toNat_lt
 simp only [BitVec.toNat_ofNat]
 omega
theorem zzd (e:Nat):2 ^ (7 * e)=128 ^ e:=by rw [Nat.pow_mul]
theorem more7 {c:UInt8}{e acc:Nat}(he:e<=9) (ha:acc < 128 ^ e) (h9:e=9->c.toNat<=1){i:Int}(hi:i=7 * (e:Int)){K:Int->Prop}(h:K ((acc+c.toNat % 128 * 128 ^ e:Nat):Int)) :
  z5k .u64 ((c.toNat % 128:Nat):Int) i fun t=>orI .u64 (acc:Int) t K:=by
 have hc:=c.toNat_lt
 have hp:128 ^ e<=128 ^ 9:=Nat.pow_le_pow_right (by omega) he
 have h128:(128:Nat) ^ 9=9223372036854775808:=by decide
 have hlt:c.toNat % 128 * 128 ^ e < 18446744073709551616:=by
  by_cases h:e=9
  ·subst h
   have:=h9 rfl
   have h1:c.toNat % 128<=1:=by omega
   calc c.toNat % 128 * 128 ^ 9<=1 * 128 ^ 9:=Nat.mul_le_mul_right _ h1
    _ < _:=by decide
  ·have hp8:128 ^ e<=128 ^ 8:=Nat.pow_le_pow_right (by omega) (by omega)
   calc c.toNat % 128 * 128 ^ e<=127 * 128 ^ 8:=Nat.mul_le_mul (by omega) hp8
    _ < _:=by decide
 refine⟨by omega,((c.toNat % 128 * 128 ^ e:Nat):Int),?_,?_⟩
 ·have e1:min i.toNat IntKind.u64.bits=7 * e:=by
   have:IntKind.u64.bits=64:=rfl
   omega
  rw [e1]
  have e2:((c.toNat % 128:Nat):Int) * 2 ^ (7 * e)=((c.toNat % 128 * 128 ^ e:Nat):Int):=by
   rw [<-zzd];simp
  rw [e2,wrap_u64 (by omega) (by omega)]
 ·refine z96 (by omega) hlt ?_
  have h2:acc ||| c.toNat % 128 * 128 ^ e=acc+c.toNat % 128 * 128 ^ e:=by
   rw [<-zzd]
   have h3:=Nat.shiftLeft_add_eq_or_of_lt (i:=7 * e) (b:=acc) (by rw [zzd];exact ha) (c.toNat % 128)
   rw [Nat.shiftLeft_eq] at h3
   rw [Nat.or_comm,<-h3,Nat.add_comm]
  rw [h2];exact h
def nmS (s:Rest):Nat×Rest:=match s with | none=>(0,none) | some R=>match rdNum R with | none=>(0,none) | some (n,R)=>(n,some R)
def flS (s:Rest):Bool×Rest:=match s with | none=>(false,none) | some R=>match zth R with | none=>(false,none) | some (o,R)=>(o,some R)
def txS (most:Nat) (s:Rest):List UInt8×Rest:=match s with | none=>([],none) | some R=>match zpc most R with | none=>([],none) | some (t,R)=>(t,some R)
theorem zzk {w:World}{H:Heap}{b:Nat}{F:List Nat}{s:Rest}(hw:w.heap=H) (hI:InW H b F s) :
  zx P ze7 #[.pointer (some ⟨b,0,none⟩)] w fun e w'=>e=.returned (.int .u64 ((nmS s).1:Int))/\InW w'.heap b F (nmS s).2/\Ext [b] H w'.heap:=by
 refine zqu ?_
 unfold zl8
 cases s with
 | none=>
  refine zds (fun (s:Int×Int) W=>W=w) (fun _ _=>0) rfl ?_
  rintro s W rfl
  refine x9 ?_
  refine zl (zvl hw hI) ?_
  rintro e w' ⟨rfl,h⟩
  refine⟨(0,false),rfl,?_⟩
  exact jc rfl ⟨rfl,h⟩
 | some R0=>
 refine zds (fun (s:Int×Int) W=>∃ (acc e:Nat) (R:List UInt8),s=((acc:Int),(e:Int))/\e<=9/\acc < 128 ^ e/\InW W.heap b F (some R)/\rdN e acc R=rdNum R0/\Ext [b] H W.heap) (fun s _=>(10-s.2).toNat)
  ⟨0,0,R0,rfl,by omega,by simp,by rw [hw];exact hI,rfl,by rw [hw];exact .refl _ _⟩ ?_
 rintro _ W ⟨acc,e,R,rfl,he,hacc,hIW,hrd,hxW⟩
 refine x9 ?_
 refine zl (zvl rfl hIW) ?_
 rintro e' w2 ⟨rfl,hI2,hx2⟩
 have hx02:=hxW.trans hx2
 cases R with
 | nil=>
  refine⟨(0,false),rfl,?_⟩
  refine jc rfl ?_
  have:nmS (some R0)=(0,none):=by simp only [nmS,<-hrd,rdN]
  rw [this]
  exact⟨rfl,hI2,hx02⟩
 | cons c R=>
  refine⟨((c.toNat:Int),true),rfl,?_⟩
  refine qg rfl ?_
  have hbad:((e=9/\1 < c.toNat)\/(0 < e/\c.toNat=0))->qc P zat #[(Value.pointer (some ⟨b,0,none⟩)),(Value.int .i64 21)] [] true w2 fun (_:Unit) w_3=>
    Ending.returned (Value.int .u64 0)=.returned (.int .u64 ((nmS (some R0)).1:Int))/\InW w_3.heap b F (nmS (some R0)).2/\Ext [b] H w_3.heap:=by
   intro hb
   have:nmS (some R0)=(0,none):=by simp only [nmS,<-hrd,rdN,if_pos hb]
   rw [this]
   refine zl (zl7 21 rfl hI2 (by omega)) ?_
   rintro e3 w3 ⟨rfl,h3,hx3⟩
   exact⟨(),rfl,rfl,h3,hx02.trans hx3⟩
  refine ku (fun _ W'=>W'=w2/\¬((e=9/\1 < c.toNat)\/(0 < e/\c.toNat=0))) ?_ ?_
  ·refine zc9 (fun h9=>?_) (fun h9=>?_)
   ·refine qm (fun h1=>hbad (.inl ⟨by omega,by simp only at h1;omega⟩)) (fun h1=>?_)
    refine qm (fun hp=>?_) (fun hp=>⟨rfl,by simp only at h1;omega⟩)
    exact zc9 (fun h0=>hbad (.inr ⟨by omega,by simp only at h0;omega⟩)) (fun h0=>⟨rfl,by simp only at h0 h1;omega⟩)
   ·refine qm (fun hp=>?_) (fun hp=>⟨rfl,by simp only at h9 hp;omega⟩)
    exact zc9 (fun h0=>hbad (.inr ⟨by simp only at hp;omega,by simp only at h0;omega⟩)) (fun h0=>⟨rfl,by simp only at h0 h9;omega⟩)
  rintro _ W' ⟨rfl,hok⟩
  refine qaa ?_
  refine znv (by omega) (by omega) ?_
  refine zuq (7 * (e:Int)) rfl (by omega) (by omega) ?_
  refine more7 he hacc (fun h=>by omega) rfl ?_
  refine qm (fun h=>?_) (fun h=>?_)
  ·have hc:c.toNat < 128:=by simp only at h;omega
   have:nmS (some R0)=(acc+c.toNat * 128 ^ e,some R):=by simp only [nmS,<-hrd,rdN,if_neg hok,if_pos hc]
   rw [this,Nat.mod_eq_of_lt hc]
   exact⟨rfl,hI2,hx02⟩
  ·have hc:¬c.toNat < 128:=by simp only at h;omega
   refine zas ((e+1:Nat):Int) (by omega) (by omega) (by omega) ?_
   refine⟨⟨_,e+1,R,rfl,by omega,?_,hI2,?_,hx02⟩,by omega⟩
   ·rw [Nat.pow_succ]
    have:c.toNat % 128 * 128 ^ e<=127 * 128 ^ e:=Nat.mul_le_mul_right _ (by omega)
    omega
   ·rw [<-hrd];simp only [rdN,if_neg hok,if_neg hc]
theorem z9u (n:Nat) (w:World):(Builtin.max_ #[zai,zai] zai #[.int .i64 (n:Int),.int .i64 0]).run P w=.ok (.int .i64 (n:Int)) w:=by
 rw [run_max_int2]
 congr 2
theorem z2w {w:World}{H:Heap}{b:Nat}{F:List Nat}{R:List UInt8}{n:Nat}(hw:w.heap=H) (hI:InW H b F (some R)) (hn:n<=9223372036854775807) :
  zx P zhk #[.pointer (some ⟨b,0,none⟩),.int .i64 (n:Int)] w fun e w'=>Ext [b] H w'.heap/\((R.length < n/\e=.returned (.slice none 0 0)/\InW w'.heap b F none) \/
   (n<=R.length/\∃ y,e=.returned (zhq y)/\Cells w'.heap y.1 (byteCells (R.take n))/\y.2.1=n/\(∀ c∈zbu y,c∈F)/\InW w'.heap b F (some (R.drop n)))):=by
 obtain⟨x,e,h1,h2,h3,rfl,hC,hl,hcap,hlen⟩:=id hI
 refine zpm ?_
 unfold zk3
 refine x9 ?_
 refine qg rfl ?_
 simp only [qo,zan]
 refine jh (s:=.int .i64) (t:=0) hw h1 rfl ?_
 refine qg rfl ?_
 refine jh (s:=.slc) (t:=x) hw h1 rfl ?_
 refine qm (fun h=>?_) (fun h=>?_)
 ·refine zl (zl7 20 hw hI (by omega)) ?_
  rintro e3 w3 ⟨rfl,h3,hx3⟩
  exact⟨(),rfl,hx3,.inl ⟨by omega,trivial,h3⟩⟩
 ·have hnl:n<=R.length:=by omega
  refine jh (s:=.slc) (t:=x) hw h1 rfl ?_
  refine qw (s:=.slc) (if x.2.2=0 then x.1 else x.1.map (·.add (0 * 1)),n-0,x.2.2-0) (zbi uS8 sz8 .no (.yes rfl) (Nat.zero_le _) (by omega)) ?_
  refine jh (s:=.slc) (t:=x) hw h1 rfl ?_
  refine qw (s:=.slc) (zwk x n) (zbi uS8 sz8 (.yes rfl) .no (by omega) hcap) ?_
  refine zdj hw h1 (by simp) fun w1 hw1=>?_
  have hx:Ext [b] H w1.heap:=by rw [hw1];exact Ext.set _ (by simp)
  have hFb:∀ c∈F,c∉[b]:=fun d hd h=>by simp at h;subst h;exact h2 hd
  have hown:∀ d∈zbu (zwk x n),d∈F:=fun d hd=>h3 d (zwi d hd)
  have hy:((if x.2.2=0 then x.1 else x.1.map (·.add (0 * 1)),n-0,x.2.2-0):Option Addr×Nat×Nat).1=x.1:=by
   simp only
   split
   ·rfl
   ·cases x.1 with
    | none=>rfl
    | some a=>simp [Addr.add]
  refine⟨hx,.inr ⟨hnl,(if x.2.2=0 then x.1 else x.1.map (·.add (0 * 1)),n-0,x.2.2-0),rfl,?_,by simp,?_,⟨zwk x n,0,by rw [hw1];exact xk h1,h2,hown,rfl,?_,by simp [zwk,hl],by simp only [zwk];omega,by simp;omega⟩⟩⟩
  ·rw [hy,<-zp7]
   exact zm0 (hC.take n) hx h3 hFb
  ·intro c hc
   refine h3 c ?_
   unfold zbu at hc |-
   rw [hy] at hc;exact hc
  ·exact zm0 (zq8 hC n (by omega)) hx hown hFb
theorem z3j {w:World}{H:Heap}{b:Nat}{F:List Nat}{s:Rest}{most:Nat}(hw:w.heap=H) (hI:InW H b F s) (hm:most<=1073741824) :
  zx P zfu #[.pointer (some ⟨b,0,none⟩),.int .i64 (most:Int)] w fun e w'=>e=.returned (.string (strOf (txS most s).1))/\InW w'.heap b F (txS most s).2/\Ext [b] H w'.heap:=by
 refine zp0 ?_
 unfold zk6
 refine zl (zzk hw hI) ?_
 rintro e w1 ⟨rfl,h1,hx1⟩
 refine⟨((nmS s).1:Int),rfl,?_⟩
 refine ku (fun _ W=>W=w1/\∃ R,(nmS s).2=some R) ?_ ?_
 ·refine qg rfl ?_
  obtain⟨x,e,g1,g2,g3,g4⟩:=id h1
  simp only [qo,zan]
  refine jh (s:=.int .i64) (t:=e) rfl g1 rfl ?_
  cases hs:(nmS s).2 with
  | none=>
   rw [hs] at g4 h1
   have:txS most s=([],none):=by
    cases s with
    | none=>rfl
    | some R=>
     simp only [nmS] at hs
     simp only [txS,zpc]
     cases h:rdNum R with
     | none=>rfl
     | some y=>rw [h] at hs;simp at hs
   rw [this]
   refine zdk (fun _=>⟨rfl,h1,hx1⟩) (fun h=>absurd h g4)
  | some R=>
   rw [hs] at g4
   exact qg (by rw [g4.1];rfl) ⟨trivial,R,rfl⟩
 rintro _ W ⟨hW,R,hR⟩
 subst hW
 obtain⟨R0,rfl,hn⟩:∃ R0,s=some R0/\rdNum R0=some ((nmS s).1,R):=by
  cases s with
  | none=>simp [nmS] at hR
  | some R0=>
   refine⟨R0,rfl,?_⟩
   simp only [nmS] at hR |-
   cases h:rdNum R0 with
   | none=>rw [h] at hR;simp at hR
   | some y=>rw [h] at hR;simp at hR |-;rw [<-hR]
 rw [hR] at h1
 have hlt:=(zwp hn).2
 generalize (nmS (some R0)).1=n at hn hlt
 refine qw (s:=.int .i64) (most:Int) (z9u most W) ?_
 refine znv (by omega) (by omega) ?_
 refine qm (fun h=>?_) (fun h=>?_)
 ·have:txS most (some R0)=([],none):=by simp only [txS,zpc,hn];rw [if_pos (by omega)]
  rw [this]
  refine zl (zl7 2 rfl h1 (by omega)) ?_
  rintro e3 w3 ⟨rfl,h3,hx3⟩
  exact⟨(),rfl,rfl,h3,hx1.trans hx3⟩
 ·refine zvc (by omega) (by omega) ?_
  refine zl (z2w rfl h1 (by omega)) ?_
  rintro e3 w3 ⟨hx3,⟨hl,rfl,h3⟩ | ⟨hl,y,rfl,hC,hy,ho,h3⟩⟩
  ·refine⟨(none,0,0),rfl,?_⟩
   have:txS most (some R0)=([],none):=by simp only [txS,zpc,hn];rw [if_pos (by omega)]
   rw [this]
   refine qw (s:=.str) (strOf []) (zuz uS8 u8 zv4 rfl (L:=[]) (.inl rfl) rfl) ?_
   exact⟨rfl,h3,hx1.trans hx3⟩
  ·refine⟨y,rfl,?_⟩
   have:txS most (some R0)=(R.take n,some (R.drop n)):=by simp only [txS,zpc,hn];rw [if_neg (by omega)]
   rw [this]
   refine qw (s:=.str) (strOf (R.take n)) (zuz uS8 u8 zv4 rfl hC (by rw [hy];simp;omega)) ?_
   exact⟨rfl,h3,hx1.trans hx3⟩
theorem z5y {w:World}{H:Heap}{b:Nat}{F:List Nat}{s:Rest}(hw:w.heap=H) (hI:InW H b F s) :
  zx P zif #[.pointer (some ⟨b,0,none⟩)] w fun e w'=>e=.returned (.bool (decide (s=some [])))/\w'=w:=by
 obtain⟨x,e,h1,h2,h3,h4⟩:=id hI
 refine zqm ?_
 unfold zmk
 refine jc rfl ?_
 simp only [qo,zan]
 refine jh (s:=.int .i64) (t:=e) hw h1 rfl ?_
 cases s with
 | none=>exact zc9 (fun h=>absurd h h4) (fun _=>⟨by simp,trivial⟩)
 | some R=>
  refine jc (by rw [h4.1];rfl) ?_
  refine jh (s:=.slc) (t:=x) hw h1 rfl ?_
  refine⟨?_,trivial⟩
  congr 2
  rw [h4.2.2.1,Bool.eq_iff_iff]
  simp
theorem bIn (x:Option Addr×Nat×Nat) (w:World):(Instr.build zhv #[(0,.slice x.1 x.2.1 x.2.2)]).run P w=.ok (.agg #[zhq x,.int .i64 0]) w:=by kernel_rfl
theorem z5z {w:World}{H:Heap}{a:Option Addr}{n nc:Nat}{L:List UInt8}(hw:w.heap=H) (hL:Cells H a (byteCells L)) (hn:n=L.length) (hl:L.length<=1099511627776) :
  zx P zlw #[.slice a n nc] w fun e w'=>∃ b F,e=.returned (.pointer (some ⟨b,0,none⟩))/\InW w'.heap b F (some L)/\Ext [] H w'.heap/\H.size<=b/\(∀ c∈F,H.size<=c)/\b < w'.heap.size/\∀ c∈F,c < w'.heap.size:=by
 subst hn
 refine zsw ?_
 unfold zo8
 refine zdr (x:=(none,0,0)) (vs:=[]) (B:=H.size) E8 (by omega) uS8 (zbs uS8) hw (.inl ⟨rfl,rfl⟩) (Nat.le_refl _) (Src.slc hw hL (by simp)) zcs (by simp only;omega) ?_
 intro y w1 hm hl1 hx hs
 have hxn:Ext [] H w1.heap:=hx.mono (by simp [zbu])
 refine qw (s:=.any) _ (bIn y _) ?_
 refine jg rfl fun w2 hw2=>?_
 have hx2:Ext [] w1.heap w2.heap:=by rw [hw2];exact .push _
 have hb2:w2.heap[w1.heap.size]?=some (.cells #[zhq y,.int .i64 0] zhv (0,0)):=by rw [hw2];exact zn
 have hylt:∀ c∈zbu y,c < w1.heap.size:=by
  intro c hc
  rcases hm with⟨hx1,_⟩ | ⟨b',c',hx1,_,hb',_⟩
  ·simp [zbu,hx1] at hc
  ·simp [zbu,hx1] at hc
   subst hc
   exact lt_of_get hb'
 have hyl:y.2.1=L.length:=by have:=hm.len;simp at this;omega
 have hs1:=hxn.1
 have hs2:=hx2.1
 refine⟨w1.heap.size,zbu y,rfl,⟨y,0,hb2,fun h=>by have:=hylt _ h;omega,fun c hc=>hc,rfl,?_,hyl,?_,by omega⟩,hxn.trans hx2,by omega,fun c hc=>zak hm c hc,lt_of_get hb2,fun c hc=>by have:=hylt c hc;omega⟩
 ·have:=hm.cells
  rw [List.nil_append] at this
  exact this.ext hx2 (by simp)
 ·rcases hm with⟨hx1,hv⟩ | ⟨_,_,_,_,_,_,_,h,_⟩
  ·rw [hx1];exact Nat.le_refl _
  ·exact h
open Go.Sort
theorem zwl {w:World}{H:Heap}(L:List UInt8) (hw:w.heap=H):zx P ze6 #[.string (strOf L)] w fun e w'=>
  e=.returned (.tuple #[.string (strOf (if (jm L).2=0 then jd (jm L).1 else [])),.int .i64 (jm L).2])/\Ext [] H w'.heap:=by
 refine zqi ?_
 unfold zl6
 refine zl (zj0 L hw) ?_
 rintro e w1 ⟨x,rfl,hm,hx1⟩
 refine⟨(_,_),rfl,?_⟩
 refine zdk (fun h=>?_) (fun h=>?_)
 ·rw [if_neg h];exact⟨rfl,hx1⟩
 ·have hok:=zka L
  refine zl (zg8 rfl hm.cells (show x.2.1=_ by have:=hm.len;rw [jl] at this;omega) (show x.2.1<=x.2.2 from zj8 hm) (by have:=hok.small;omega)) ?_
  rintro e w2 ⟨rfl,hx2⟩
  refine⟨_,rfl,?_⟩
  rw [if_pos h]
  exact⟨by rw [h],hx1.trans hx2⟩
theorem zv5 {w:World}{H:Heap}(L:List UInt8) (hw:w.heap=H) :
  zx P zgj #[.string (strOf L)] w fun e w'=>∃ x,e=.returned (zhq x)/\Mine w'.heap H.size qy 1 x (strRow (jm L).1)/\Ext [] H w'.heap:=by
 refine zqq ?_
 unfold zl9
 refine zl (zj0 L hw) ?_
 rintro e w1 ⟨x,rfl,h⟩
 exact⟨(x,_),rfl,x,rfl,h⟩
theorem z5r (a b:Int) (w:World):(Builtin.max_ #[zai,zai] zai #[.int .i64 a,.int .i64 b]).run P w=.ok (.int .i64 (max a b)) w:=by
 rw [run_max_int2]
 congr 2
 split <;> omega
def upS (L:List UInt8):List UInt8:=jd ((jm L).1.take ((jm L).1.length-1))
theorem zvj {w:World}{H:Heap}(L:List UInt8) (hw:w.heap=H):zx P ze9 #[.string (strOf L)] w fun e w'=>e=.returned (.string (strOf (upS L)))/\Ext [] H w'.heap:=by
 have hok:=zka L
 have hok8:=hok.2
 refine zqj ?_
 unfold zmf
 refine zl (zv5 L hw) ?_
 rintro e w1 ⟨x,rfl,hm,hx1⟩
 refine⟨x,rfl,?_⟩
 have hl:x.2.1=(jm L).1.length:=by have:=hm.len;rw [jl] at this;omega
 refine zuy (by omega) (by omega) ?_
 refine qw (s:=.int .i64) _ (z5r _ _ _) ?_
 obtain⟨a',hcut,hLc⟩:=zrk (l:=x.2.1) (i:=(jm L).1.length-1) (n:=max ((x.2.1:Int)-1) 0) zi4 zql hm.cells (zj8 hm) (by omega) (by omega)
 rw [Nat.mul_one,zcn] at hLc
 refine qw (s:=.slc) (a',(jm L).1.length-1,x.2.2) (hcut _) ?_
 refine zl (zg8 rfl hLc (by rw [List.length_take,Nat.min_eq_left (by omega)]) (show (jm L).1.length-1<=x.2.2 by have:=zj8 hm;omega) (by have:=(hok.take ((jm L).1.length-1)).small;omega)) ?_
 rintro e w2 ⟨rfl,hx2⟩
 exact⟨_,rfl,rfl,hx1.trans hx2⟩
theorem z2u {H:Heap}{B sz:Nat}{T:TypeId}{x:Option Addr×Nat×Nat}{α:Type}{enc:α->List Value}(hk:∀ v,(enc v).length=sz) (h0:0 < sz){xs:List α}{v:α}{i:Nat}(hM:Mine H B T sz x (xs.flatMap enc)) (hi:xs[i]?=some v) :
  ∃ b c,x.1=some ⟨b,0,none⟩/\B<=b/\H[b]?=some (.cells c T (0,0))/\x.2.1=xs.length/\∀ j,j < sz->c[0+i * sz+j]?=(enc v)[j]?:=by
 have hlt:=(List.getElem?_eq_some_iff.1 hi).1
 rcases hM with⟨_,h⟩ | ⟨b,c,hx,hB,hb,hc,hl,hle,he⟩
 ·have:=congrArg List.length h
  rw [ji enc hk,List.length_nil] at this
  rcases Nat.mul_eq_zero.1 this <;> omega
 ·rw [ji enc hk] at hl he
  have hl':xs.length=x.2.1:=Nat.eq_of_mul_eq_mul_right h0 hl
  refine⟨b,c,hx,hB,hb,hl'.symm,fun j hj=>?_⟩
  have hm:i * sz+sz<=xs.length * sz:=by
   have:=Nat.mul_le_mul_right sz (show i+1<=xs.length by omega)
   rw [Nat.add_mul] at this;omega
  have h2:(xs.flatMap enc)[i * sz+j]?=(enc v)[j]?:=by
   rw [getElem_flatMap enc hk h0,show (i * sz+j) / sz=i by rw [Nat.mul_comm,Nat.mul_add_div h0,Nat.div_eq_of_lt hj];rfl,show (i * sz+j) % sz=j by rw [Nat.mul_comm,Nat.mul_add_mod,Nat.mod_eq_of_lt hj],hi]
   rfl
  rw [<-h2,<-he,Array.getElem?_toList,Array.getElem?_extract,if_pos (by
   have:xs.length * sz<=c.size:=by rw [hc,hl'];exact Nat.mul_le_mul_right _ hle
   omega)]
  congr 1;omega
theorem zol {α:Type}{c:Array α}{k:Nat}{v:α}(h:c[k]?=some v):c.setIfInBounds k v=c:=by
 apply Array.ext_getElem?
 intro i
 rw [Array.getElem?_setIfInBounds]
 by_cases hi:k=i
 ·subst hi
  have:=(Array.getElem?_eq_some_iff.1 h).1
  rw [if_pos rfl,if_pos this,h]
 ·rw [if_neg hi]
theorem z0s {w:World}{H:Heap}{B:Nat}{x:Option Addr×Nat×Nat}{S:List Fil}(hw:w.heap=H) (hm:Mine H B qj 3 x (S.flatMap zg5)) (hp:S.length<=1000000) :
  zx P zar #[.slice x.1 x.2.1 x.2.2] w fun e w'=>∃ x',e=.returned (zhq x')/\Mine w'.heap H.size qj 3 x' (S.flatMap zg5)/\Ext [] H w'.heap:=by
 have hl:x.2.1=S.length:=by have:=hm.len;rw [z3m] at this;omega
 have hC:=hm.cells
 refine zef ?_
 unfold zbw
 by_cases h:x.1.isNone=true
 ·have hx0:x.1=none:=by simpa using h
  refine jc h ?_
  rcases hm with⟨_,h2⟩ | ⟨_,_,h2,_⟩
  ·exact⟨(none,0,0),rfl,.inl ⟨rfl,h2⟩,by rw [hw];exact .refl _ _⟩
  ·rw [hx0] at h2;cases h2
 ·refine qg (by cases hh:x.1 with
   | none=>rw [hh] at h;exact absurd rfl h
   | some v=>rfl) ?_
  refine qao hw fun w1 hx1 hm1=>?_
  refine z9o (xs:=[]) (ys:=S) rfl hm1 hx1.1 (hC.ext hx1 (by simp)) hl (by simp;omega) fun x' w2 hm2 hx2=>?_
  exact⟨x',rfl,hm2,hx1.own hx2 (fun c hc hlt=>by simp [zbu] at hc;omega)⟩
structure FineF (f:Fil):Prop where
 code:(jm f.path).2=0
 show':jd (nm f)=f.path
 dir:f.dir=true->f.data=[]
 small:f.data.length<=1024
set_option maxHeartbeats 4000000 in
theorem z0p {w:World}{H:Heap}{B:Nat}{x:Option Addr×Nat×Nat}{S:List Fil}(hw:w.heap=H) (hm:Mine H B qj 3 x (S.flatMap zg5)) (hp:S.length<=1000000) (hS:∀ f∈S,FineF f) :
  zx P zh6 #[.slice x.1 x.2.1 x.2.2] w fun e w'=>∃ y,e=.returned (.tuple #[zhq y,.int .i64 0])/\Mine w'.heap H.size qj 3 y (S.flatMap zg5)/\Ext [] H w'.heap:=by
 refine zqy ?_
 unfold zmx
 refine zl (z0s hw hm hp) ?_
 rintro e w1 ⟨y,rfl,hY,hx1⟩
 refine⟨y,rfl,?_⟩
 have hyl:y.2.1=S.length:=by have:=hY.len;rw [z3m] at this;omega
 refine za3 (fun k (s:Bool×Bool×Int) W=>∃ i:Nat,s=(false,false,(i:Int))/\k+i=S.length/\Ext [] w1.heap W.heap) S.length ⟨0,rfl,rfl,.refl _ _⟩ ?_
 rintro k s W ⟨i,rfl,hk,hxW⟩ Q hQ
 have hYW:=hY.ext hxW (by simp)
 refine qm (fun h=>?_) (fun h=>?_)
 ·have hi:i < S.length:=by simp only at h;omega
  obtain⟨f,hf⟩:∃ f,f=S[i]:=⟨_,rfl⟩
  have hfi:S[i]?=some f:=by rw [hf];exact List.getElem?_eq_getElem hi
  have hff:=hS f (by rw [hf];exact List.getElem_mem hi)
  obtain⟨b,c,hxb,hBb,hb,hlen,hat⟩:=z2u zkh (by omega) hYW hfi
  have h0:=hat 0 (by omega)
  have h1:=hat 1 (by omega)
  have h2:=hat 2 (by omega)
  simp only [Nat.add_zero,zg5,List.getElem?_cons_zero,List.getElem?_cons_succ] at h0 h1 h2
  have ix:∀ {K:Addr->Prop},K ⟨b,0+i * 3,none⟩->ixS y.1 y.2.1 3 (i:Int) K:=by
   intro K hK
   rw [hxb]
   exact z0f i rfl (by omega) hK
  refine ku (fun s' W'=>s'=(false,false)/\Ext [] w1.heap W'.heap) ?_ ?_
  ·refine ix ?_
   refine jh (s:=.str) (t:=strOf f.path) rfl hb h0 ?_
   refine zl (zwl f.path rfl) ?_
   rintro e w3 ⟨rfl,hx3⟩
   rw [hff.code,if_pos rfl]
   refine⟨(_,_),rfl,?_⟩
   refine qg rfl ?_
   refine ix ?_
   have hb3:=hx3.get hb (by simp)
   have hsz:=(Array.getElem?_eq_some_iff.1 h0).1
   refine zdj rfl hb3 hsz fun w4 hw4=>?_
   have hsh:jd (jm f.path).1=f.path:=hff.show'
   have hw43:w4.heap=w3.heap:=by rw [hw4];show w3.heap.setIfInBounds b (.cells (c.setIfInBounds (0+i * 3) (.string (strOf (jd (jm f.path).1)))) qj (0,0))=_;rw [hsh,zol h0,zol hb3]
   have hb4:w4.heap[b]?=some (.cells c qj (0,0)):=by rw [hw43];exact hb3
   have hx4:Ext [] w1.heap w4.heap:=by rw [hw43];exact hxW.trans hx3
   have hbig:decide (((strOf f.data).size:Int) > 1024)=false:=decide_eq_false (by have:=hff.small;rw [zad];omega)
   refine ku (fun s' W'=>s'=false/\W'=w4) ?_ ?_
   ·refine qg rfl ?_
    refine ix ?_
    simp only [Addr.add,Option.map_none]
    refine jh (s:=.bool) (t:=f.dir) rfl hb4 h1 ?_
    refine za8 (p:=f.dir=true) Iff.rfl (fun hd=>?_) (fun hd=>⟨trivial,trivial⟩)
    refine ix ?_
    refine jh (s:=.str) (t:=strOf f.data) rfl hb4 h2 ⟨?_,trivial⟩
    rw [Bool.not_eq_false',zj1];exact hff.dir hd
   ·rintro s' W' ⟨rfl,rfl⟩
    refine qg rfl ?_
    refine ix ?_
    simp only [Addr.add,Option.map_none]
    refine jh (s:=.str) (t:=strOf f.data) rfl hb4 h2 ⟨?_,hx4⟩
    rw [hbig]
  ·rintro s' W' ⟨rfl,hx'⟩
   refine zas ((i+1:Nat):Int) (by show (i:Int)+1=_;omega) (by omega) (by omega) ?_
   exact hQ (k-1) _ _ (by omega) ⟨i+1,rfl,by omega,hx'⟩
 ·refine qg rfl (qg rfl ?_)
  exact⟨y,rfl,hYW,hx1.trans hxW⟩
def thC (f:Fil):List Value:=[.bool f.dir,.string (strOf f.data)]
def zlz (f:Fil):Value:=.agg (thC f).toArray
def zx7 (H:Heap) (m:Nat) (Th:List Fil):Prop:=∃ (M:ML (List UInt8) Fil) (c:Nat),H[m]?=some (.map (ents keyS (vl zlz M)) c)/\MOk (fun _=>True) M c/\(M.map (·.2.1)).Perm Th/\∀ x∈M,x.1=x.2.1.path
def FsW (H:Heap) (b m:Nat) (Th:List Fil):Prop:=H[b]?=some (.cells #[.map (some m)] zkg (0,0))/\zx7 H m Th
theorem zx7.ext {H H':Heap}{m:Nat}{Th:List Fil}{fp:List Nat}(h:zx7 H m Th) (hx:Ext fp H H') (hm:m∉fp):zx7 H' m Th:=by
 obtain⟨M,c,h1,h2⟩:=h
 exact⟨M,c,hx.get h1 hm,h2⟩
theorem FsW.ext {H H':Heap}{b m:Nat}{Th:List Fil}(h:FsW H b m Th) (hx:Ext [] H H'):FsW H' b m Th:=⟨hx.get h.1 (by simp),h.2.ext hx (by simp)⟩
theorem uTh:P.underlying zo=some (.map qy zi):=by kernel_rfl
theorem zTh (w:World):(zeroValue zi).run P w=.ok (zlz zh5) w:=by kernel_rfl
theorem zz9:zc P zi=(thC zh5).toArray:=by kernel_rfl
theorem z9n:P.cellsOf zi=2:=by kernel_rfl
theorem z6h {f:Fil}:zbf (thC f):=by
 intro v hv
 simp only [thC,List.mem_cons,List.not_mem_nil,or_false] at hv
 rcases hv with rfl | rfl <;> rfl
theorem z0k {w:World}{H:Heap}{m:Nat}{Th:List Fil}(hw:w.heap=H) (hm:zx7 H m Th) (p:List UInt8) :
  (Instr.lookup zo (.map (some m)) (.string (strOf p)) true).run P w=.ok (.tuple #[zlz ((zlj Th p).getD zh5),.bool (zlj Th p).isSome]) w:=by
 obtain⟨M,c,h1,h2,h3,h4⟩:=hm
 have:=zom (ev:=zlz) z3p uTh zTh hw h1 h2 (k:=p) trivial
 rw [zma h2 h3 h4 p] at this
 rw [show (Value.string (strOf p))=keyS p from rfl,this]
 cases zlj Th p <;> rfl
theorem zz8 {w:World}{H:Heap}{b:Nat}{c:Array Value}(f:Fil){K:World->Prop}(hw:w.heap=H) (hb:H[b]?=some (.cells c zi (0,0))) (hc:c.size=2) (hK:∀ w',w'.heap=H.setIfInBounds b (.cells (thC f).toArray zi (0,0))->K w') :
  jy P (storeVar zi (⟨b,0,none⟩:Addr) (zlz f)) w K:=by
 refine zb0 (v:=zlz f) (by rw [z9n];rfl) (by simp [Value.cells,zlz,thC]) (by simpa [Value.cells,zlz] using z6h) hw hb (by simp [Value.cells,zlz,thC,hc]) fun w' hw'=>hK w' ?_
 rw [hw',show (zlz f).cells.toList=thC f from rfl,zb3 (by rw [hc];rfl)]
theorem zzl {w:World}{H:Heap}{m:Nat}{Th:List Fil}{f:Fil}(hw:w.heap=H) (hm:zx7 H m Th) (hf:zlj Th f.path=none){K:World->Prop}(hK:∀ w',zx7 w'.heap m (Th++[f])->Ext [m] H w'.heap->K w') :
  jy P (Instr.mapUpdate zo (.map (some m)) (.string (strOf f.path)) (zlz f)) w K:=by
 obtain⟨M,c,h1,h2,h3,h4⟩:=hm
 have hg:zi9 M f.path=none:=by rw [zma h2 h3 h4];exact hf
 refine zzg _ (zwf (ev:=zlz) z3p uTh hw h1 h2 (k:=f.path) trivial f rfl) ?_
 refine hK _ ⟨zxm M f.path f c,zxv M f.path c,?_,h2.upd trivial f,?_,?_⟩ (Ext.set _ (by simp))
 ·exact xk h1
 ·rw [zjg hg,List.map_append];exact h3.append_right _
 ·intro x hx
  rcases z3q hx with⟨h5,h6⟩ | ⟨_,h6⟩
  ·rw [h5,h6]
  ·exact h4 x h6
theorem z97 (w:World):(Instr.build zi #[(0,.bool true)]).run P w=.ok (zlz ⟨[47],true,[]⟩) w:=by kernel_rfl
theorem z90 (b:Bool) (d:ByteArray) (w:World):(Instr.build zi #[(0,.bool b),(1,.string d)]).run P w=.ok (.agg #[.bool b,.string d]) w:=by kernel_rfl
theorem bFS (m:Option Nat) (w:World):(Instr.build zkg #[(0,.map m)]).run P w=.ok (.agg #[.map m]) w:=by kernel_rfl
def zh4:Fil:=⟨[47],true,[]⟩
theorem zyx {Th:List Fil}{p:List UInt8}(h:∀ f∈Th,f.path≠p):zlj Th p=none:=List.find?_eq_none.2 fun f hf=>by simpa using h f hf
structure TreeF (S:List Fil):Prop where
 fine:∀ f∈S,FineF f
 nodup:(S.map (·.path)).Nodup
 root:∀ f∈S,f.path≠[47]
 above:∀ f∈S,∃ g,zlj (zh4 :: S) (upS f.path)=some g/\g.dir=true
set_option maxHeartbeats 8000000 in
theorem z6d {w:World}{H:Heap}{B:Nat}{x:Option Addr×Nat×Nat}{S:List Fil}(hw:w.heap=H) (hm:Mine H B qj 3 x (S.flatMap zg5)) (hp:S.length<=1000000) (hS:TreeF S) :
  zx P zlx #[.slice x.1 x.2.1 x.2.2] w fun e w'=>∃ b m,e=.returned (.tuple #[.pointer (some ⟨b,0,none⟩),.int .i64 0])/\FsW w'.heap b m (zh4 :: S)/\Ext [] H w'.heap/\H.size<=b/\H.size<=m:=by
 refine zua ?_
 unfold zoz
 refine zl (z0p hw hm hp hS.fine) ?_
 rintro e w1 ⟨y,rfl,hY,hx1⟩
 refine⟨(y,_),rfl,?_⟩
 have hyl:y.2.1=S.length:=by have:=hY.len;rw [z3m] at this;omega
 refine qg rfl ?_
 refine zbg (s:=.map) (some w1.heap.size) _ (zpa rfl) ?_
 obtain⟨m,hmd⟩:∃ m,m=w1.heap.size:=⟨_,rfl⟩
 rw [<-hmd]
 refine qw (s:=.any) _ (z97 _) ?_
 refine zzl (H:=w1.heap.push (.map #[] 0)) (Th:=[]) (f:=zh4) rfl ⟨[],0,by rw [hmd];exact zn,.nil,.nil,by simp⟩ rfl fun w3 hM3 hx3=>?_
 refine qw (s:=.any) _ (bFS _ _) ?_
 refine jg rfl fun w4 hw4=>?_
 obtain⟨b,hbd⟩:∃ b,b=w3.heap.size:=⟨_,rfl⟩
 rw [<-hbd]
 have hx13:Ext [] w1.heap w3.heap:=(Ext.push _).own hx3 (fun c hc hlt=>by simp at hc;omega)
 have hx34:Ext [] w3.heap w4.heap:=by rw [hw4];exact .push _
 have hF4:FsW w4.heap b m [zh4]:=⟨by rw [hw4,hbd];exact zn,hM3.ext hx34 (by simp)⟩
 have hms:H.size<=m:=by rw [hmd];exact hx1.1
 have hbs:m < b:=by have:=hx3.1;simp at this;omega
 have hx14:=hx13.trans hx34
 refine za3 (fun k s W=>∃ i:Nat,s=(i:Int)/\k+i=S.length/\FsW W.heap b m (zh4 :: S.take i)/\Ext [] w1.heap W.heap) S.length ⟨0,rfl,rfl,by simpa using hF4,hx14⟩ ?_
 rintro k s W ⟨i,rfl,hk,hFW,hxW⟩ Q hQ
 have hYW:=hY.ext hxW (by simp)
 refine qm (fun h=>?_) (fun h=>?_)
 ·have hi:i < S.length:=by simp only at h;omega
  obtain⟨f,hf⟩:∃ f,f=S[i]:=⟨_,rfl⟩
  have hfi:S[i]?=some f:=by rw [hf];exact List.getElem?_eq_getElem hi
  have hfS:f∈S:=by rw [hf];exact List.getElem_mem hi
  have hno:zlj (zh4 :: S.take i) f.path=none:=by
   refine zyx fun g hg=>?_
   rcases List.mem_cons.1 hg with rfl | hg
   ·exact fun e=>hS.root f hfS e.symm
   ·intro e
    obtain⟨j,hj,hgj⟩:=List.mem_iff_getElem.1 hg
    rw [List.length_take] at hj
    rw [List.getElem_take] at hgj
    have hn:=hS.nodup
    rw [List.Nodup,List.pairwise_iff_getElem] at hn
    have:=hn j i (by simp;omega) (by simpa using hi) (by omega)
    simp only [List.getElem_map,hgj,<-hf] at this
    exact this e
  refine zur (enc:=zg5) zkh (by omega) rfl hYW.cells hyl hfi rfl ?_
  refine z6t f rfl fun w7 hw7=>?_
  have hx7:Ext [] W.heap w7.heap:=by rw [hw7];exact .push _
  refine zaj rfl fun w8 hw8=>?_
  have h7:w8.heap[W.heap.size]?=some (.cells (zg5 f).toArray qj (0,0)):=by rw [hw8,hw7];exact zn
  have hx8:Ext [] W.heap w8.heap:=by rw [hw8];exact hx7
  have hF8:=hFW.ext hx8
  refine jh (s:=.map) (t:=some m) rfl hF8.1 rfl ?_
  refine jh (s:=.str) (t:=strOf f.path) rfl h7 rfl ?_
  have hlk:=fun {w:World}{H:Heap}(hw:w.heap=H) (hm:zx7 H m (zh4 :: S.take i))=>z0k hw hm f.path
  rw [hno] at hlk
  refine zb4 (l:=[.any,.bool]) (zlz zh5,false) (hlk rfl hF8.2) ?_
  refine jg rfl fun w9 hw9=>?_
  have hx9:Ext [] w8.heap w9.heap:=by rw [hw9];exact .push _
  have h8:w9.heap[w8.heap.size]?=some (.cells (thC zh5).toArray zi (0,0)):=by rw [hw9,zz9];exact zn
  have hF9:=hF8.ext hx9
  have h79:=hx9.get h7 (by simp)
  refine⟨zb4 (l:=[.any,.bool]) (zlz zh5,false) (hlk rfl hF9.2) rfl,jh (s:=.str) (t:=strOf f.path) rfl h79 rfl rfl,jh (s:=.map) (t:=some m) rfl hF9.1 rfl rfl,?_⟩
  refine zz8 zh5 rfl h8 rfl fun w10 hw10=>?_
  have hx10:Ext [] w8.heap w10.heap:=by rw [hw10];exact hx9.set_own (.inl (Nat.le_refl _))
  refine qg rfl ?_
  refine zaj rfl fun w11 hw11=>?_
  have hx11:Ext [] w8.heap w11.heap:=by rw [hw11];exact hx10
  have hF11:=hF8.ext hx11
  have h711:=hx11.get h7 (by simp)
  refine jh (s:=.map) (t:=some m) rfl hF11.1 rfl ?_
  refine jh (s:=.str) (t:=strOf f.path) rfl h711 rfl ?_
  refine jh (s:=.bool) (t:=f.dir) rfl h711 rfl ?_
  refine jh (s:=.str) (t:=strOf f.data) rfl h711 rfl ?_
  refine qw (s:=.any) _ (z90 _ _ _) ?_
  refine zzl (f:=f) rfl hF11.2 hno fun w12 hM12 hx12=>?_
  refine zas ((i+1:Nat):Int) (by omega) (by omega) (by omega) ?_
  refine hQ (k-1) _ _ (by omega) ⟨i+1,rfl,by omega,⟨hx12.get hF11.1 (by simp;omega),?_⟩,(hxW.trans (hx8.trans hx11)).own hx12 (fun c hc hlt=>by simp at hc;omega)⟩
  rw [List.take_add_one,hfi]
  exact hM12
 ·have hi:i=S.length:=by simp only at h;omega
  subst hi
  rw [List.take_length] at hFW
  refine za3 (fun k s W=>∃ i:Nat,s=(false,(i:Int))/\k+i=S.length/\FsW W.heap b m (zh4 :: S)/\Ext [] w1.heap W.heap) S.length ⟨0,rfl,rfl,hFW,hxW⟩ ?_
  rintro k2 s2 W2 ⟨j,rfl,hk2,hF2,hxW2⟩ Q2 hQ2
  have hY2:=hY.ext hxW2 (by simp)
  refine qm (fun h2=>?_) (fun h2=>?_)
  ·have hj:j < S.length:=by simp only at h2;omega
   obtain⟨f,hf⟩:∃ f,f=S[j]:=⟨_,rfl⟩
   have hfj:S[j]?=some f:=by rw [hf];exact List.getElem?_eq_getElem hj
   have hfS:f∈S:=by rw [hf];exact List.getElem_mem hj
   obtain⟨g,hg,hgd⟩:=hS.above f hfS
   have hlk:=fun {w:World}{H:Heap}(hw:w.heap=H) (hm:zx7 H m (zh4 :: S))=>z0k hw hm (upS f.path)
   rw [hg] at hlk
   refine ku (fun s' W'=>s'=false/\FsW W'.heap b m (zh4 :: S)/\Ext [] w1.heap W'.heap) ?_ ?_
   ·refine zur (enc:=zg5) zkh (by omega) rfl hY2.cells hyl hfj rfl ?_
    refine z6t f rfl fun w7 hw7=>?_
    have hx7:Ext [] W2.heap w7.heap:=by rw [hw7];exact .push _
    refine zaj rfl fun w8 hw8=>?_
    have h7:w8.heap[W2.heap.size]?=some (.cells (zg5 f).toArray qj (0,0)):=by rw [hw8,hw7];exact zn
    have hx8:Ext [] W2.heap w8.heap:=by rw [hw8];exact hx7
    have hF8:=hF2.ext hx8
    refine jh (s:=.map) (t:=some m) rfl hF8.1 rfl ?_
    refine jh (s:=.str) (t:=strOf f.path) rfl h7 rfl ?_
    refine⟨?_,?_⟩
    ·refine zl (zvj f.path rfl) ?_
     rintro e w9 ⟨rfl,hx9⟩
     refine⟨_,rfl,?_⟩
     have hF9:=hF8.ext hx9
     refine⟨jh (s:=.map) (t:=some m) rfl hF9.1 rfl rfl,?_⟩
     refine zb4 (l:=[.any,.bool]) (zlz g,true) (hlk rfl hF9.2) ?_
     refine jg rfl fun w10 hw10=>?_
     have hx10:Ext [] w9.heap w10.heap:=by rw [hw10];exact .push _
     have h8:w10.heap[w9.heap.size]?=some (.cells (thC zh5).toArray zi (0,0)):=by rw [hw10,zz9];exact zn
     have hF10:=hF9.ext hx10
     refine⟨zb4 (l:=[.any,.bool]) (zlz g,true) (hlk rfl hF10.2) rfl,jh (s:=.str) (t:=strOf f.path) rfl ((hx9.trans hx10).get h7 (by simp)) rfl rfl,jh (s:=.map) (t:=some m) rfl hF10.1 rfl rfl,?_⟩
     refine zz8 g rfl h8 rfl fun w11 hw11=>?_
     have hx11:Ext [] w9.heap w11.heap:=by rw [hw11];exact hx10.set_own (.inl (Nat.le_refl _))
     refine qg rfl (qg rfl ?_)
     refine jh (s:=.bool) (t:=g.dir) rfl (by rw [hw11];exact xk h8) rfl ?_
     exact⟨by rw [hgd];rfl,hF9.ext hx11,hxW2.trans (hx8.trans (hx9.trans hx11))⟩
    ·refine jg rfl fun w10 hw10=>?_
     have hx10:Ext [] w8.heap w10.heap:=by rw [hw10];exact .push _
     have h8:w10.heap[w8.heap.size]?=some (.cells (thC zh5).toArray zi (0,0)):=by rw [hw10,zz9];exact zn
     have hF10:=hF8.ext hx10
     refine⟨jh (s:=.str) (t:=strOf f.path) rfl (hx10.get h7 (by simp)) rfl rfl,jh (s:=.map) (t:=some m) rfl hF10.1 rfl rfl,?_⟩
     refine zl (zvj f.path rfl) ?_
     rintro e w9 ⟨rfl,hx9⟩
     refine⟨_,rfl,?_⟩
     have hF9:=hF10.ext hx9
     refine⟨jh (s:=.map) (t:=some m) rfl hF9.1 rfl rfl,?_⟩
     refine zb4 (l:=[.any,.bool]) (zlz g,true) (hlk rfl hF9.2) ?_
     have h89:=hx9.get h8 (by simp)
     refine zz8 g rfl h89 rfl fun w11 hw11=>?_
     have hx11:Ext [] w8.heap w11.heap:=by rw [hw11];exact (hx10.trans hx9).set_own (.inl (Nat.le_refl _))
     refine qg rfl (qg rfl ?_)
     refine jh (s:=.bool) (t:=g.dir) rfl (by rw [hw11];exact xk h89) rfl ?_
     exact⟨by rw [hgd];rfl,hF8.ext hx11,hxW2.trans (hx8.trans hx11)⟩
   ·rintro s' W' ⟨rfl,h1,h2⟩
    refine zas ((j+1:Nat):Int) (by show (j:Int)+1=_;omega) (by omega) (by omega) ?_
    exact hQ2 (k2-1) _ _ (by omega) ⟨j+1,rfl,by omega,h1,h2⟩
  ·refine qg rfl ?_
   exact⟨b,m,rfl,hF2,hx1.trans hxW2,by omega,hms⟩
def lookA (Th:List Fil) (q:Path):Nat->Fil×Int
 | 0=>((zlj Th (jd q)).getD zh5,0)
 | k+1=>if (zlj Th (jd (q.take (q.length-(k+1))))).isSome=true/\((zlj Th (jd (q.take (q.length-(k+1))))).getD zh5).dir=false then (zh5,70)
  else if (zlj Th (jd (q.take (q.length-k)))).isSome=false then (zh5,4) else lookA Th q k
theorem z8m (w:World):(Instr.build zi #[]).run P w=.ok (zlz zh5) w:=by kernel_rfl
def z2m (f:Option Addr) (b4:Nat) (t:Option Addr×Nat×Nat) (s:Int) (k_2:Unit->World->Prop) (R:Ending->World->Prop) (w_9:World):Prop:=
  zbz w_9 fun w_10=>
  zq f fun p_1=>
  zfl .i64 s 1 fun t45=>
  ld .map p_1 w_10 fun (t42:(Option Nat))=>
  jv P (Instr.sliceAt zu (Value.slice t.1 t.2.1 t.2.2) none (some (Value.int .i64 t45)) none) .slc w_10 fun (t46:(Option Addr×Nat×Nat))=>
  ((qc P jr #[(Value.slice t46.1 t46.2.1 t46.2.2)] [.str] false w_10 fun (t47:ByteArray) w_11=>
  ((ld .map p_1 w_11 fun (t42_1:(Option Nat))=>
  (Value.map t42_1)=(Value.map t42)) /\
  zlt P (Instr.lookup zo (Value.map t42) (Value.string t47) true) [.any,.bool] w_11 fun (t48:(Value×Bool))=>
  zam (zc P zi) zi w_11 fun b10 w_12=>
  ((zlt P (Instr.lookup zo (Value.map t42) (Value.string t47) true) [.any,.bool] w_12 fun (t48_1:(Value×Bool))=>
  (Value.tuple #[t48_1.1,(Value.bool t48_1.2)])=(Value.tuple #[t48.1,(Value.bool t48.2)])) /\
  ((jv P (Instr.sliceAt zu (Value.slice t.1 t.2.1 t.2.2) none (some (Value.int .i64 t45)) none) .slc w_12 fun (t46_1:(Option Addr×Nat×Nat))=>
  (Value.slice t46_1.1 t46_1.2.1 t46_1.2.2)=(Value.slice t46.1 t46.2.1 t46.2.2)) /\
  ((ld .map p_1 w_12 fun (t42_2:(Option Nat))=>
  (Value.map t42_2)=(Value.map t42)) /\
  jy P (storeVar zi (⟨b10,0,none⟩:Addr) t48.1) w_12 fun w_13=>
  qx (!t48.2) (
  jv P (Instr.build zi #[]) .any w_13 fun (t53:Value)=>
  jy P (storeVar zi (⟨b4,0,none⟩:Addr) t53) w_13 fun w_14=>
  ldA P 2 (⟨b4,0,none⟩:Addr) w_14 fun t4_1=>
  R (.returned (Value.tuple #[(Value.agg t4_1),(Value.int .i64 4)])) w_14) (
  k_2 () w_13)))))) /\
  (zam (zc P zi) zi w_10 fun b10_1 w_15=>
  ((jv P (Instr.sliceAt zu (Value.slice t.1 t.2.1 t.2.2) none (some (Value.int .i64 t45)) none) .slc w_15 fun (t46_2:(Option Addr×Nat×Nat))=>
  (Value.slice t46_2.1 t46_2.2.1 t46_2.2.2)=(Value.slice t46.1 t46.2.1 t46.2.2)) /\
  ((ld .map p_1 w_15 fun (t42_3:(Option Nat))=>
  (Value.map t42_3)=(Value.map t42)) /\
  qc P jr #[(Value.slice t46.1 t46.2.1 t46.2.2)] [.str] false w_15 fun (t47_1:ByteArray) w_16=>
  ((ld .map p_1 w_16 fun (t42_4:(Option Nat))=>
  (Value.map t42_4)=(Value.map t42)) /\
  zlt P (Instr.lookup zo (Value.map t42) (Value.string t47_1) true) [.any,.bool] w_16 fun (t48_2:(Value×Bool))=>
  jy P (storeVar zi (⟨b10_1,0,none⟩:Addr) t48_2.1) w_16 fun w_17=>
  qx (!t48_2.2) (
  jv P (Instr.build zi #[]) .any w_17 fun (t53_1:Value)=>
  jy P (storeVar zi (⟨b4,0,none⟩:Addr) t53_1) w_17 fun w_18=>
  ldA P 2 (⟨b4,0,none⟩:Addr) w_18 fun t4_2=>
  R (.returned (Value.tuple #[(Value.agg t4_2),(Value.int .i64 4)])) w_18) (
  k_2 () w_17))))))
theorem z4t {w:World}{H:Heap}{m:Nat}{Th:List Fil}(hw:w.heap=H) (hm:zx7 H m Th) (p:List UInt8) :
  (Instr.lookup zo (.map (some m)) (.string (strOf p)) false).run P w=.ok (zlz ((zlj Th p).getD zh5)) w:=by
 obtain⟨M,c,h1,h2,h3,h4⟩:=hm
 have:=zz7 (ev:=zlz) z3p uTh zTh hw h1 h2 (k:=p) trivial
 rw [zma h2 h3 h4 p] at this
 rw [show (Value.string (strOf p))=keyS p from rfl,this]
 cases zlj Th p <;> rfl
set_option maxHeartbeats 8000000 in
theorem z2t {w:World}{H:Heap}{b m:Nat}{Th:List Fil}{q:Path}(hw:w.heap=H) (hF:FsW H b m Th) (hq:okP q) :
  zx P zgt #[.pointer (some ⟨b,0,none⟩),.string (strOf (jd q))] w fun e w'=>e=.returned (.tuple #[zlz (lookA Th q q.length).1,.int .i64 (lookA Th q q.length).2])/\Ext [] H w'.heap:=by
 have hq8:=hq.2
 refine zof ?_
 unfold zjw
 refine jg hw fun w1 hw1=>?_
 have hx1:Ext [] H w1.heap:=by rw [hw1];exact .push _
 have h4:w1.heap[H.size]?=some (.cells (thC zh5).toArray zi (0,0)):=by rw [hw1,zz9];exact zn
 refine zl (zv5 (jd q) rfl) ?_
 rintro e w2 ⟨t,rfl,hT,hx2⟩
 refine⟨t,rfl,?_⟩
 replace hT:Mine w2.heap w1.heap.size qy 1 t (strRow q):=by rw [zbe hq] at hT;exact hT
 have htl:t.2.1=q.length:=by have:=hT.len;rw [jl] at this;omega
 have htc:=zj8 hT
 have hx02:=hx1.trans hx2
 obtain⟨Res,hRes⟩:∃ Res,Res=lookA Th q q.length:=⟨_,rfl⟩
 rw [<-hRes]
 have fin:∀ {W:World}(g:Fil) (o:Int),Res=(g,o)->Ext [] H W.heap->W.heap[H.size]?=some (.cells (thC zh5).toArray zi (0,0)) ->
   jy P (storeVar zi (⟨H.size,0,none⟩:Addr) (zlz g)) W fun w_8=>ldA P 2 (⟨H.size,0,none⟩:Addr) w_8 fun t4=>Ending.returned (.tuple #[.agg t4,.int .i64 o])=.returned (.tuple #[zlz Res.1,.int .i64 Res.2])/\Ext [] H w_8.heap:=by
  intro W g o hr hx h4
  refine zz8 g rfl h4 rfl fun w8 hw8=>?_
  refine xw rfl (by rw [hw8];exact xk h4) rfl ?_
  rw [hr]
  exact⟨rfl,by rw [hw8];exact hx.set_own (.inl (Nat.le_refl _))⟩
 refine za3 (fun k s W=>∃ i:Nat,s=(i:Int)/\k+i=q.length/\lookA Th q k=Res/\Ext [] w2.heap W.heap) q.length ⟨0,rfl,rfl,hRes.symm,.refl _ _⟩ ?_
 rintro k s W ⟨i,rfl,hk,he,hxW⟩ Q hQ
 have base:∀ {W':World},Ext [] w2.heap W'.heap->Ext [] H W'.heap/\FsW W'.heap b m Th/\W'.heap[H.size]?=some (.cells (thC zh5).toArray zi (0,0))/\Cells W'.heap t.1 (strRow q):=fun hx=>
  ⟨hx02.trans hx,hF.ext (hx02.trans hx),hx.get (hx2.get h4 (by simp)) (by simp),(hT.ext hx (by simp)).cells⟩
 have look:∀ {w:World}{H:Heap}(p:List UInt8),w.heap=H->zx7 H m Th->(Instr.lookup zo (.map (some m)) (.string (strOf p)) true).run P w=.ok (.tuple (Tup.vals [Sh.any,Sh.bool] (zlz ((zlj Th p).getD zh5),(zlj Th p).isSome)).toArray) w:=fun p hw hm=>z0k hw hm p
 refine qm (fun h=>?_) (fun h=>?_)
 ·obtain⟨k,rfl⟩:∃ k',k=k'+1:=⟨k-1,by omega⟩
  have e1:q.length-(k+1)=i:=by omega
  have e2:q.length-k=i+1:=by omega
  unfold lookA at he
  rw [e1,e2] at he
  obtain⟨o1,ho1⟩:∃ o,o=zlj Th (jd (q.take i)):=⟨_,rfl⟩
  obtain⟨o2,ho2⟩:∃ o,o=zlj Th (jd (q.take (i+1))):=⟨_,rfl⟩
  rw [<-ho1,<-ho2] at he
  refine ku (fun _ W'=>lookA Th q k=Res/\Ext [] w2.heap W'.heap) ?_ ?_
  rotate_left
  ·rintro _ W' ⟨h1,h2⟩
   refine zas ((i+1:Nat):Int) (by omega) (by omega) (by omega) ?_
   exact hQ k _ _ (by omega) ⟨i+1,rfl,by omega,h1,h2⟩
  refine x9 ?_
  have rest:∀ {W':World},¬(o1.isSome=true/\(o1.getD zh5).dir=false)->Ext [] w2.heap W'.heap->z2m (some ⟨b,0,none⟩) H.size t (i:Int) (fun _ W'=>lookA Th q k=Res/\Ext [] w2.heap W'.heap) (fun e w'=>e=.returned (.tuple #[zlz Res.1,.int .i64 Res.2])/\Ext [] H w'.heap) W':=by
   intro W' hno hxW'
   rw [if_neg hno] at he
   unfold z2m
   refine zaj rfl fun w3 hw3=>?_
   rw [<-hw3] at hxW'
   obtain⟨hx3,hF3,h43,hL3⟩:=base hxW'
   simp only [qo]
   refine zas ((i+1:Nat):Int) (by omega) (by omega) (by omega) ?_
   refine jh (s:=.map) (t:=some m) rfl hF3.1 rfl ?_
   obtain⟨a',hcut,hLc⟩:=zrk (l:=t.2.1) (i:=i+1) (n:=((i+1:Nat):Int)) zi4 zql hL3 htc (by omega) rfl
   rw [Nat.mul_one,zcn] at hLc
   refine qw (s:=.slc) (a',i+1,t.2.2) (hcut _) ?_
   have hql:(q.take (i+1)).length=i+1:=by rw [List.length_take,Nat.min_eq_left (by omega)]
   have hsm:=(hq.take (i+1)).small
   have bad:o2.isSome=false->∀ {W:World},Ext [] w2.heap W.heap->jv P (Instr.build zi #[]) .any W fun (t53:Value)=>jy P (storeVar zi (⟨H.size,0,none⟩:Addr) t53) W fun w_14=>
     ldA P 2 (⟨H.size,0,none⟩:Addr) w_14 fun t4_1=>Ending.returned (.tuple #[.agg t4_1,.int .i64 4])=.returned (.tuple #[zlz Res.1,.int .i64 Res.2])/\Ext [] H w_14.heap:=by
    intro hb W hx
    rw [if_pos hb] at he
    obtain⟨g1,g2,g3,g4⟩:=base hx
    exact qw (s:=.any) _ (z8m _) (fin zh5 4 he.symm g1 g3)
   refine⟨?_,?_⟩
   ·refine zl (zg8 rfl hLc hql.symm (show i+1<=t.2.2 by omega) (by omega)) ?_
    rintro e w4 ⟨rfl,hx4⟩
    refine⟨_,rfl,?_⟩
    have hxa:=hxW'.trans hx4
    refine⟨jh (s:=.map) (t:=some m) rfl (base hxa).2.1.1 rfl rfl,?_⟩
    refine zb4 (l:=[.any,.bool]) _ (look _ rfl (base hxa).2.1.2) ?_
    rw [<-ho2]
    refine jg rfl fun w5 hw5=>?_
    have hx5:Ext [] w4.heap w5.heap:=by rw [hw5];exact .push _
    have h8:w5.heap[w4.heap.size]?=some (.cells (thC zh5).toArray zi (0,0)):=by rw [hw5,zz9];exact zn
    have hxb:=hxa.trans hx5
    refine⟨?_,qw (s:=.slc) (a',i+1,t.2.2) (hcut _) rfl,jh (s:=.map) (t:=some m) rfl (base hxb).2.1.1 rfl rfl,?_⟩
    ·have:=look (jd (q.take (i+1))) rfl (base hxb).2.1.2
     rw [<-ho2] at this
     exact zb4 (l:=[.any,.bool]) _ this rfl
    refine zz8 _ rfl h8 rfl fun w6 hw6=>?_
    have hxc:Ext [] w2.heap w6.heap:=by rw [hw6];exact hxb.set_own (.inl (by have:=hxa.1;omega))
    refine za8 (p:=o2.isSome=false) (by simp) (fun hb=>bad hb hxc) (fun hb=>?_)
    rw [if_neg hb] at he
    exact⟨he,hxc⟩
   ·refine jg rfl fun w5 hw5=>?_
    have hx5:Ext [] w3.heap w5.heap:=by rw [hw5];exact .push _
    have h8:w5.heap[w3.heap.size]?=some (.cells (thC zh5).toArray zi (0,0)):=by rw [hw5,zz9];exact zn
    have hxb:=hxW'.trans hx5
    refine⟨qw (s:=.slc) (a',i+1,t.2.2) (hcut _) rfl,jh (s:=.map) (t:=some m) rfl (base hxb).2.1.1 rfl rfl,?_⟩
    refine zl (zg8 rfl (hLc.ext hx5 (by simp)) hql.symm (show i+1<=t.2.2 by omega) (by omega)) ?_
    rintro e w4 ⟨rfl,hx4⟩
    refine⟨_,rfl,?_⟩
    have hxa:=hxb.trans hx4
    refine⟨jh (s:=.map) (t:=some m) rfl (base hxa).2.1.1 rfl rfl,?_⟩
    refine zb4 (l:=[.any,.bool]) _ (look _ rfl (base hxa).2.1.2) ?_
    rw [<-ho2]
    refine zz8 _ rfl (hx4.get h8 (by simp)) rfl fun w6 hw6=>?_
    have hxc:Ext [] w2.heap w6.heap:=by rw [hw6];exact hxa.set_own (.inl (by have:=hxW'.1;omega))
    refine za8 (p:=o2.isSome=false) (by simp) (fun hb=>bad hb hxc) (fun hb=>?_)
    rw [if_neg hb] at he
    exact⟨he,hxc⟩
  refine zaj rfl fun w3 hw3=>?_
  rw [<-hw3] at hxW
  obtain⟨hx3,hF3,h43,hL3⟩:=base hxW
  simp only [qo]
  refine jh (s:=.map) (t:=some m) rfl hF3.1 rfl ?_
  obtain⟨a',hcut,hLc⟩:=zrk (l:=t.2.1) (i:=i) (n:=(i:Int)) zi4 zql hL3 htc (by omega) rfl
  rw [Nat.mul_one,zcn] at hLc
  refine qw (s:=.slc) (a',i,t.2.2) (hcut _) ?_
  have hql:(q.take i).length=i:=by rw [List.length_take,Nat.min_eq_left (by omega)]
  have hsm:=(hq.take i).small
  have mid:∀ {W:World}{b8:Nat},Ext [] w2.heap W.heap->W.heap[b8]?=some (.cells (thC (o1.getD zh5)).toArray zi (0,0))->Go.Fw.joinP Unit (fun k_3=>
    qx o1.isSome (
    ld .bool (⟨b8,0,none⟩:Addr) W fun (t34:Bool)=>
    qx (!t34) (
    jv P (Instr.build zi #[]) .any W fun (t37:Value)=>
    jy P (storeVar zi (⟨H.size,0,none⟩:Addr) t37) W fun w_8=>
    ldA P 2 (⟨H.size,0,none⟩:Addr) w_8 fun t4=>
    Ending.returned (.tuple #[.agg t4,.int .i64 70])=.returned (.tuple #[zlz Res.1,.int .i64 Res.2])/\Ext [] H w_8.heap) (
    k_3 () W)) (
    k_3 () W)) (fun _ W'=>z2m (some ⟨b,0,none⟩) H.size t (i:Int) (fun _ W'=>lookA Th q k=Res/\Ext [] w2.heap W'.heap) (fun e w'=>e=.returned (.tuple #[zlz Res.1,.int .i64 Res.2])/\Ext [] H w'.heap) W'):=by
   intro W b8 hx h8
   refine ku (fun _ W'=>W'=W/\¬(o1.isSome=true/\(o1.getD zh5).dir=false)) ?_ (fun _ W' h=>by obtain⟨rfl,h⟩:=h;exact rest h hx)
   refine za8 (p:=o1.isSome=true) Iff.rfl (fun hs=>?_) (fun hs=>⟨rfl,fun h=>hs h.1⟩)
   refine jh (s:=.bool) (t:=(o1.getD zh5).dir) rfl h8 rfl ?_
   refine za8 (p:=(o1.getD zh5).dir=false) (by simp) (fun hd=>?_) (fun hd=>⟨rfl,fun h=>hd h.2⟩)
   rw [if_pos ⟨hs,hd⟩] at he
   exact qw (s:=.any) _ (z8m _) (fin zh5 70 he.symm (base hx).1 (base hx).2.2.1)
  refine⟨?_,?_⟩
  ·refine zl (zg8 rfl hLc hql.symm (show i<=t.2.2 by omega) (by omega)) ?_
   rintro e w4 ⟨rfl,hx4⟩
   refine⟨_,rfl,?_⟩
   have hxa:=hxW.trans hx4
   refine⟨jh (s:=.map) (t:=some m) rfl (base hxa).2.1.1 rfl rfl,?_⟩
   refine zb4 (l:=[.any,.bool]) _ (look _ rfl (base hxa).2.1.2) ?_
   rw [<-ho1]
   refine jg rfl fun w5 hw5=>?_
   have hx5:Ext [] w4.heap w5.heap:=by rw [hw5];exact .push _
   have h8:w5.heap[w4.heap.size]?=some (.cells (thC zh5).toArray zi (0,0)):=by rw [hw5,zz9];exact zn
   have hxb:=hxa.trans hx5
   refine⟨?_,qw (s:=.slc) (a',i,t.2.2) (hcut _) rfl,jh (s:=.map) (t:=some m) rfl (base hxb).2.1.1 rfl rfl,?_⟩
   ·have:=look (jd (q.take i)) rfl (base hxb).2.1.2
    rw [<-ho1] at this
    exact zb4 (l:=[.any,.bool]) _ this rfl
   refine zz8 _ rfl h8 rfl fun w6 hw6=>?_
   exact mid (by rw [hw6];exact hxb.set_own (.inl (by have:=hxa.1;omega))) (by rw [hw6];exact xk h8)
  ·refine jg rfl fun w5 hw5=>?_
   have hx5:Ext [] w3.heap w5.heap:=by rw [hw5];exact .push _
   have h8:w5.heap[w3.heap.size]?=some (.cells (thC zh5).toArray zi (0,0)):=by rw [hw5,zz9];exact zn
   have hxb:=hxW.trans hx5
   refine⟨qw (s:=.slc) (a',i,t.2.2) (hcut _) rfl,jh (s:=.map) (t:=some m) rfl (base hxb).2.1.1 rfl rfl,?_⟩
   refine zl (zg8 rfl (hLc.ext hx5 (by simp)) hql.symm (show i<=t.2.2 by omega) (by omega)) ?_
   rintro e w4 ⟨rfl,hx4⟩
   refine⟨_,rfl,?_⟩
   have hxa:=hxb.trans hx4
   refine⟨jh (s:=.map) (t:=some m) rfl (base hxa).2.1.1 rfl rfl,?_⟩
   refine zb4 (l:=[.any,.bool]) _ (look _ rfl (base hxa).2.1.2) ?_
   rw [<-ho1]
   have h84:=hx4.get h8 (by simp)
   refine zz8 _ rfl h84 rfl fun w6 hw6=>?_
   exact mid (by rw [hw6];exact hxa.set_own (.inl (by have:=hxW.1;omega))) (by rw [hw6];exact xk h84)
 ·have hk0:k=0:=by omega
  subst hk0
  unfold lookA at he
  obtain⟨hx3,hF3,h43,hL3⟩:=base hxW
  simp only [qo]
  refine jh (s:=.map) (t:=some m) rfl hF3.1 rfl ?_
  refine qw (s:=.any) _ (z4t rfl hF3.2 _) ?_
  exact fin _ 0 he.symm hx3 h43
structure OpR where
 k:Int
 p:List UInt8
 to:List UInt8
 d:List UInt8
 pos:Int
 size:Int
def opC (o:OpR):List Value:=[.int .i64 o.k,.string (strOf o.p),.string (strOf o.to),.string (strOf o.d),.int .i64 o.pos,.int .i64 o.size]
def opV (o:OpR):Value:=.agg (opC o).toArray
theorem z1s {o:OpR}:zbf (opC o):=by
 intro v hv
 simp only [opC,List.mem_cons,List.not_mem_nil,or_false] at hv
 rcases hv with rfl | rfl | rfl | rfl | rfl | rfl <;> rfl
def op0:OpR:=⟨0,[],[],[],0,0⟩
theorem z6k:zc P xg=(opC op0).toArray:=by kernel_rfl
theorem z7p:P.cellsOf xg=6:=by kernel_rfl
theorem stOp {w:World}{H:Heap}{b:Nat}{c:Array Value}(o:OpR){K:World->Prop}(hw:w.heap=H) (hb:H[b]?=some (.cells c xg (0,0))) (hc:c.size=6) (hK:∀ w',w'.heap=H.setIfInBounds b (.cells (opC o).toArray xg (0,0))->K w') :
  jy P (storeVar xg (⟨b,0,none⟩:Addr) (opV o)) w K:=by
 refine zb0 (v:=opV o) (by rw [z7p];rfl) (by simp [Value.cells,opV,opC]) (by simpa [Value.cells,opV] using z1s) hw hb (by simp [Value.cells,opV,opC,hc]) fun w' hw'=>hK w' ?_
 rw [hw',show (opV o).cells.toList=opC o from rfl,zb3 (by rw [hc];rfl)]
theorem z9l (k:Int) (p:ByteArray) (w:World):(Instr.build xg #[(0,.int .i64 k),(1,.string p)]).run P w=.ok (.agg #[.int .i64 k,.string p,.string (strOf []),.string (strOf []),.int .i64 0,.int .i64 0]) w:=by kernel_rfl
def z1p (o:OpR):Prop:=o.to=[]/\((o.k=1\/o.k=5\/o.k=10)/\o.d=[]/\o.pos=0/\o.size=0\/o.k=3/\o.size=0\/o.k=8/\o.d=[])
set_option maxHeartbeats 8000000 in
theorem z6i {w:World}{H:Heap}{o:OpR}(hw:w.heap=H) (hk:z1p o):zx P zo1 #[opV o] w fun e w'=>e=.returned (.tuple #[opV o,.bool true])/\Ext [] H w'.heap:=by
 refine zwz ?_
 unfold zs3
 refine jg hw fun w1 hw1=>?_
 refine jg rfl fun w2 hw2=>?_
 have e1:w1.heap.size=H.size+1:=by rw [hw1];simp
 have e2:w2.heap.size=H.size+2:=by rw [hw2];simp [e1]
 have h1:w2.heap[H.size]?=some (.cells (opC o).toArray xg (0,0)):=by rw [hw2,hw1];exact zac zn
 have h2:w2.heap[H.size+1]?=some (.cells (opC op0).toArray xg (0,0)):=by rw [hw2,<-e1,z6k];exact zn
 have hx2:Ext [] H w2.heap:=by rw [hw2,hw1];exact (Ext.push _).push_own
 rw [e1]
 refine jh (s:=.int .i64) (t:=o.k) rfl h1 rfl ?_
 refine jh (s:=.str) (t:=strOf o.p) rfl h1 rfl ?_
 refine qw (s:=.any) _ (z9l _ _ _) ?_
 refine jg rfl fun w3 hw3=>?_
 have h13:w3.heap[H.size]?=some (.cells (opC o).toArray xg (0,0)):=by rw [hw3];exact zac h1
 have h23:w3.heap[H.size+1]?=some (.cells (opC op0).toArray xg (0,0)):=by rw [hw3];exact zac h2
 have h43:w3.heap[H.size+2]?=some (.cells (opC op0).toArray xg (0,0)):=by rw [hw3,<-e2,z6k];exact zn
 have hx3:Ext [] H w3.heap:=by rw [hw3];exact hx2.push_own
 rw [e2]
 refine stOp ⟨o.k,o.p,[],[],0,0⟩ rfl h43 rfl fun w4 hw4=>?_
 have hx34:Ext [H.size+2] w3.heap w4.heap:=by rw [hw4];exact Ext.set _ (by simp)
 have h14:=hx34.get h13 (by simp)
 have h24:=hx34.get h23 (by simp)
 have h44:w4.heap[H.size+2]?=some (.cells (opC ⟨o.k,o.p,[],[],0,0⟩).toArray xg (0,0)):=by rw [hw4];exact xk h43
 have hx4:Ext [] H w4.heap:=by rw [hw4];exact hx3.set_own (.inl (by omega))
 obtain⟨k,p,to,d,pos,size⟩:=o
 obtain⟨rfl,hk⟩:=hk
 simp only at hk h14 h44 |-
 refine ku (fun _ w'=>w'.heap[H.size+1]?=some (.cells (opC op0).toArray xg (0,0))/\w'.heap[H.size+2]?=some (.cells (opC ⟨k,p,[],d,pos,size⟩).toArray xg (0,0))/\Ext [] H w'.heap) ?_ ?_
 ·refine jh (s:=.int .i64) (t:=k) rfl h14 rfl ?_
  refine x9 ?_
  refine x9 ?_
  refine x9 ?_
  refine x9 ?_
  rcases hk with⟨hk,rfl,rfl,rfl⟩ | ⟨rfl,rfl⟩ | ⟨rfl,rfl⟩
  ·have hn:(k==3)=false/\(k==4)=false/\(k==7)=false/\(k==8)=false/\(k==11)=false:=by rcases hk with rfl | rfl | rfl <;> exact⟨rfl,rfl,rfl,rfl,rfl⟩
   refine qg hn.1 (qg hn.2.1 (qg hn.2.2.1 (qg hn.2.2.2.1 (qg hn.2.2.2.2 ?_))))
   rcases hk with rfl | rfl | rfl
   ·exact x9 (jc rfl (jc rfl ⟨h24,h44,hx4⟩))
   ·exact x9 (qg rfl (qg rfl (x9 (jc rfl (jc rfl ⟨h24,h44,hx4⟩)))))
   ·exact x9 (qg rfl (qg rfl (x9 (qg rfl (qg rfl (x9 (qg rfl (jc rfl ⟨h24,h44,hx4⟩))))))))
  ·refine jc rfl ?_
   refine zaj rfl fun w5 hw5=>?_
   rw [<-hw5] at h14 h24 h44 hx4
   refine jh (s:=.int .i64) (t:=pos) rfl h14 rfl ?_
   refine jh (s:=.str) (t:=strOf d) rfl h14 rfl ?_
   refine zdj rfl h44 (by simp [opC]) fun w6 hw6=>?_
   have hx56:Ext [H.size+2] w5.heap w6.heap:=by rw [hw6];exact Ext.set _ (by simp)
   have h46:w6.heap[H.size+2]?=some (.cells (opC ⟨3,p,[],[],pos,0⟩).toArray xg (0,0)):=by rw [hw6];exact xk h44
   refine⟨jh (s:=.str) (t:=strOf d) rfl (hx56.get h14 (by simp)) rfl rfl,?_⟩
   refine zdj rfl h46 (by simp [opC]) fun w7 hw7=>?_
   have hx67:Ext [H.size+2] w6.heap w7.heap:=by rw [hw7];exact Ext.set _ (by simp)
   exact⟨hx67.get (hx56.get h24 (by simp)) (by simp),by rw [hw7];exact xk h46,(hx4.own hx56 (fun b hb hlt=>by simp at hb;omega)).own hx67 (fun b hb hlt=>by simp at hb;omega)⟩
  ·refine qg rfl (qg rfl (qg rfl (jc rfl ?_)))
   refine zaj rfl fun w5 hw5=>?_
   rw [<-hw5] at h14 h24 h44 hx4
   refine jh (s:=.int .i64) (t:=pos) rfl h14 rfl ?_
   refine jh (s:=.int .i64) (t:=size) rfl h14 rfl ?_
   refine zdj rfl h44 (by simp [opC]) fun w6 hw6=>?_
   have hx56:Ext [H.size+2] w5.heap w6.heap:=by rw [hw6];exact Ext.set _ (by simp)
   have h46:w6.heap[H.size+2]?=some (.cells (opC ⟨8,p,[],[],pos,0⟩).toArray xg (0,0)):=by rw [hw6];exact xk h44
   refine⟨jh (s:=.int .i64) (t:=size) rfl (hx56.get h14 (by simp)) rfl rfl,?_⟩
   refine zdj rfl h46 (by simp [opC]) fun w7 hw7=>?_
   have hx67:Ext [H.size+2] w6.heap w7.heap:=by rw [hw7];exact Ext.set _ (by simp)
   exact⟨hx67.get (hx56.get h24 (by simp)) (by simp),by rw [hw7];exact xk h46,(hx4.own hx56 (fun b hb hlt=>by simp at hb;omega)).own hx67 (fun b hb hlt=>by simp at hb;omega)⟩
 ·rintro _ w5 ⟨g2,g4,hx5⟩
  refine xw rfl g4 rfl ?_
  refine stOp ⟨k,p,[],d,pos,size⟩ rfl g2 rfl fun w6 hw6=>?_
  refine xw rfl (by rw [hw6];exact xk g2) rfl ?_
  exact⟨rfl,by rw [hw6];exact hx5.set_own (.inl (by omega))⟩
theorem fOp:(P.fieldsOf xg).toList.map (fun f=>(f.name,f.type,f.offset))=[("Kind",zai,0),("Path",qy,1),("To",qy,2),("Data",qy,3),("At",zai,4),("Size",zai,5)]:=by kernel_rfl
theorem uOp:P.underlying xg=some (.struct (P.fieldsOf xg)):=by kernel_rfl
theorem z4n:P.stoodInHeld xg=false:=by kernel_rfl
theorem z2e:P.eqGuardType P.depth xg=false:=by kernel_rfl
theorem zzb:P.underlying zai=some (.int .i64):=by kernel_rfl
theorem z5d (d:Nat) (n:Int){w:World}:(Op.equalIn (d+1) zai (.int .i64 n) (.int .i64 n)).run P w=.ok true w:=by simp [Op.equalIn,zy zzb]
theorem z4b (n:Int){w:World}:(Op.equalIn 9999 zai (.int .i64 n) (.int .i64 n)).run P w=.ok true w:=z5d 9998 n
theorem eqStr (L:List UInt8){w:World}:(Op.equalIn 9999 qy (.string (strOf L)) (.string (strOf L))).run P w=.ok true w:=by rw [run_equalIn_string w 9998 _ _ _ zv4,zdl,z7o];simp
theorem qah {o:OpR}{w:World}:(Op.equalIn 10000 xg (opV o) (opV o)).run P w=.ok true w:=by
 unfold opV
 rw [run_equalIn_agg w 9999 xg _ _ uOp z4n]
 have hf:=fOp
 generalize (P.fieldsOf xg).toList=fs at hf
 have hl:fs.length=6:=by simpa using congrArg List.length hf
 obtain⟨f0,f1,f2,f3,f4,f5,rfl⟩:∃ a b c d e f,fs=[a,b,c,d,e,f]:=by
  match fs,hl with
  | [a,b,c,d,e,f],_=>exact⟨a,b,c,d,e,f,rfl⟩
 simp only [List.map_cons,List.map_nil,List.cons.injEq,Prod.mk.injEq,and_true] at hf
 obtain⟨⟨n0,t0,o0⟩,⟨n1,t1,o1⟩,⟨n2,t2,o2⟩,⟨n3,t3,o3⟩,⟨n4,t4,o4⟩,n5,t5,o5⟩:=hf
 have e0:∀ w,(part f0.type (opC o).toArray f0.offset).run P w=.ok (.int .i64 o.k) w:=fun w=>by rw [t0,o0];exact zww (by kernel_rfl) rfl
 have e1:∀ w,(part f1.type (opC o).toArray f1.offset).run P w=.ok (.string (strOf o.p)) w:=fun w=>by rw [t1,o1];exact zww (by kernel_rfl) rfl
 have e2:∀ w,(part f2.type (opC o).toArray f2.offset).run P w=.ok (.string (strOf o.to)) w:=fun w=>by rw [t2,o2];exact zww (by kernel_rfl) rfl
 have e3:∀ w,(part f3.type (opC o).toArray f3.offset).run P w=.ok (.string (strOf o.d)) w:=fun w=>by rw [t3,o3];exact zww (by kernel_rfl) rfl
 have e4:∀ w,(part f4.type (opC o).toArray f4.offset).run P w=.ok (.int .i64 o.pos) w:=fun w=>by rw [t4,o4];exact zww (by kernel_rfl) rfl
 have e5:∀ w,(part f5.type (opC o).toArray f5.offset).run P w=.ok (.int .i64 o.size) w:=fun w=>by rw [t5,o5];exact zww (by kernel_rfl) rfl
 have q0:=fun w=>t0.symm▸z4b o.k (w:=w)
 have q1:=fun w=>t1.symm▸eqStr o.p (w:=w)
 have q2:=fun w=>t2.symm▸eqStr o.to (w:=w)
 have q3:=fun w=>t3.symm▸eqStr o.d (w:=w)
 have q4:=fun w=>t4.symm▸z4b o.pos (w:=w)
 have q5:=fun w=>t5.symm▸z4b o.size (w:=w)
 simp only [Op.eqFields,n0,n1,n2,n3,n4,n5,ne_eq,String.reduceEq,not_false_eq_true,if_true,Sem.run_bind,e0,e1,e2,e3,e4,e5,Result.andThen_ok,q0,q1,q2,q3,q4,q5,Bool.not_true,Bool.false_eq_true,if_false,Sem.run_pure]
theorem qad {x y:Operand}{o:OpR}{w:World}:(eqM .neq xg x y (opV o) (opV o)).run P w=.ok (.bool false) w:=by
 simp only [eqM,Sem.run_bind,opV,run_eqGuard_agg w .neq xg x y _ _ z2e,Result.andThen_ok,run_neq_struct w]
 rw [show (Op.equalIn 10000 xg (.agg (opC o).toArray) (.agg (opC o).toArray)).run P w=.ok true w from qah]
 rfl
structure OpOK (o:OpR):Prop where
 bare:z1p o
 p0:0<=o.pos
 p1:o.pos<=1024
 s0:0<=o.size
 s1:o.size<=1024
 d:o.d.length<=1024
theorem OpOK.kind {o:OpR}(h:OpOK o):(o.k==11)=false/\(o.k==7)=false:=by
 rcases h.bare.2 with⟨h | h | h,_⟩ | ⟨h,_⟩ | ⟨h,_⟩ <;> rw [h] <;> exact⟨rfl,rfl⟩
set_option maxHeartbeats 4000000 in
theorem z0b {w:World}{H:Heap}{o:OpR}(hw:w.heap=H) (ho:OpOK o):zx P zkb #[opV o] w fun e w'=>e=.returned (.int .i64 (jm o.p).2)/\Ext [] H w'.heap:=by
 have hkd:=ho.kind
 refine zu7 ?_
 unfold zrm
 refine jg hw fun w1 hw1=>?_
 have h1:w1.heap[H.size]?=some (.cells (opC o).toArray xg (0,0)):=by rw [hw1];exact zn
 have hx1:Ext [] H w1.heap:=by rw [hw1];exact .push _
 refine xw rfl h1 rfl ?_
 refine zl (z6i rfl ho.bare) ?_
 rintro e w2 ⟨rfl,hx2⟩
 refine⟨(_,_),rfl,?_⟩
 refine jg rfl fun w3 hw3=>?_
 have h3:w3.heap[w2.heap.size]?=some (.cells (opC op0).toArray xg (0,0)):=by rw [hw3,z6k];exact zn
 have hx3:Ext [] w2.heap w3.heap:=by rw [hw3];exact .push _
 refine stOp o rfl h3 rfl fun w4 hw4=>?_
 have h34:w4.heap[w2.heap.size]?=some (.cells (opC o).toArray xg (0,0)):=by rw [hw4];exact xk h3
 have hx14:Ext [] w1.heap w4.heap:=by rw [hw4];exact (hx2.trans hx3).set_own (.inl hx2.1)
 have h14:=hx14.get h1 (by simp)
 refine ku (fun _ w'=>w'=w4) ?_ ?_
 ·refine x9 ?_
  refine qg rfl ?_
  refine xw rfl h34 rfl ?_
  refine xw rfl h14 rfl ?_
  refine qw (s:=.bool) false qad ?_
  refine qg rfl ?_
  refine jh (s:=.int .i64) (t:=o.pos) rfl h14 rfl ?_
  refine qm (fun h=>absurd ho.p0 (by omega)) (fun _=>?_)
  refine jh (s:=.int .i64) (t:=o.size) rfl h14 rfl ?_
  refine qm (fun h=>absurd ho.s0 (by omega)) (fun _=>?_)
  refine jh (s:=.int .i64) (t:=o.k) rfl h14 rfl ?_
  refine qg hkd.1 ?_
  refine jh (s:=.str) (t:=strOf o.d) rfl h14 rfl ?_
  refine qm (fun h=>absurd ho.d (by rw [zad] at h;omega)) (fun _=>?_)
  refine jh (s:=.int .i64) (t:=o.pos) rfl h14 rfl ?_
  refine qm (fun h=>absurd ho.p1 (by omega)) (fun _=>?_)
  refine jh (s:=.int .i64) (t:=o.size) rfl h14 rfl ?_
  refine qm (fun h=>absurd ho.s1 (by omega)) (fun _=>?_)
  refine jh (s:=.int .i64) (t:=o.k) rfl h14 rfl ?_
  exact qg hkd.1 rfl
 ·rintro _ w5 rfl
  refine jh (s:=.str) (t:=strOf o.p) rfl h14 rfl ?_
  refine zl (zj0 o.p rfl) ?_
  rintro e w6 ⟨x,rfl,_,hx6⟩
  refine⟨(_,_),rfl,?_⟩
  have hx:=hx1.trans (hx14.trans hx6)
  refine zdk (fun h=>⟨rfl,hx⟩) (fun h=>?_)
  refine jh (s:=.int .i64) (t:=o.k) rfl (hx6.get h14 (by simp)) rfl ?_
  refine jc (by have:=hkd.2;simp only [bne,this];rfl) ?_
  exact⟨by rw [show (jm o.p).2=0 from h],hx⟩
theorem z6w (w:World):∃ vs:Array Value,vs.size=12/\(∀ i,i < 12->∃ s,vs[i]?=some (.string s))/\(Instr.buildSlice zu 12 #[(0,(Value.string (ByteArray.mk #[]))),(1,(Value.string (ByteArray.mk #[109,107,100,105,114]))),(2,(Value.string (ByteArray.mk #[99,114,101,97,116,101]))),(3,(Value.string (ByteArray.mk #[119,114,105,116,101]))),(4,(Value.string (ByteArray.mk #[116,114,117,110,99,97,116,101]))),(5,(Value.string (ByteArray.mk #[117,110,108,105,110,107]))),(6,(Value.string (ByteArray.mk #[114,109,100,105,114]))),(7,(Value.string (ByteArray.mk #[114,101,110,97,109,101]))),(8,(Value.string (ByteArray.mk #[114,101,97,100]))),(9,(Value.string (ByteArray.mk #[108,105,115,116]))),(10,(Value.string (ByteArray.mk #[115,116,97,116]))),(11,(Value.string (ByteArray.mk #[102,111,114,103,101,116])))]).run P w=.ok (.slice (some ⟨w.heap.size,0,none⟩) 12 12) { w with heap:=w.heap.push (.cells vs qy) }:=by
 refine⟨#[.string (ByteArray.mk #[]),.string (ByteArray.mk #[109,107,100,105,114]),.string (ByteArray.mk #[99,114,101,97,116,101]),.string (ByteArray.mk #[119,114,105,116,101]),.string (ByteArray.mk #[116,114,117,110,99,97,116,101]),.string (ByteArray.mk #[117,110,108,105,110,107]),.string (ByteArray.mk #[114,109,100,105,114]),.string (ByteArray.mk #[114,101,110,97,109,101]),.string (ByteArray.mk #[114,101,97,100]),.string (ByteArray.mk #[108,105,115,116]),.string (ByteArray.mk #[115,116,97,116]),.string (ByteArray.mk #[102,111,114,103,101,116])],rfl,?_,by kernel_rfl⟩
 intro i hi
 have:∀ j:Fin 12,∃ s,(#[Value.string (ByteArray.mk #[]),.string (ByteArray.mk #[109,107,100,105,114]),.string (ByteArray.mk #[99,114,101,97,116,101]),.string (ByteArray.mk #[119,114,105,116,101]),.string (ByteArray.mk #[116,114,117,110,99,97,116,101]),.string (ByteArray.mk #[117,110,108,105,110,107]),.string (ByteArray.mk #[114,109,100,105,114]),.string (ByteArray.mk #[114,101,110,97,109,101]),.string (ByteArray.mk #[114,101,97,100]),.string (ByteArray.mk #[108,105,115,116]),.string (ByteArray.mk #[115,116,97,116]),.string (ByteArray.mk #[102,111,114,103,101,116])]:Array Value)[j.val]?=some (.string s):=by
  intro j
  match j with
  | 0 | 1 | 2 | 3 | 4 | 5 | 6 | 7 | 8 | 9 | 10 | 11=>exact⟨_,rfl⟩
 exact this ⟨i,hi⟩
theorem z5t {w:World}{H:Heap}(k:Int) (hw:w.heap=H):zx P zp4 #[.int .i64 k] w fun e w'=>∃ s,e=.returned (.string s)/\Ext [] H w'.heap:=by
 refine zxh ?_
 unfold ztl
 obtain⟨vs,hv,hs,hr⟩:=z6w w
 refine zbg (s:=.slc) (some ⟨w.heap.size,0,none⟩,12,12) _ hr ?_
 subst hw
 have hx:Ext [] w.heap (w.heap.push (.cells vs qy)):=.push _
 refine ku (fun _ w'=>w'.heap=w.heap.push (.cells vs qy)/\0<=k/\k < 12) ?_ ?_
 ·refine qm (fun h=>⟨_,rfl,hx⟩) (fun h=>?_)
  exact qm (fun h=>⟨_,rfl,hx⟩) (fun h'=>⟨rfl,by omega,by have h':¬k>=((12:Nat):Int):=h';omega⟩)
 ·rintro _ w' ⟨hw',h0,h1⟩
  refine zx0 k.toNat (by omega) (show k.toNat < 12 by omega) ?_
  obtain⟨s,hsk⟩:=hs k.toNat (by omega)
  refine jh (s:=.str) (t:=s) hw' zn (by rw [Nat.zero_add];exact hsk) ⟨s,rfl,by rw [hw'];exact hx⟩
theorem z2l {w:World}(k:Int):zx P znq #[.int .i64 k] w fun e w'=>e=.returned (.bool (decide (8<=k)&&decide (k<=10)))/\w'=w:=by
 refine zu4 ?_
 unfold zq6
 refine qm (fun h=>?_) (fun h=>?_)
 ·rw [show decide (8<=k)=true from decide_eq_true h];exact⟨rfl,rfl⟩
 ·rw [show decide (8<=k)=false from decide_eq_false (by omega)];exact⟨rfl,rfl⟩
structure ResR where
 code:Int
 dir:Bool
 size:Int
 data:List UInt8
def zff (r:ResR):List Value:=[.int .i64 r.code,.bool r.dir,.int .i64 r.size,.string (strOf r.data),.slice none 0 0]
def resV (r:ResR):Value:=.agg (zff r).toArray
theorem zsg {r:ResR}:zbf (zff r):=by
 intro v hv
 simp only [zff,List.mem_cons,List.not_mem_nil,or_false] at hv
 rcases hv with rfl | rfl | rfl | rfl | rfl <;> rfl
def res0:ResR:=⟨0,false,0,[]⟩
def zkv (e:Int):ResR:=⟨e,false,0,[]⟩
theorem zx1:zc P zf=(zff res0).toArray:=by kernel_rfl
theorem z8d:P.cellsOf zf=5:=by kernel_rfl
theorem zvn {w:World}{H:Heap}{b:Nat}{c:Array Value}(r:ResR){K:World->Prop}(hw:w.heap=H) (hb:H[b]?=some (.cells c zf (0,0))) (hc:c.size=5) (hK:∀ w',w'.heap=H.setIfInBounds b (.cells (zff r).toArray zf (0,0))->K w') :
  jy P (storeVar zf (⟨b,0,none⟩:Addr) (resV r)) w K:=by
 refine zb0 (v:=resV r) (by rw [z8d];rfl) (by simp [Value.cells,resV,zff]) (by simpa [Value.cells,resV] using zsg) hw hb (by simp [Value.cells,resV,zff,hc]) fun w' hw'=>hK w' ?_
 rw [hw',show (resV r).cells.toList=zff r from rfl,zb3 (by rw [hc];rfl)]
theorem zw3 {w:World}{H:Heap}(r:ResR) (hw:w.heap=H){K:Nat->World->Prop}(hK:∀ w',w'.heap=H.push (.cells (zff r).toArray zf (0,0))->K H.size w') :
  zam (zc P zf) zf w fun b w1=>jy P (storeVar zf (⟨b,0,none⟩:Addr) (resV r)) w1 fun w2=>K b w2:=
 zqr (v:=resV r) z8d (by rw [zx1];rfl) (by simp [Value.cells,resV,zff]) (by simpa [Value.cells,resV] using zsg) hw hK
theorem z7c (w:World):(Instr.build zf #[]).run P w=.ok (resV res0) w:=by kernel_rfl
theorem z6s (e:Int) (w:World):(Instr.build zf #[(0,.int .i64 e)]).run P w=.ok (resV (zkv e)) w:=by kernel_rfl
theorem z5n {w:World}{H:Heap}(e:Int) (hw:w.heap=H):zx P zce #[.int .i64 e] w fun r w'=>r=.returned (resV (zkv e))/\Ext [] H w'.heap:=by
 refine zsq ?_
 unfold zn6
 refine jg hw fun w1 hw1=>?_
 have h1:w1.heap[H.size]?=some (.cells (zff res0).toArray zf (0,0)):=by rw [hw1,zx1];exact zn
 refine qw (s:=.any) _ (z6s _ _) ?_
 refine zvn (zkv e) rfl h1 rfl fun w2 hw2=>?_
 refine xw rfl (by rw [hw2];exact xk h1) rfl ?_
 exact⟨rfl,by rw [hw2,hw1];exact (Ext.push _).set_own (.inl (Nat.le_refl _))⟩
def zry (Th:List Fil) (q:Path):Int:=
 if (lookA Th (q.take (q.length-1)) (q.length-1)).2=0/\(lookA Th (q.take (q.length-1)) (q.length-1)).1.dir=false then 70 else (lookA Th (q.take (q.length-1)) (q.length-1)).2
set_option maxHeartbeats 4000000 in
theorem z2a {w:World}{H:Heap}{b m:Nat}{Th:List Fil}{q:Path}(hw:w.heap=H) (hF:FsW H b m Th) (hq:okP q) :
  zx P zf3 #[.pointer (some ⟨b,0,none⟩),.string (strOf (jd q))] w fun e w'=>e=.returned (.int .i64 (zry Th q))/\Ext [] H w'.heap:=by
 refine znf ?_
 unfold ziw
 refine zl (zvj (jd q) hw) ?_
 rintro e w1 ⟨rfl,hx1⟩
 refine⟨_,rfl,?_⟩
 have hup:upS (jd q)=jd (q.take (q.length-1)):=by unfold upS;rw [zbe hq]
 rw [hup]
 refine zl (z2t rfl (hF.ext hx1) (hq.take _)) ?_
 rintro e w2 ⟨rfl,hx2⟩
 refine⟨(_,_),rfl,?_⟩
 obtain⟨r,hr⟩:∃ r,r=lookA Th (q.take (q.length-1)) (q.length-1):=⟨_,rfl⟩
 have hp:zry Th q=if r.2=0/\r.1.dir=false then 70 else r.2:=by rw [hr];rfl
 rw [show (q.take (q.length-1)).length=q.length-1 by rw [List.length_take,Nat.min_eq_left (by omega)],<-hr,hp]
 refine jg rfl fun w3 hw3=>?_
 have h3:w3.heap[w2.heap.size]?=some (.cells (thC zh5).toArray zi (0,0)):=by rw [hw3,zz9];exact zn
 refine zz8 r.1 rfl h3 rfl fun w4 hw4=>?_
 have hx:Ext [] H w4.heap:=by rw [hw4,hw3];exact (hx1.trans hx2).push_own.set_own (.inl (hx1.trans hx2).1)
 refine ku (fun _ w'=>w'=w4/\¬(r.2=0/\r.1.dir=false)) ?_ ?_
 ·refine zc9 (fun h=>?_) (fun h=>⟨rfl,fun h'=>h h'.1⟩)
  refine jh (s:=.bool) (t:=r.1.dir) rfl (by rw [hw4];exact xk h3) rfl ?_
  refine za8 (p:=r.1.dir=false) (by simp) (fun hd=>?_) (fun hd=>⟨rfl,fun h'=>hd h'.2⟩)
  rw [if_pos ⟨h,hd⟩];exact⟨rfl,hx⟩
 ·rintro _ w5 ⟨rfl,hno⟩
  rw [if_neg hno];exact⟨rfl,hx⟩
def zfw (Th:List Fil) (q:Path):Int:=if q=[] then 5 else if zry Th q≠0 then zry Th q else if (zlj Th (jd q)).isSome=true then 5 else 0
theorem z8j (b:Bool) (w:World):(Instr.build zi #[(0,.bool b)]).run P w=.ok (.agg #[.bool b,.string (strOf [])]) w:=by kernel_rfl
theorem zyc {q:Path}:jd q=[47] ↔ q=[]\/q=[[]]:=by
 constructor
 ·intro h
  match q with
  | []=>exact .inl rfl
  | x :: q=>
   right
   rw [zy2] at h
   simp only [List.flatMap_cons,List.cons_append,List.cons.injEq,true_and,List.append_eq_nil_iff] at h
   obtain⟨rfl,h⟩:=h
   match q with
   | []=>rfl
   | y :: q=>simp at h
 ·rintro (rfl | rfl) <;> simp [jd,joinP]
theorem zxi {q:Path}(hq:okP q):jd q=[47] ↔ q=[]:=by
 rw [zyc]
 refine⟨fun h=>?_,.inl⟩
 rcases h with h | rfl
 ·exact h
 ·have:=(zdv.1 (hq.1 [] (by simp))).1.1
  simp at this
set_option maxHeartbeats 8000000 in
theorem z2h {w:World}{H:Heap}{b m:Nat}{Th:List Fil}{q:Path}{o:OpR}(hw:w.heap=H) (hF:FsW H b m Th) (hbm:b≠m) (hq:okP q) (ho:o.p=jd q) :
  zx P zdo #[.pointer (some ⟨b,0,none⟩),opV o] w fun e w'=>e=.returned (resV (zkv (zfw Th q)))/\Ext [m] H w'.heap/\((zfw Th q≠0/\FsW w'.heap b m Th)\/(zfw Th q=0/\FsW w'.heap b m (Th++[⟨jd q,decide (o.k=1),[]⟩]))):=by
 refine zod ?_
 unfold zj3
 refine jg hw fun w1 hw1=>?_
 refine jg rfl fun w2 hw2=>?_
 have e1:w1.heap.size=H.size+1:=by rw [hw1];simp
 have h3:w2.heap[H.size]?=some (.cells (opC o).toArray xg (0,0)):=by rw [hw2,hw1];exact zac zn
 have h4:w2.heap[H.size+1]?=some (.cells (zff res0).toArray zf (0,0)):=by rw [hw2,<-e1,zx1];exact zn
 have hx2:Ext [] H w2.heap:=by rw [hw2,hw1];exact (Ext.push _).push_own
 rw [e1]
 have hmlt:m < H.size:=by obtain⟨M,c,h,_⟩:=hF.2;exact lt_of_get h
 have bad:∀ {W:World}(e:Int),e≠0->zfw Th q=e->Ext [] H W.heap->W.heap[H.size+1]?=some (.cells (zff res0).toArray zf (0,0))->qc P zce #[(Value.int .i64 e)] [.any] false W fun (t11:Value) w_3=>
   jy P (storeVar zf (⟨H.size+1,0,none⟩:Addr) t11) w_3 fun w_4=>
   ldA P 5 (⟨H.size+1,0,none⟩:Addr) w_4 fun t4=>
   Ending.returned (.agg t4)=.returned (resV (zkv (zfw Th q)))/\Ext [m] H w_4.heap/\((zfw Th q≠0/\FsW w_4.heap b m Th)\/(zfw Th q=0/\FsW w_4.heap b m (Th++[⟨jd q,decide (o.k=1),[]⟩]))):=by
  intro W e he hm hx h4
  refine zl (z5n e rfl) ?_
  rintro r w3 ⟨rfl,hx3⟩
  refine⟨_,rfl,?_⟩
  have h43:=hx3.get h4 (by simp)
  refine zvn (zkv e) rfl h43 rfl fun w4 hw4=>?_
  refine xw rfl (by rw [hw4];exact xk h43) rfl ?_
  have hx4:Ext [] H w4.heap:=by rw [hw4];exact (hx.trans hx3).set_own (.inl (by omega))
  rw [hm]
  exact⟨rfl,hx4.mono (by simp),.inl ⟨he,hF.ext hx4⟩⟩
 refine jh (s:=.str) (t:=strOf o.p) rfl h3 rfl ?_
 refine za8 (p:=q=[]) (by rw [zj1,ho];exact zxi hq) (fun h0=>bad 5 (by omega) (by unfold zfw;rw [if_pos h0]) hx2 h4) (fun h0=>?_)
 refine jh (s:=.str) (t:=strOf o.p) rfl h3 rfl ?_
 rw [ho]
 refine zl (z2a rfl (hF.ext hx2) hq) ?_
 rintro e w5 ⟨rfl,hx5⟩
 refine⟨_,rfl,?_⟩
 have hx05:=hx2.trans hx5
 refine zdk (fun h1=>bad _ h1 (by unfold zfw;rw [if_neg h0,if_pos h1]) hx05 (hx5.get h4 (by simp))) (fun h1=>?_)
 refine zaj rfl fun w8 hw8=>?_
 have hx58:Ext [] w2.heap w8.heap:=by rw [hw8];exact hx5
 have hx08:=hx2.trans hx58
 have hF8:=hF.ext hx08
 have h38:=hx58.get h3 (by simp)
 simp only [qo]
 refine jh (s:=.map) (t:=some m) rfl hF8.1 rfl ?_
 refine jh (s:=.str) (t:=strOf o.p) rfl h38 rfl ?_
 rw [ho]
 obtain⟨g,hg⟩:∃ g,g=zlj Th (jd q):=⟨_,rfl⟩
 have hlk:=fun {w:World}{H:Heap}(hw:w.heap=H) (hm:zx7 H m Th)=>z0k hw hm (jd q)
 rw [<-hg] at hlk
 refine zb4 (l:=[.any,.bool]) (zlz (g.getD zh5),g.isSome) (hlk rfl hF8.2) ?_
 refine jg rfl fun w9 hw9=>?_
 have hx9:Ext [] w8.heap w9.heap:=by rw [hw9];exact .push _
 have h6:w9.heap[w8.heap.size]?=some (.cells (thC zh5).toArray zi (0,0)):=by rw [hw9,zz9];exact zn
 have hF9:=hF8.ext hx9
 have h39:=hx9.get h38 (by simp)
 refine⟨zb4 (l:=[.any,.bool]) (zlz (g.getD zh5),g.isSome) (hlk rfl hF9.2) rfl,jh (s:=.str) (t:=strOf o.p) rfl h39 rfl (by rw [ho]),jh (s:=.map) (t:=some m) rfl hF9.1 rfl rfl,?_⟩
 refine zz8 _ rfl h6 rfl fun w10 hw10=>?_
 have hx8s:Ext [] w8.heap w10.heap:=by rw [hw10];exact hx9.set_own (.inl (Nat.le_refl _))
 have hx010:=hx08.trans hx8s
 have hs2:H.size+2<=w2.heap.size:=by rw [hw2];simp [e1]
 refine za8 (p:=g.isSome=true) Iff.rfl (fun h2=>bad 5 (by omega) (by unfold zfw;rw [if_neg h0,if_neg (by simpa using h1),<-hg,if_pos h2]) hx010 ((hx58.trans hx8s).get h4 (by simp))) (fun h2=>?_)
 refine zaj rfl fun w13 hw13=>?_
 have hx813:Ext [] w8.heap w13.heap:=by rw [hw13];exact hx8s
 have hF13:=hF8.ext hx813
 have h313:=hx813.get h38 (by simp)
 refine jh (s:=.map) (t:=some m) rfl hF13.1 rfl ?_
 refine jh (s:=.str) (t:=strOf o.p) rfl h313 rfl ?_
 refine jh (s:=.int .i64) (t:=o.k) rfl h313 rfl ?_
 refine qw (s:=.any) _ (z8j _ _) ?_
 rw [ho]
 refine zzl (f:=⟨jd q,decide (o.k=1),[]⟩) rfl hF13.2 (by rw [<-hg];simpa using h2) fun w14 hM14 hx14=>?_
 refine qw (s:=.any) _ (z7c _) ?_
 have hm0:zfw Th q=0:=by unfold zfw;rw [if_neg h0,if_neg (by simpa using h1),<-hg,if_neg h2]
 have hx214:Ext [m] w2.heap w14.heap:=((hx58.trans hx813).mono (by simp)).trans hx14
 have h414:=hx214.get h4 (by simp;omega)
 refine zvn res0 rfl h414 rfl fun w15 hw15=>?_
 refine xw rfl (by rw [hw15];exact xk h414) rfl ?_
 rw [hm0]
 have hx15:Ext [H.size+1] w14.heap w15.heap:=by rw [hw15];exact Ext.set _ (by simp)
 refine⟨rfl,?_,.inr ⟨rfl,hx15.get (hx14.get hF13.1 (by simpa using hbm)) (by have:=lt_of_get hF.1;simp;omega),hM14.ext hx15 (by simp;omega)⟩⟩
 exact ((hx2.mono (by simp)).trans hx214).own hx15 (fun c hc hlt=>by simp at hc;omega)
theorem z8t (F:FuncId) (p:Option Addr) (w:World):(Instr.makeFunc (Go.Fn.func F) #[.pointer p] #[]).run P w=.ok (.func (.func F) #[.pointer p] #[]) w:=by rfl
def zl3 (q:Path):OpR:=⟨1,jd q,[],[],0,0⟩
theorem z8i {q:Path}:OpOK (zl3 q):=⟨⟨rfl,.inl ⟨.inl rfl,rfl,rfl,rfl⟩⟩,by simp [zl3],by simp [zl3],by simp [zl3],by simp [zl3],by simp [zl3]⟩
set_option maxHeartbeats 8000000 in
theorem z8g {w:World}{H:Heap}{b m:Nat}{Th:List Fil}{q:Path}(hw:w.heap=H) (hF:FsW H b m Th) (hbm:b≠m) (hq:okP q) :
  zx P zgm #[.pointer (some ⟨b,0,none⟩),opV (zl3 q)] w fun e w'=>e=.returned (resV (zkv (zfw Th q)))/\Ext [m] H w'.heap/\((zfw Th q≠0/\FsW w'.heap b m Th)\/(zfw Th q=0/\FsW w'.heap b m (Th++[⟨jd q,true,[]⟩]))):=by
 have hmlt:m < H.size:=by obtain⟨M,c,h,_⟩:=hF.2;exact lt_of_get h
 have hblt:=lt_of_get hF.1
 refine zqc ?_
 unfold zmo
 refine jg hw fun w1 hw1=>?_
 refine jg rfl fun w2 hw2=>?_
 have e1:w1.heap.size=H.size+1:=by rw [hw1];simp
 have h3:w2.heap[H.size]?=some (.cells (opC (zl3 q)).toArray xg (0,0)):=by rw [hw2,hw1];exact zac zn
 have h4:w2.heap[H.size+1]?=some (.cells (zff res0).toArray zf (0,0)):=by rw [hw2,<-e1,zx1];exact zn
 have hx2:Ext [] H w2.heap:=by rw [hw2,hw1];exact (Ext.push _).push_own
 rw [e1]
 refine qg rfl ?_
 refine xw rfl h3 rfl ?_
 refine zl (z0b rfl (z8i (q:=q))) ?_
 rintro e w5 ⟨rfl,hx5⟩
 refine⟨_,rfl,?_⟩
 have hcode:(jm (zl3 q).p).2=0:=by show (jm (jd q)).2=0;rw [zbe hq]
 rw [hcode]
 refine qg rfl ?_
 refine qw (s:=.any) _ (z8t _ _ _) ?_
 refine jh (s:=.int .i64) (t:=1) rfl (hx5.get h3 (by simp)) rfl ?_
 refine ku (fun v w'=>v=.func (.func zdo) #[.pointer (some ⟨b,0,none⟩)] #[]/\w'=w5) ?_ ?_
 ·refine qg rfl ?_
  refine x9 ?_
  refine jc rfl ?_
  refine jc rfl ?_
  exact qw (s:=.any) _ (z8t _ _ _) ⟨rfl,rfl⟩
 rintro s3 w12 ⟨rfl,rfl⟩
 have h35:=hx5.get h3 (by simp)
 refine jh (s:=.str) (t:=strOf (jd q)) rfl h35 rfl ?_
 refine zl (zwl (jd q) rfl) ?_
 rintro e w13 ⟨rfl,hx13⟩
 rw [zbe hq]
 refine⟨(_,_),rfl,?_⟩
 have h313:=hx13.get h35 (by simp)
 refine zdj rfl h313 (by simp [opC]) fun w14 hw14=>?_
 have hw1413:w14.heap=w13.heap:=by rw [hw14];show w13.heap.setIfInBounds H.size (.cells ((opC (zl3 q)).toArray.setIfInBounds 1 (.string (strOf (jd q)))) xg (0,0))=_;rw [zol (v:=Value.string (strOf (jd q))) rfl,zol h313]
 have hx214:Ext [] w2.heap w14.heap:=by rw [hw1413];exact hx5.trans hx13
 have h314:w14.heap[H.size]?=some (.cells (opC (zl3 q)).toArray xg (0,0)):=by rw [hw1413];exact h313
 refine x9 ?_
 refine jh (s:=.int .i64) (t:=1) rfl h314 rfl ?_
 refine qg rfl ?_
 refine xw rfl h314 rfl ?_
 refine .func zdo #[.pointer (some ⟨b,0,none⟩)] #[] rfl ?_
 rw [show (#[Value.pointer (some ⟨b,0,none⟩)]++#[Value.agg (opC (zl3 q)).toArray]++#[]:Array Value)=#[.pointer (some ⟨b,0,none⟩),opV (zl3 q)] by simp [opV]]
 have hx014:=hx2.trans hx214
 refine zx.mono (R:=fun e w'=>e=.returned (resV (zkv (zfw Th q)))/\Ext [m] w14.heap w'.heap/\((zfw Th q≠0/\FsW w'.heap b m Th)\/(zfw Th q=0/\FsW w'.heap b m (Th++[⟨jd q,decide ((zl3 q).k=1),[]⟩])))) (z2h (o:=zl3 q) rfl (hF.ext hx014) hbm hq rfl) ?_
 rintro e w18 ⟨rfl,hx18,hres⟩
 refine⟨_,rfl,?_⟩
 have h418:=hx18.get (hx214.get h4 (by simp)) (by simp;omega)
 refine zvn _ rfl h418 rfl fun w19 hw19=>?_
 refine xw rfl (by rw [hw19];exact xk h418) rfl ?_
 have hx19:Ext [H.size+1] w18.heap w19.heap:=by rw [hw19];exact Ext.set _ (by simp)
 have keep:∀ {Th':List Fil},FsW w18.heap b m Th'->FsW w19.heap b m Th':=fun h=>⟨hx19.get h.1 (by simp;omega),h.2.ext hx19 (by simp;omega)⟩
 refine⟨rfl,((hx014.mono (by simp)).trans hx18).own hx19 (fun c hc hlt=>by simp at hc;omega),?_⟩
 rcases hres with⟨h1,h2⟩ | ⟨h1,h2⟩
 ·exact .inl ⟨h1,keep h2⟩
 ·exact .inr ⟨h1,keep h2⟩
def insL:List Ino->Ino->List Ino
 | [],i=>[i]
 | j :: L,i=>if zer j.names i.names < 0 then j :: insL L i else if j.names=i.names then i :: L else i :: j :: L
theorem zq0 {p:Path}:∀ {L:List Ino},(L.Pairwise fun a b=>zer a.names b.names < 0)->∃ lo hi:List Ino,(∀ j∈lo,zer j.names p < 0)/\(∀ j∈hi,zer p j.names < 0) /\
  ((L=lo++hi/\L.find? (fun i=>decide (i.names=p))=none)\/∃ i,i.names=p/\L=lo++i :: hi/\L.find? (fun i=>decide (i.names=p))=some i)
 | [],_=>⟨[],[],by simp,by simp,.inl ⟨rfl,rfl⟩⟩
 | j :: L,h=>by
  obtain⟨h1,h2⟩:=List.pairwise_cons.1 h
  by_cases hlt:zer j.names p < 0
  ·obtain⟨lo,hi,g1,g2,g3⟩:=zq0 (p:=p) h2
   have hne:j.names≠p:=fun e=>by rw [zgs.2 e] at hlt;omega
   refine⟨j :: lo,hi,fun x hx=>?_,g2,?_⟩
   ·rcases List.mem_cons.1 hx with rfl | hx
    ·exact hlt
    ·exact g1 x hx
   ·rcases g3 with⟨e1,e2⟩ | ⟨i,e0,e1,e2⟩
    ·exact .inl ⟨by rw [e1];rfl,by rw [List.find?_cons,decide_eq_false hne];exact e2⟩
    ·exact .inr ⟨i,e0,by rw [e1];rfl,by rw [List.find?_cons,decide_eq_false hne];exact e2⟩
  ·by_cases he:j.names=p
   ·exact⟨[],L,by simp,fun x hx=>by rw [<-he];exact h1 x hx,.inr ⟨j,he,rfl,by rw [List.find?_cons,decide_eq_true he]⟩⟩
   ·have hgt:zer p j.names < 0:=by
     have:=zki (p:=p) (q:=j.names)
     have h3:zer j.names p≠0:=fun e=>he (zgs.1 e)
     omega
    have hall:∀ x∈j :: L,zer p x.names < 0:=by
     intro x hx
     rcases List.mem_cons.1 hx with rfl | hx
     ·exact hgt
     ·exact zkk hgt (h1 x hx)
    refine⟨[],j :: L,by simp,hall,.inl ⟨rfl,?_⟩⟩
    rw [List.find?_eq_none]
    intro x hx e
    have e:x.names=p:=by simpa using e
    have:=hall x hx
    rw [e,zgs.2 rfl] at this;omega
theorem z1x {i:Ino}{hi:List Ino}(h:(∀ j∈hi,zer i.names j.names < 0)):∀ {lo:List Ino},(∀ j∈lo,zer j.names i.names < 0)->insL (lo++hi) i=lo++i :: hi
 | [],_=>by
  cases hi with
  | nil=>rfl
  | cons j hi=>
   have h1:=h j (by simp)
   have h2:=zki (p:=i.names) (q:=j.names)
   have h3:j.names≠i.names:=fun e=>by rw [zgs.2 e.symm] at h1;omega
   show insL (j :: hi) i=_
   rw [insL,if_neg (by omega),if_neg h3];rfl
 | j :: lo,hlo=>by
  show insL (j :: (lo++hi)) i=_
  rw [insL,if_pos (hlo j (by simp)),z1x h fun x hx=>hlo x (by simp [hx])];rfl
theorem ins_eq {i j:Ino}{hi:List Ino}(he:j.names=i.names):∀ {lo:List Ino},(∀ j∈lo,zer j.names i.names < 0)->insL (lo++j :: hi) i=lo++i :: hi
 | [],_=>by
  show insL (j :: hi) i=_
  rw [insL,if_neg (by rw [zgs.2 he];omega),if_pos he];rfl
 | x :: lo,hlo=>by
  show insL (x :: (lo++j :: hi)) i=_
  rw [insL,if_pos (hlo x (by simp)),ins_eq he fun y hy=>hlo y (by simp [hy])];rfl
def zw2 (o:Option Ino):Nat:=match o with | some i=>i.data.length | none=>0
theorem zr6 {a b:List Ino}:tot (a++b)=tot a+tot b:=by simp [tot]
theorem zor {i:Ino}{b:List Ino}:tot (i :: b)=i.data.length+tot b:=by simp [tot]
theorem z1e {L:List Ino}{i:Ino}(hG:Good L) (hi:okP i.names/\i.names≠[]) (hd:i.data.length<=1024) (hm:(L.find? fun j=>decide (j.names=i.names)).isSome=true\/L.length < 1024) :
  Good (insL L i)/\tot (insL L i)+zw2 (L.find? fun j=>decide (j.names=i.names))=tot L+i.data.length /\
  (∀ {M:IM}{c:Nat},MOk (fun _=>True) M c->St M L->St (zxm M (jd i.names) i c) (insL L i)):=by
 obtain⟨lo,hi',g1,g2,g3⟩:=zq0 (p:=i.names) hG.rise
 have rise:∀ {M:List Ino},((lo++hi').Pairwise fun a b=>zer a.names b.names < 0)->(lo++i :: hi').Pairwise fun a b=>zer a.names b.names < 0:=by
  intro _ h
  rw [List.pairwise_append] at h |-
  refine⟨h.1,List.pairwise_cons.2 ⟨g2,h.2.1⟩,fun a ha b hb=>?_⟩
  rcases List.mem_cons.1 hb with rfl | hb
  ·exact g1 a ha
  ·exact h.2.2 a ha b hb
 have mem:∀ {Q:Ino->Prop},Q i->(∀ j∈lo++hi',Q j)->∀ j∈lo++i :: hi',Q j:=by
  intro Q h1 h2 j hj
  rcases List.mem_append.1 hj with h | h
  ·exact h2 j (List.mem_append_left _ h)
  ·rcases List.mem_cons.1 h with rfl | h
   ·exact h1
   ·exact h2 j (List.mem_append_right _ h)
 rcases g3 with⟨e1,e2⟩ | ⟨j,e0,e1,e2⟩
 ·have hins:insL L i=lo++i :: hi':=by rw [e1,z1x g2 g1]
  rw [hins,e2]
  have hlen:L.length < 1024:=by rcases hm with h | h;rw [e2] at h;cases h;exact h
  refine⟨⟨mem hi (by rw [<-e1];exact hG.ok),rise (M:=[]) (by rw [<-e1];exact hG.rise),mem hd (by rw [<-e1];exact hG.small),?_⟩,?_,?_⟩
  ·rw [e1] at hlen;simp at hlen |-;omega
  ·rw [e1,zr6,zr6,zor];simp only [zw2];omega
  ·intro M c hM hS
   have hno:∀ x∈M,x.1≠jd i.names:=by
    intro x hx e
    have h1:x.2.1∈L:=hS.perm.mem_iff.1 (List.mem_map.2 ⟨x,hx,rfl⟩)
    have h2:=hS.key x hx
    have h3:=zr2 (hG.ok _ h1).1 hi.1 (by rw [<-h2,e])
    exact List.find?_eq_none.1 e2 _ h1 (by simpa using h3)
   rw [zjg (zn2 hno)]
   refine⟨?_,fun x hx=>?_,⟨mem hi (by rw [<-e1];exact hG.ok),rise (M:=[]) (by rw [<-e1];exact hG.rise),mem hd (by rw [<-e1];exact hG.small),by rw [e1] at hlen;simp at hlen |-;omega⟩⟩
   ·rw [List.map_append]
    have h1:=hS.perm
    rw [e1] at h1
    refine (h1.append_right [i]).trans ?_
    rw [List.append_assoc]
    exact List.Perm.append_left lo (List.perm_append_singleton i hi')
   ·rcases List.mem_append.1 hx with hx | hx
    ·exact hS.key x hx
    ·simp only [List.mem_singleton] at hx;subst hx;rfl
 ·have hins:insL L i=lo++i :: hi':=by rw [e1,ins_eq e0 g1]
  rw [hins,e2]
  have hsub:∀ x∈lo++hi',x∈L:=by
   intro x hx
   rw [e1]
   rcases List.mem_append.1 hx with h | h
   ·exact List.mem_append_left _ h
   ·exact List.mem_append_right _ (List.mem_cons_of_mem _ h)
  have hr2:(lo++hi').Pairwise fun a b=>zer a.names b.names < 0:=by
   have h:=hG.rise
   rw [e1,List.pairwise_append] at h
   rw [List.pairwise_append]
   exact⟨h.1,(List.pairwise_cons.1 h.2.1).2,fun a ha b hb=>h.2.2 a ha b (List.mem_cons_of_mem _ hb)⟩
  have hlen:(lo++i :: hi').length<=1024:=by have:=hG.many;rw [e1] at this;simpa using this
  have hgood:Good (lo++i :: hi'):=⟨mem hi (fun x hx=>hG.ok x (hsub x hx)),rise (M:=[]) hr2,mem hd (fun x hx=>hG.small x (hsub x hx)),hlen⟩
  refine⟨hgood,?_,?_⟩
  ·rw [e1,zr6,zr6,zor,zor];simp only [zw2];omega
  ·intro M c hM hS
   have hget:=zzt hM hS hi.1
   rw [e2] at hget
   have hiff:∀ x∈M,(x.1=jd i.names ↔ x.2.1.names=i.names):=by
    intro x hx
    have h1:x.2.1∈L:=hS.perm.mem_iff.1 (List.mem_map.2 ⟨x,hx,rfl⟩)
    have h2:=hS.key x hx
    exact⟨fun e=>zr2 (hG.ok _ h1).1 hi.1 (by rw [<-h2,e]),fun e=>by rw [h2,e]⟩
   rw [zmn (by rw [hget];rfl)]
   refine⟨?_,fun x hx=>?_,hgood⟩
   ·have h1:(M.map fun x=>if x.1=jd i.names then (x.1,i,x.2.2) else x).map (·.2.1)=(M.map (·.2.1)).map fun z=>if z.names=i.names then i else z:=by
     rw [List.map_map,List.map_map]
     apply List.map_congr_left
     intro x hx
     simp only [Function.comp]
     by_cases e:x.1=jd i.names
     ·rw [if_pos e,if_pos ((hiff x hx).1 e)]
     ·rw [if_neg e,if_neg fun h=>e ((hiff x hx).2 h)]
    rw [h1]
    refine (hS.perm.map _).trans ?_
    rw [e1,List.map_append,List.map_cons,if_pos e0]
    have keep:∀ {l:List Ino},(∀ x∈l,x.names≠i.names)->l.map (fun z=>if z.names=i.names then i else z)=l:=by
     intro l hl
     conv=>rhs;rw [<-List.map_id l]
     apply List.map_congr_left
     intro x hx
     rw [if_neg (hl x hx)];rfl
    have k1:=keep (l:=lo) fun x hx e=>by have:=g1 x hx;rw [e,zgs.2 rfl] at this;omega
    have k2:=keep (l:=hi') fun x hx e=>by have:=g2 x hx;rw [e,zgs.2 rfl] at this;omega
    exact List.Perm.of_eq (by rw [k1,k2])
   ·obtain⟨y,hy,rfl⟩:=List.mem_map.1 hx
    by_cases e:y.1=jd i.names
    ·rw [if_pos e];exact e
    ·rw [if_neg e];exact hS.key y hy
def kindOf (o:Option Ino):Int:=match o with | some i=>i.kind | none=>0
def zzs (L:List Ino) (t:List UInt8) (k:Int) (o:Bool) (d:List UInt8):Int×List Ino:=
 if (jm t).2≠0 then ((jm t).2,L) else if (jm t).1=[] then (132,L) else if zji k o d≠0 then (zji k o d,L)
 else if 1 < (jm t).1.length/\(zei L (jm t).1.dropLast).isSome=false then (4,L)
 else if 1 < (jm t).1.length/\kindOf (zei L (jm t).1.dropLast)≠2 then (70,L)
 else if k≠2/\0 < (zdd L (jm t).1).length then (130,L)
 else if (zei L (jm t).1).isSome=false/\1024<=L.length then (8,L)
 else (0,insL L ⟨(jm t).1,k,o,d⟩)
theorem zyd {o:Option Ino}:(zoh o)[1]?=some (.int .i64 (kindOf o)):=by cases o <;> rfl
theorem zzi {o:Option Ino}:∃ D:List UInt8,(zoh o)[3]?=some (.string (strOf D))/\D.length=zw2 o:=by
 cases o with
 | none=>exact⟨[],rfl,rfl⟩
 | some i=>exact⟨i.data,rfl,rfl⟩
theorem zpn {k:Int}{o:Bool}{d:List UInt8}(h:zji k o d=0):d.length<=1024:=by
 unfold zji at h
 split at h
 ·omega
 split at h
 ·omega
 split at h
 ·omega
 ·omega
theorem zzu {L:List Ino}{q:Path}(hq:okP q) (hne:q≠[]):zei L q=L.find? fun i=>decide (i.names=q):=by unfold zei;rw [if_pos ⟨hne,zsm.2 hq⟩]
theorem z14:∀ {L:List Ino},(∀ i∈L,i.data.length<=1024)->tot L<=1024 * L.length
 | [],_=>by simp [tot]
 | i :: L,h=>by
  have h1:=h i (by simp)
  have h2:=z14 (L:=L) fun j hj=>h j (by simp [hj])
  rw [zor,List.length_cons];omega
theorem Up.good {H:Heap}{p m:Nat}{n b:Int}{L:List Ino}(h:Up H p m n b L):Good L:=by obtain⟨_,_,_,_,_,h4⟩:=h;exact h4.good
set_option maxHeartbeats 8000000 in
theorem z6e {w:World}{H:Heap}{p m:Nat}{nn bb:Int}{L:List Ino}{t d:List UInt8}{k:Int}{o:Bool}(hw:w.heap=H) (hU:Up H p m nn bb L) :
  zx P zbo #[.pointer (some ⟨p,0,none⟩),z6q t k o d] w fun e w'=>e=.returned (.int .i64 (zzs L t k o d).1)/\Up w'.heap p m nn bb (zzs L t k o d).2/\Ext [p,m] H w'.heap:=by
 have hG:=hU.good
 have hmany:=hG.many
 have htot:=z14 hG.small
 obtain⟨M,c,u1,u2,u3,u4⟩:=id hU
 have hpl:=lt_of_get u1
 have hml:=lt_of_get u2
 have hpm:p≠m:=by rintro rfl;rw [u1] at u2;cases u2
 refine zms ?_
 unfold zhw
 refine jg hw fun w1 hw1=>?_
 have hx1:Ext [] H w1.heap:=by rw [hw1];exact .push _
 have hb1:w1.heap[H.size]?=some (.cells (raw t k o d).toArray zk (0,0)):=by rw [hw1];exact zn
 have keep:∀ {w:World}{C:Int},zzs L t k o d=(C,L)->Ext [] H w.heap->(Ending.returned (Value.int .i64 C)=.returned (.int .i64 (zzs L t k o d).1)/\Up w.heap p m nn bb (zzs L t k o d).2/\Ext [p,m] H w.heap):=by
  intro w C h hx
  rw [h]
  exact⟨rfl,hU.ext hx (by simp) (by simp),hx.mono (by simp)⟩
 refine qg rfl ?_
 refine jh (s:=.str) (t:=strOf t) rfl hb1 rfl ?_
 refine zl (zj0 t rfl) ?_
 rintro e w2 ⟨x,rfl,hm2,hx12⟩
 refine⟨(x,(jm t).2),rfl,?_⟩
 have hx2:=hx1.trans hx12
 have hb2:=hx12.get hb1 (by simp)
 refine zdk (fun h=>keep (by unfold zzs;rw [if_pos h]) hx2) (fun h0=>?_)
 have hq:=zka t
 have hP1:zzs L t k o d=if (jm t).1=[] then (132,L) else if zji k o d≠0 then (zji k o d,L)
   else if 1 < (jm t).1.length/\(zei L (jm t).1.dropLast).isSome=false then (4,L)
   else if 1 < (jm t).1.length/\kindOf (zei L (jm t).1.dropLast)≠2 then (70,L)
   else if k≠2/\0 < (zdd L (jm t).1).length then (130,L)
   else if (zei L (jm t).1).isSome=false/\1024<=L.length then (8,L)
   else (0,insL L ⟨(jm t).1,k,o,d⟩):=by unfold zzs;rw [if_neg fun h=>h h0]
 generalize (jm t).1=q at *
 have hxl:x.2.1=q.length:=by have:=hm2.len;simp at this;omega
 have hxc:x.2.1<=x.2.2:=by
  rcases hm2 with⟨rfl,_⟩ | ⟨_,_,_,_,_,_,_,h,_⟩
  ·exact Nat.le_refl _
  ·exact h
 have hq8:=hq.2
 refine zc9 (fun h=>keep (by rw [hP1,if_pos (List.eq_nil_of_length_eq_zero (by simp only at h;omega))]) hx2) (fun h=>?_)
 have hne:q≠[]:=by rintro rfl;apply h;simp only;simp at hxl;omega
 have hqpos:0 < q.length:=by cases q with | nil=>exact absurd rfl hne | cons a b=>simp
 rw [if_neg hne] at hP1
 refine xw rfl hb2 rfl ?_
 refine zl (z4o t d k o rfl) ?_
 rintro e w3 ⟨rfl,hx23⟩
 refine⟨zji k o d,rfl,?_⟩
 have hx3:=hx2.trans hx23
 have hx13:=hx12.trans hx23
 refine zdk (fun h=>keep (by rw [hP1,if_pos h]) hx3) (fun hform=>?_)
 rw [if_neg fun h=>h hform] at hP1
 have hm3:=hm2.ext hx23 (by simp)
 have hgq:=zzu (L:=L) hq hne
 refine ku (fun _ w7=>Ext [] w3.heap w7.heap/\¬(1 < q.length/\(zei L q.dropLast).isSome=false)/\¬(1 < q.length/\kindOf (zei L q.dropLast)≠2)) ?_ ?_
 ·refine zh8 ((x.2.1-1:Nat):Int) (by simp only;omega) (by omega) (by omega) ?_
  refine qw (s:=.slc) (if x.2.2=0 then x.1 else x.1.map (·.add (0 * 1)),(x.2.1-1)-0,x.2.2-0) (zbi zi4 zql .no (.yes rfl) (Nat.zero_le _) (show x.2.1-1<=x.2.2 by omega)) ?_
  have hcut:=(Mine.cut hm3 (k:=x.2.1-1) (by omega)).cells
  rw [zcn] at hcut
  have hdl:q.take (x.2.1-1)=q.dropLast:=by rw [List.dropLast_eq_take,hxl]
  have hcut:Cells w3.heap (if x.2.2=0 then x.1 else x.1.map (·.add (0 * 1))) (strRow (q.take (x.2.1-1))):=hcut
  rw [hdl] at hcut
  have hql:q.dropLast.length=x.2.1-1:=by rw [List.length_dropLast];omega
  have hokd:okP q.dropLast:=by rw [<-hdl];exact hq.take _
  refine qm (fun hpos=>?_) (fun hnp=>?_)
  ·have hpos:1 < q.length:=by simp only at hpos;omega
   refine zl (z4a rfl (hU.ext hx3 (by simp) (by simp)) hcut (by rw [hql];simp) (by simp only;omega) hokd.fit (by omega)) ?_
   rintro e w4 ⟨rfl,hx34⟩
   refine⟨(.agg (zoh (zei L q.dropLast)).toArray,(zei L q.dropLast).isSome),rfl,?_⟩
   rw [zcI]
   refine jg rfl fun w5 hw5=>?_
   have hb5:w5.heap[w4.heap.size]?=some (.cells (raw [] 0 false []).toArray zk (0,0)):=by rw [hw5];exact zn
   refine stI rfl hb5 rfl zj9 zm7 fun w6 hw6=>?_
   have hb6:w6.heap[w4.heap.size]?=some (.cells (zoh (zei L q.dropLast)).toArray zk (0,0)):=by rw [hw6];exact xk hb5
   have hx46:Ext [] w4.heap w6.heap:=by rw [hw6,hw5];exact (Ext.push _).set_own (.inl (Nat.le_refl _))
   have hx36:=hx34.trans hx46
   cases hs:(zei L q.dropLast).isSome with
   | false=>exact jc rfl (keep (by rw [hP1,if_pos ⟨hpos,hs⟩]) (hx3.trans hx36))
   | true=>
    refine qg rfl ?_
    refine jh (s:=.int .i64) (t:=kindOf (zei L q.dropLast)) rfl hb6 (by rw [List.getElem?_toArray];exact zyd) ?_
    refine zdk (fun hk2=>keep (by rw [hP1,if_neg (by simp [hs]),if_pos ⟨hpos,hk2⟩]) (hx3.trans hx36)) (fun hk2=>⟨hx36,by simp [hs],fun h=>h.2 hk2⟩)
  ·have hnp:¬1 < q.length:=by simp only at hnp;omega
   exact⟨.refl _ _,fun h=>hnp h.1,fun h=>hnp h.1⟩
 rintro _ w7 ⟨hx37,hA,hB⟩
 rw [if_neg hA,if_neg hB] at hP1
 have hx7:=hx3.trans hx37
 have hsm:=hq.small
 refine zl (zg8 rfl (hm3.ext hx37 (by simp)).cells hxl hxc (by omega)) ?_
 rintro e w8 ⟨rfl,hx78⟩
 refine⟨strOf (jd q),rfl,?_⟩
 have hx18:=hx13.trans (hx37.trans hx78)
 have hb8:=hx18.get hb1 (by simp)
 refine zdj rfl hb8 (by simp [raw]) fun w9 hw9=>?_
 have hb9:w9.heap[H.size]?=some (.cells (raw (jd q) k o d).toArray zk (0,0)):=by rw [hw9];exact xk hb8
 have hx9:Ext [] H w9.heap:=by rw [hw9];exact (hx1.trans hx18).set_own (.inl (Nat.le_refl _))
 have hH1:H.size < w1.heap.size:=lt_of_get hb1
 have hx29:Ext [H.size] w2.heap w9.heap:=by rw [hw9];exact ((hx23.trans (hx37.trans hx78)).mono (by simp)).set_own (.inr (by simp))
 refine zaj rfl fun w10 hw10=>?_
 have hx910:Ext [] w9.heap w10.heap:=by rw [hw10];exact .refl _ _
 have hx10:=hx9.trans hx910
 have hb10:=hx910.get hb9 (by simp)
 simp only [qo,zan,Nat.zero_add]
 refine jh (s:=.map) (t:=some m) rfl (hx10.get u1 (by simp)) rfl ?_
 refine jh (s:=.str) (t:=strOf (jd q)) rfl hb10 rfl ?_
 have hget:=zzt u3 u4 hq
 rw [<-hgq] at hget
 have hval:((zi9 M (jd q)).map z1w).getD zI=.agg (zoh (zei L q)).toArray:=by rw [hget];cases zei L q <;> rfl
 have look:∀ {w:World},w.heap[m]?=some (.map (ents keyS (vl z1w M)) c)->(Instr.lookup qp (.map (some m)) (.string (strOf (jd q))) true).run P w=.ok (.tuple #[.agg (zoh (zei L q)).toArray,.bool (zei L q).isSome]) w:=by
  intro w hm
  have h:=zom z3p uM zMI rfl hm u3 (k:=jd q) trivial
  rw [hval,hget] at h
  exact h
 refine zb4 (l:=[.any,.bool]) (.agg (zoh (zei L q)).toArray,(zei L q).isSome) (look (hx10.get u2 (by simp))) ?_
 rw [zcI]
 refine jg rfl fun w11 hw11=>?_
 have hx1011:Ext [] w10.heap w11.heap:=by rw [hw11];exact .push _
 have hx11:=hx10.trans hx1011
 have hb11:=hx1011.get hb10 (by simp)
 refine⟨zb4 (l:=[.any,.bool]) (.agg (zoh (zei L q)).toArray,(zei L q).isSome) (look (hx11.get u2 (by simp))) rfl,?_⟩
 refine⟨jh (s:=.str) (t:=strOf (jd q)) rfl hb11 rfl rfl,?_⟩
 refine⟨jh (s:=.map) (t:=some m) rfl (hx11.get u1 (by simp)) rfl rfl,?_⟩
 have ho11:w11.heap[w10.heap.size]?=some (.cells (raw [] 0 false []).toArray zk (0,0)):=by rw [hw11];exact zn
 refine stI rfl ho11 rfl zj9 zm7 fun w12 hw12=>?_
 have hHs:H.size < w10.heap.size:=by have:=hx910.1;have:=lt_of_get hb9;omega
 have ho12:w12.heap[w10.heap.size]?=some (.cells (zoh (zei L q)).toArray zk (0,0)):=by rw [hw12];exact xk ho11
 have hb12:w12.heap[H.size]?=some (.cells (raw (jd q) k o d).toArray zk (0,0)):=by rw [hw12];exact zeh hb11 (by omega)
 have hx1012:Ext [] w10.heap w12.heap:=by rw [hw12,hw11];exact (Ext.push _).set_own (.inl (Nat.le_refl _))
 have hx12':=hx10.trans hx1012
 generalize w10.heap.size=bo at *
 refine ku (fun _ w15=>Ext [] w12.heap w15.heap/\¬(k≠2/\0 < (zdd L q).length)/\¬((zei L q).isSome=false/\1024<=L.length)) ?_ ?_
 ·refine x9 ?_
  have many:∀ {w:World},Ext [] w12.heap w.heap->¬(k≠2/\0 < (zdd L q).length)->∀ {R1 R2:Prop},(1024<=L.length->(zei L q).isSome=false->R1)->(¬((zei L q).isSome=false/\1024<=L.length)->R2)->qx (!(zei L q).isSome) (ld .map (⟨p,3,none⟩:Addr) w fun (t84:(Option Nat))=>jv P (Builtin.len_ #[qp] zai #[(Value.map t84)]) (.int .i64) w fun (t85:Int)=>qx (t85==1024) R1 R2) R2:=by
   intro w hx _ R1 R2 h1 h2
   have hxx:=hx12'.trans hx
   cases hs:(zei L q).isSome with
   | true=>exact qg rfl (h2 (by simp [hs]))
   | false=>
    refine jc rfl ?_
    refine jh (s:=.map) (t:=some m) rfl (hxx.get u1 (by simp)) rfl ?_
    refine qw (s:=.int .i64) _ (ztv uM rfl (hxx.get u2 (by simp))) ?_
    have hmll:M.length=L.length:=by have:=u4.perm.length_eq;rwa [List.length_map] at this
    refine zc9 (fun h=>h1 (by omega) hs) (fun h=>h2 (fun h3=>h (by omega)))
  refine jh (s:=.int .i64) (t:=k) rfl hb12 rfl ?_
  refine zdk (fun hk2=>?_) (fun hk2=>?_)
  ·have hcq:Cells w12.heap x.1 (strRow q):=by
    have h1:=hm2.ext hx29 (fun b hb=>by have:=zak hm2 b hb;simp only [List.mem_singleton];omega)
    exact ((h1.ext hx910 (by simp)).ext hx1012 (by simp)).cells
   refine zl (zy0 rfl (hU.ext hx12' (by simp) (by simp)) hcq hxl (by omega)) ?_
   rintro e w13 ⟨y,rfl,hm13,hx13'⟩
   refine⟨y,rfl,?_⟩
   have hyl:y.2.1=(zdd L q).length:=by have:=hm13.len;rw [ji encI zhg] at this;omega
   refine qm (fun hpos=>keep (by rw [hP1,if_pos ⟨hk2,by omega⟩]) (hx12'.trans hx13')) (fun hnp=>?_)
   have hnb:¬(k≠2/\0 < (zdd L q).length):=fun h=>hnp (by omega)
   exact many hx13' hnb (fun h1 h2=>keep (by rw [hP1,if_neg hnb,if_pos ⟨h2,h1⟩]) (hx12'.trans hx13')) (fun h=>⟨hx13',hnb,h⟩)
  ·have hnb:¬(k≠2/\0 < (zdd L q).length):=fun h=>h.1 hk2
   exact many (.refl _ _) hnb (fun h1 h2=>keep (by rw [hP1,if_neg hnb,if_pos ⟨h2,h1⟩]) hx12') (fun h=>⟨.refl _ _,hnb,h⟩)
 rintro _ w15 ⟨hx15,hC,hD⟩
 rw [if_neg hC,if_neg hD] at hP1
 have hx015:=hx12'.trans hx15
 obtain⟨D,hDd,hDl⟩:=zzi (o:=zei L q)
 have hins:=z1e (L:=L) (i:=⟨q,k,o,d⟩) hG ⟨hq,hne⟩ (zpn hform) (by
  by_cases h:(zei L q).isSome=true
  ·left;rw [<-hgq];exact h
  ·right
   have h2:(zei L q).isSome=false:=by simpa using h
   have:¬1024<=L.length:=fun h3=>hD ⟨h2,h3⟩
   omega)
 obtain⟨hg2,ht2,hst2⟩:=hins
 have ht2':tot (insL L ⟨q,k,o,d⟩)+zw2 (zei L q)=tot L+d.length:=by rw [hgq];exact ht2
 have hdl:=zpn hform
 refine zaj rfl fun w16 hw16=>?_
 have hx16:Ext [] w15.heap w16.heap:=by rw [hw16];exact .refl _ _
 have hx016:=hx015.trans hx16
 have hp16:=hx016.get u1 (by simp)
 refine jh (s:=.int .i64) (t:=(tot L:Int)) rfl hp16 rfl ?_
 refine jh (s:=.str) (t:=strOf d) rfl ((hx15.trans hx16).get hb12 (by simp)) rfl ?_
 refine jh (s:=.str) (t:=strOf D) rfl ((hx15.trans hx16).get ho12 (by simp)) (by rw [List.getElem?_toArray];exact hDd) ?_
 simp only [zad]
 have hDs:D.length<=1024:=by
  rw [hDl,hgq]
  cases hf:L.find? (fun i=>decide (i.names=q)) with
  | none=>simp [zw2]
  | some i=>exact hG.small i (List.mem_of_find?_eq_some hf)
 refine zh8 ((d.length:Int)-D.length) rfl (by omega) (by omega) ?_
 refine zas ((tot (insL L ⟨q,k,o,d⟩):Nat):Int) (by omega) (by omega) (by omega) ?_
 refine zdj rfl hp16 (by simp) fun w17 hw17=>?_
 have hx17:Ext [p] w16.heap w17.heap:=by rw [hw17];exact Ext.set _ (by simp)
 have hp17:w17.heap[p]?=some (.cells #[.int .i64 nn,.int .i64 bb,.int .i64 (tot (insL L ⟨q,k,o,d⟩):Int),.map (some m)] zao (0,0)):=by rw [hw17];exact xk hp16
 refine zaj rfl fun w18 hw18=>?_
 have hx18':Ext [] w17.heap w18.heap:=by rw [hw18];exact .refl _ _
 have hp18:=hx18'.get hp17 (by simp)
 have hb18:=hx18'.get (hx17.get ((hx15.trans hx16).get hb12 (by simp)) (by simp;omega)) (by simp)
 have hm18:=hx18'.get (hx17.get (hx016.get u2 (by simp)) (by simp;omega)) (by simp)
 refine jh (s:=.map) (t:=some m) rfl hp18 rfl ?_
 refine jh (s:=.str) (t:=strOf (jd q)) rfl hb18 rfl ?_
 refine xw rfl hb18 rfl ?_
 refine zzg _ (zwf z3p uM rfl hm18 u3 (k:=jd q) trivial ⟨q,k,o,d⟩ rfl) ?_
 rw [hP1]
 refine⟨rfl,⟨_,_,zeh hp18 hpm,xk hm18,u3.upd trivial _,hst2 u3 u4⟩,?_⟩
 exact (((hx016.mono (by simp)).trans (hx17.mono (by simp))).trans (hx18'.mono (by simp))).set_own (.inr (by simp))
end Go.Proofs.YthaaekcaaecdeaaGreatDoor
namespace Go.Proofs.YthaaekcaaecdeaaGreatDoor
open Go Go.Fw Go.Proofs Go.Sort
def zqa (q:Path):Nat->List Ino->List Ino
 | 0,L=>L
 | k+1,L=>zqa q k (if (zei L (q.take (q.length-(k+1)))).isSome=true then L else (zzs L (jd (q.take (q.length-(k+1)))) 2 false []).2)
theorem bI2 (t:ByteArray) (w:World):(Instr.build zk #[(0,.string t),(1,.int .i64 2)]).run P w=.ok (.agg #[.string t,.int .i64 2,.bool false,.string (strOf [])]) w:=by kernel_rfl
theorem bI3 (t d:ByteArray) (w:World):(Instr.build zk #[(0,.string t),(1,.int .i64 1),(3,.string d)]).run P w=.ok (.agg #[.string t,.int .i64 1,.bool false,.string d]) w:=by kernel_rfl
set_option maxHeartbeats 4000000 in
theorem z4p {w:World}{H:Heap}{p m n nc:Nat}{nn bb:Int}{L:List Ino}{a:Option Addr}{q:Path}(hw:w.heap=H) (hU:Up H p m nn bb L) (hL:Cells H a (strRow q)) (hap:∀ x,a=some x->strRow q≠[]->x.block∉[p,m]) (hn:n=q.length) (hnc:n<=nc) (hq:okP q) :
  zx P zjb #[.pointer (some ⟨p,0,none⟩),.slice a n nc] w fun e w'=>e=.returned (.tuple #[])/\Up w'.heap p m nn bb (zqa q (q.length-1) L)/\Ext [p,m] H w'.heap:=by
 have hq8:=hq.2
 obtain⟨Res,hRes⟩:∃ Res,Res=zqa q (q.length-1) L:=⟨_,rfl⟩
 rw [<-hRes]
 refine zsh ?_
 unfold zn8
 refine za3 (fun k s W=>∃ (i:Nat) (L':List Ino),s=(i:Int)/\(k+i=q.length\/k=0/\q.length<=i)/\1<=i/\zqa q k L'=Res/\Up W.heap p m nn bb L'/\Ext [p,m] H W.heap) (q.length-1) ⟨1,L,rfl,by omega,by omega,hRes.symm,by rw [hw];exact hU,by rw [hw];exact .refl _ _⟩ ?_
 rintro k s W ⟨i,L',rfl,hk,hi1,he,hU',hx⟩ Q hQ
 refine qm (fun h=>?_) (fun h=>?_)
 ·obtain⟨k,rfl⟩:∃ k',k=k'+1:=⟨k-1,by omega⟩
  have e1:q.length-(k+1)=i:=by omega
  unfold zqa at he
  rw [e1] at he
  refine ku (fun _ W'=>∃ L2,zqa q k L2=Res/\Up W'.heap p m nn bb L2/\Ext [p,m] H W'.heap) ?_ ?_
  ·refine x9 ?_
   obtain⟨a',hcut,hLc⟩:=zrk (i:=i) (n:=(i:Int)) zi4 zql (hL.ext hx hap) hnc (by omega) rfl
   rw [Nat.mul_one,zcn] at hLc
   refine qw (s:=.slc) (a',i,nc) (hcut _) ?_
   have hql:(q.take i).length=i:=by rw [List.length_take,Nat.min_eq_left (by omega)]
   refine zl (z4a rfl hU' hLc hql.symm (show i<=nc by omega) (hq.take i).fit (by omega)) ?_
   rintro e w2 ⟨rfl,hx2⟩
   obtain⟨g,hg⟩:∃ g,g=zei L' (q.take i):=⟨_,rfl⟩
   rw [<-hg] at he |-
   refine⟨(_,_),rfl,?_⟩
   refine z6v g rfl fun w4 hw4=>?_
   have hx4:Ext [] W.heap w4.heap:=by rw [hw4];exact hx2.push_own
   cases g with
   | none=>
    refine jc rfl ?_
    refine qw (s:=.slc) (a',i,nc) (hcut _) ?_
    refine zl (zg8 rfl (hLc.ext hx4 (by simp)) hql.symm (show i<=nc by omega) (by have:=(hq.take i).small;omega)) ?_
    rintro e w5 ⟨rfl,hx5⟩
    refine⟨_,rfl,?_⟩
    refine qw (s:=.any) _ (bI2 _ _) ?_
    have hx45:=hx4.trans hx5
    refine zl (z6e (t:=jd (q.take i)) (d:=[]) (k:=2) (o:=false) rfl (hU'.ext hx45 (by simp) (by simp))) ?_
    rintro e w6 ⟨rfl,hU6,hx6⟩
    refine⟨_,rfl,?_⟩
    exact⟨_,he,hU6,(hx.trans (hx45.mono (by simp))).trans hx6⟩
   | some g=>
    refine qg rfl ?_
    exact⟨L',he,hU'.ext hx4 (by simp) (by simp),hx.trans (hx4.mono (by simp))⟩
  ·rintro _ W' ⟨L2,h1,h2,h3⟩
   refine zas ((i+1:Nat):Int) (by omega) (by omega) (by omega) ?_
   exact hQ k _ _ (by omega) ⟨i+1,L2,rfl,by omega,by omega,h1,h2,h3⟩
 ·have hk0:k=0:=by omega
  subst hk0
  unfold zqa at he
  rw [<-he]
  exact⟨rfl,hU',hx⟩
def zx6 (ls:List (List Fil)) (Lu:List Ino) (q:Path) (dir:Bool) (data:List UInt8) (L:List Ino):List Ino:=
 (zzs (zqa q (q.length-1) L) (jd q) (if dir=true then 2 else 1) (dir&&zm1 ls Lu q) data).2
set_option maxHeartbeats 8000000 in
theorem z5o {H0:Heap}{u p0 m0:Nat}{n0 b0:Int}{ls:List (List Fil)}{Lu:List Ino}(hU:zid H0 u p0 m0 n0 b0 ls Lu) (hls:ls.length<=1000000){w:World}{H:Heap}{p m n nc:Nat}{nn bb:Int}{L:List Ino}{a:Option Addr}{q:Path}{f:Fil}(hw:w.heap=H) (hx0:Ext [] H0 H) (hp0:H0.size<=p) (hm0:H0.size<=m)
  (hW:Up H p m nn bb L) (hL:Cells H a (strRow q)) (hap:∀ x,a=some x->strRow q≠[]->x.block∉[p,m]) (hn:n=q.length) (hnc:n<=nc) (hq:okP q) :
  zx P zd0 #[.pointer (some ⟨u,0,none⟩),.pointer (some ⟨p,0,none⟩),.slice a n nc,.agg (zg5 f).toArray] w fun e w'=>e=.returned (.tuple #[])/\Up w'.heap p m nn bb (zx6 ls Lu q f.dir f.data L)/\Ext [p,m] H w'.heap:=by
 have hplt:p < H.size/\m < H.size:=by obtain⟨_,_,h1,h2,_⟩:=hW;exact⟨lt_of_get h1,lt_of_get h2⟩
 refine zmy ?_
 unfold zh1
 refine jg hw fun w1 hw1=>?_
 have h7:w1.heap[H.size]?=some (.cells (zg5 f).toArray qj (0,0)):=by rw [hw1];exact zn
 have hx1:Ext [] H w1.heap:=by rw [hw1];exact .push _
 refine zl (l:=[]) (z4p rfl (hW.ext hx1 (by simp) (by simp)) (hL.ext hx1 (by simp)) hap hn hnc hq) ?_
 rintro e w2 ⟨rfl,hU2,hx2⟩
 refine⟨(),rfl,?_⟩
 refine zaj rfl fun w3 hw3=>?_
 have hx13:Ext [p,m] w1.heap w3.heap:=by rw [hw3];exact hx2
 have hU3:Up w3.heap p m nn bb (zqa q (q.length-1) L):=by rw [hw3];exact hU2
 have h73:=hx13.get h7 (by simp;omega)
 have hxH3:Ext [p,m] H w3.heap:=(hx1.mono (by simp)).trans hx13
 have hL3:=hL.ext hxH3 hap
 have h03:Ext [] H0 w3.heap:=hx0.own hxH3 (fun b hb hlt=>by simp at hb;omega)
 refine jh (s:=.str) (t:=strOf f.data) rfl h73 rfl ?_
 have tail:∀ {W:World}{b8:Nat},Ext [] w3.heap W.heap->w3.heap.size<=b8->W.heap[b8]?=some (.cells (raw (jd q) 1 false f.data).toArray zk (0,0))->Go.Fw.joinP Unit (fun k=>
   ld .bool (⟨H.size,1,none⟩:Addr) W fun (t18:Bool)=>
   qx t18 (
   qc P zbp #[(Value.pointer (some ⟨u,0,none⟩)),(Value.slice a n nc)] [.bool] false W fun (t21:Bool) w_7=>
   stC (⟨b8,1,none⟩:Addr) (Value.int .i64 2) w_7 fun w_8=>
   stC (⟨b8,2,none⟩:Addr) (Value.bool t21) w_8 fun w_9=>
   k () w_9) (
   k () W)) (fun _ w_10=>
   ldA P 4 (⟨b8,0,none⟩:Addr) w_10 fun t25=>
   qc P zbo #[(Value.pointer (some ⟨p,0,none⟩)),(Value.agg t25)] [.int .i64] false w_10 fun (_:Int) w_11=>
   Ending.returned (.tuple #[])=.returned (.tuple #[])/\Up w_11.heap p m nn bb (zx6 ls Lu q f.dir f.data L)/\Ext [p,m] H w_11.heap):=by
  intro W b8 hxW hb8 h8
  have hlt3:H.size < w3.heap.size:=lt_of_get h73
  refine ku (fun _ W'=>Ext [] w3.heap W'.heap/\W'.heap[b8]?=some (.cells (raw (jd q) (if f.dir=true then 2 else 1) (f.dir&&zm1 ls Lu q) f.data).toArray zk (0,0))) ?_ ?_
  ·refine jh (s:=.bool) (t:=f.dir) rfl (hxW.get h73 (by simp)) rfl ?_
   cases hd:f.dir with
   | false=>exact qg rfl ⟨hxW,h8⟩
   | true=>
    refine jc rfl ?_
    refine zl (z3k rfl (hU.ext (h03.trans hxW)) hls (hL3.ext hxW (by simp)) hn hnc hq) ?_
    rintro e w7 ⟨rfl,hx7⟩
    refine⟨_,rfl,?_⟩
    have h87:=hx7.get h8 (by simp)
    refine zdj rfl h87 (by simp [raw]) fun w8 hw8=>?_
    have h88:w8.heap[b8]?=some (.cells (raw (jd q) 2 false f.data).toArray zk (0,0)):=by rw [hw8];exact xk h87
    refine zdj rfl h88 (by simp [raw]) fun w9 hw9=>?_
    refine⟨by rw [hw9,hw8];exact ((hxW.trans hx7).set_own (.inl hb8)).set_own (.inl hb8),by rw [hw9];exact xk h88⟩
  ·rintro _ w10 ⟨hx10,h810⟩
   refine xw rfl h810 rfl ?_
   refine zl (z6e (t:=jd q) (d:=f.data) (k:=if f.dir=true then 2 else 1) (o:=f.dir&&zm1 ls Lu q) rfl (hU3.ext hx10 (by simp) (by simp))) ?_
   rintro e w11 ⟨rfl,hU11,hx11⟩
   exact⟨_,rfl,rfl,hU11,(hxH3.trans (hx10.mono (by simp))).trans hx11⟩
 refine⟨?_,?_⟩
 ·refine zl (zg8 rfl hL3 hn hnc (by have:=hq.small;omega)) ?_
  rintro e w4 ⟨rfl,hx4⟩
  refine⟨_,rfl,?_⟩
  refine⟨jh (s:=.str) (t:=strOf f.data) rfl (hx4.get h73 (by simp)) rfl rfl,?_⟩
  refine qw (s:=.any) _ (bI3 _ _ _) ?_
  rw [zcI]
  refine jg rfl fun w5 hw5=>?_
  have hx5:Ext [] w4.heap w5.heap:=by rw [hw5];exact .push _
  have h8:w5.heap[w4.heap.size]?=some (.cells (raw [] 0 false []).toArray zk (0,0)):=by rw [hw5];exact zn
  refine⟨qw (s:=.any) _ (bI3 _ _ _) rfl,jh (s:=.str) (t:=strOf f.data) rfl ((hx4.trans hx5).get h73 (by simp)) rfl rfl,?_⟩
  refine stI (vs:=raw (jd q) 1 false f.data) rfl h8 rfl rfl zpv fun w6 hw6=>?_
  exact tail (by rw [hw6];exact (hx4.trans hx5).set_own (.inl hx4.1)) hx4.1 (by rw [hw6];exact xk h8)
 ·rw [zcI]
  refine jg rfl fun w5 hw5=>?_
  have hx5:Ext [] w3.heap w5.heap:=by rw [hw5];exact .push _
  have h8:w5.heap[w3.heap.size]?=some (.cells (raw [] 0 false []).toArray zk (0,0)):=by rw [hw5];exact zn
  refine⟨jh (s:=.str) (t:=strOf f.data) rfl (hx5.get h73 (by simp)) rfl rfl,?_⟩
  refine zl (zg8 rfl (hL3.ext hx5 (by simp)) hn hnc (by have:=hq.small;omega)) ?_
  rintro e w4 ⟨rfl,hx4⟩
  refine⟨_,rfl,?_⟩
  refine⟨jh (s:=.str) (t:=strOf f.data) rfl ((hx5.trans hx4).get h73 (by simp)) rfl rfl,?_⟩
  refine qw (s:=.any) _ (bI3 _ _ _) ?_
  have h84:=hx4.get h8 (by simp)
  refine stI (vs:=raw (jd q) 1 false f.data) rfl h84 rfl rfl zpv fun w6 hw6=>?_
  exact tail (by rw [hw6];exact (hx5.trans hx4).set_own (.inl (Nat.le_refl _))) (Nat.le_refl _) (by rw [hw6];exact xk h84)
theorem ztb {w:World}{t k e:TypeId}{m:Option Nat}(d:Nat) (h:P.underlying t=some (.map k e)):(Op.equalIn (d+1) t (.map m) (.map none)).run P w=.ok m.isNone w:=by
 cases m <;> simp [Op.equalIn,zy h]
theorem z3w {w:World}{x y:Operand}{t k e:TypeId}{m:Option Nat}(h:P.underlying t=some (.map k e)):(eqM .eql t x y (.map m) (.map none)).run P w=.ok (.bool m.isNone) w:=by
 have hg:(eqGuard .eql t x y (.map m) (.map none)).run P w=.ok () w:=by unfold eqGuard;split <;> rfl
 have he:(Op.equal t (.map m) (.map none)).run P w=.ok m.isNone w:=ztb 9999 h
 simp only [eqM,Sem.run_bind,hg,Result.andThen_ok,binOp,he,Sem.run_pure]
theorem z1f {w:World}{H:Heap}{m:Nat}{es:Array MapEntry}{c:Nat}(hw:w.heap=H) (hm:H[m]?=some (.map es c)) :
  zx P jw #[.map (some m)] w fun e w'=>e=.returned (.map (some H.size))/\w'.heap=H.push (.map es c):=by
 refine zby ?_
 unfold zal
 refine qw (s:=.bool) _ (z3w uM) ?_
 refine qg rfl ?_
 refine qw (s:=.any) (.iface qp (.map (some m))) (by simp [Instr.makeInterface,zy uM];rfl) ?_
 have hrun:(Extern.MapsClone.clone #[.iface qp (.map (some m))]).run P w=.ok (.iface qp (.map (some H.size))) { w with heap:=H.push (.map es c) }:=by
  have hcl:Extern.MapsClone.clone #[.iface qp (.map (some m))]=(getObj m >>= fun x=>match x with
   | .map entries clock=>(newObj (.map entries clock) >>= fun r=>pure (.iface qp (.map (some r))))
   | _=>stuck "maps.clone: a map expected"):=rfl
  rw [hcl]
  simp only [Sem.run_bind,zwv hw hm (by intros;simp),Result.andThen_ok]
  subst hw
  simp
 refine zq5 (l:=[.any]) (.iface qp (.map (some H.size))) { w with heap:=H.push (.map es c) } (by rw [zte (e:=Extern.MapsClone.clone) (by kernel_rfl),hrun];rfl) ⟨rfl,rfl,rfl,Nat.le_refl _⟩ ?_
 refine qw (s:=.map) (some H.size) (by simp [Instr.typeAssert,zy uM];rfl) ?_
 exact⟨rfl,rfl⟩
theorem zcU:(zc P zao).size=4:=by kernel_rfl
theorem szU:P.cellsOf zao=4:=by kernel_rfl
theorem zvk {w:World}{H:Heap}{p m:Nat}{nn bb:Int}{L:List Ino}(hw:w.heap=H) (hU:Up H p m nn bb L) :
  zx P zcp #[.pointer (some ⟨p,0,none⟩)] w fun e w'=>∃ p' m',e=.returned (.pointer (some ⟨p',0,none⟩))/\Up w'.heap p' m' nn bb L/\Ext [] H w'.heap/\H.size<=p'/\H.size<=m':=by
 obtain⟨M,c,h1,h2,h3,h4⟩:=hU
 refine zkw ?_
 unfold zgx
 refine qg rfl ?_
 simp only [qo]
 refine xw hw h1 rfl ?_
 refine zqr (v:=.agg #[.int .i64 nn,.int .i64 bb,.int .i64 (tot L:Int),.map (some m)]) szU zcU (by simp [Value.cells]) (by intro v hv;simp [Value.cells] at hv;rcases hv with rfl | rfl | rfl | rfl <;> rfl) hw fun w2 hw2=>?_
 have hx2:Ext [] H w2.heap:=by rw [hw2];exact .push _
 have hb2:w2.heap[H.size]?=some (.cells #[.int .i64 nn,.int .i64 bb,.int .i64 (tot L:Int),.map (some m)] zao (0,0)):=by rw [hw2];exact zn
 simp only [zan,Nat.zero_add]
 refine jh (s:=.map) (t:=some m) rfl (hx2.get h1 (by simp)) rfl ?_
 refine zl (z1f rfl (hx2.get h2 (by simp))) ?_
 rintro e w3 ⟨rfl,hw3⟩
 refine⟨some w2.heap.size,rfl,?_⟩
 have hx3:Ext [] w2.heap w3.heap:=by rw [hw3];exact .push _
 have hm3:w3.heap[w2.heap.size]?=some (.map (ents keyS (vl z1w M)) c):=by rw [hw3];exact zn
 have hb3:=hx3.get hb2 (by simp)
 refine zdj rfl hb3 (by simp) fun w4 hw4=>?_
 have hlt:=lt_of_get hb2
 refine⟨H.size,w2.heap.size,rfl,⟨M,c,by rw [hw4];exact xk hb3,by rw [hw4];exact zeh hm3 (by omega),h3,h4⟩,?_,Nat.le_refl _,by omega⟩
 rw [hw4]
 exact (hx2.trans hx3).set_own (.inl (Nat.le_refl _))
theorem z6n:P.underlying za0=some (.interface #[("Error",252)]):=by kernel_rfl
theorem uEn:P.underlying vk=some (.int .i64):=by kernel_rfl
abbrev zro (e:Int):Value:=.iface vk (.int .i64 e)
abbrev z1r (b:Nat):Value:=.iface zbq (.pointer (some ⟨b,0,none⟩))
theorem zy6 (d:Nat) (t:TypeId) (v:Value){w:World}:(Op.equalIn (d+1) za0 (.iface t v) .nilIface).run P w=.ok false w:=by simp [Op.equalIn,zy z6n]
theorem zy5 (d:Nat){w:World}:(Op.equalIn (d+1) za0 .nilIface .nilIface).run P w=.ok true w:=by simp [Op.equalIn,zy z6n]
theorem eq_nil (t:TypeId) (v:Value){x:Operand}{w:World}:(eqM .eql za0 x (.const Value.nilIface) (.iface t v) Value.nilIface).run P w=.ok (.bool false) w:=by
 have hg:(eqGuard .eql za0 x (.const Value.nilIface) (.iface t v) Value.nilIface).run P w=.ok () w:=by unfold eqGuard;rfl
 have he:(Op.equal za0 (.iface t v) .nilIface).run P w=.ok false w:=zy6 9999 t v
 simp only [eqM,Sem.run_bind,hg,Result.andThen_ok,binOp,he,Sem.run_pure]
theorem z4c {x:Operand}{w:World}:(eqM .eql za0 x (.const Value.nilIface) Value.nilIface Value.nilIface).run P w=.ok (.bool true) w:=by
 have hg:(eqGuard .eql za0 x (.const Value.nilIface) Value.nilIface Value.nilIface).run P w=.ok () w:=by unfold eqGuard;cases x <;> rfl
 have he:(Op.equal za0 .nilIface .nilIface).run P w=.ok true w:=zy5 9999
 simp only [eqM,Sem.run_bind,hg,Result.andThen_ok,binOp,he,Sem.run_pure]
theorem zwo (d:Nat){t1 t2:TypeId}(h:t1≠t2) (v1 v2:Value){w:World}:(Op.equalIn (d+1) za0 (.iface t1 v1) (.iface t2 v2)).run P w=.ok false w:=by simp [Op.equalIn,zy z6n,h]
theorem zzr (d:Nat){i:TypeInfo}(h1:P.info? vk=some i) (h2:i.comparable=true) (a b:Int){w:World}:(Op.equalIn (d+2) za0 (zro a) (zro b)).run P w=.ok (a==b) w:=by simp [Op.equalIn,zy z6n,zy uEn,typeInfo,h1,h2]
theorem z7b:∃ i,P.info? vk=some i/\i.comparable=true:=by
 have h:(P.info? vk).map (·.comparable)=some true:=by kernel_rfl
 obtain⟨i,h1,h2⟩:=Option.map_eq_some_iff.1 h
 exact⟨i,h1,h2⟩
theorem z2y (a b:Int){x y:Operand}{w:World}:(eqM .eql za0 x y (zro a) (zro b)).run P w=.ok (.bool (a==b)) w:=by
 have hg:(eqGuard .eql za0 x y (zro a) (zro b)).run P w=.ok () w:=by unfold eqGuard;rfl
 obtain⟨i,h1,h2⟩:=z7b
 have he:(Op.equal za0 (zro a) (zro b)).run P w=.ok (a==b) w:=zzr 9998 h1 h2 a b
 simp only [eqM,Sem.run_bind,hg,Result.andThen_ok,binOp,he,Sem.run_pure]
theorem z5m (b:Nat) (e:Int){x y:Operand}{w:World}:(eqM .eql za0 x y (z1r b) (zro e)).run P w=.ok (.bool false) w:=by
 have hg:(eqGuard .eql za0 x y (z1r b) (zro e)).run P w=.ok () w:=by unfold eqGuard;rfl
 have he:(Op.equal za0 (z1r b) (zro e)).run P w=.ok false w:=zwo 9999 (by decide) _ _
 simp only [eqM,Sem.run_bind,hg,Result.andThen_ok,binOp,he,Sem.run_pure]
theorem z9e (e:Int) (w:World):(Instr.makeInterface vk (.int .i64 e)).run P w=.ok (zro e) w:=by kernel_rfl
theorem z9i (b:Nat) (w:World):(Instr.makeInterface zbq (.pointer (some ⟨b,0,none⟩))).run P w=.ok (z1r b) w:=by kernel_rfl
theorem bFl (o p:ByteArray) (e:Int) (w:World):(Instr.build zdw #[(0,.string o),(1,.string p),(2,zro e)]).run P w=.ok (.agg #[.string o,.string p,zro e]) w:=by kernel_rfl
def z3n (H:Heap) (v:Value) (e:Int):Prop:=(e=0/\v=.nilIface)\/(e≠0/\∃ b o p,v=z1r b/\H[b]?=some (.cells #[o,p,zro e] zdw (0,0)))
theorem z4s {w:World}{H:Heap}(o p:ByteArray) (e:Int) (hw:w.heap=H):zx P zlc #[.string o,.string p,.int .i64 e] w fun r w'=>∃ v,r=.returned v/\z3n w'.heap v e/\Ext [] H w'.heap:=by
 refine zuf ?_
 unfold zp1
 refine zc9 (fun h=>⟨_,rfl,.inl ⟨h,rfl⟩,by rw [hw];exact .refl _ _⟩) (fun h=>?_)
 refine qw (s:=.any) _ (z9e _ _) ?_
 refine qw (s:=.any) _ (bFl _ _ _ _) ?_
 refine jg hw fun w2 hw2=>?_
 refine qw (s:=.any) _ (z9i _ _) ?_
 exact⟨_,rfl,.inr ⟨h,H.size,_,_,rfl,by rw [hw2];exact zn⟩,by rw [hw2];exact .push _⟩
theorem z98 (t:TypeId) (v:Value) (h:t=vk\/t=zbq) (xT:TypeId) (w:World):(Instr.typeAssert (.iface t v) xT zd5 true).run P w=.ok (.tuple #[.nilIface,.bool false]) w:=by
 rcases h with rfl | rfl
 ·exact run_typeAssert_lacksB (want:=#[("Is",358)]) (by kernel_rfl) (by kernel_rfl) (by kernel_rfl) v xT w
 ·exact run_typeAssert_lacksB (want:=#[("Is",358)]) (by kernel_rfl) (by kernel_rfl) (by kernel_rfl) v xT w
theorem zz3 (v:Value) (xT:TypeId) (w:World):(Instr.typeAssert (.iface zbq v) xT zel true).run P w=.ok (.tuple #[.iface zbq v,.bool true]) w:=
 run_typeAssert_hasB (want:=#[("Unwrap",283)]) (by kernel_rfl) (by kernel_rfl) v xT w
theorem zv0 {t:TypeId}{v:Value}{name:String}{f:FuncId}{args:Array Value}{w:World}(hm:(Go.method (P.types.size+Made.depth) t v name).run P w=.ok (f,v) w):(callMethod (.iface t v) name args).run P w=(callFunc f (#[v]++args)).run P w:=by
 simp only [callMethod,Sem.run_bind]
 rw [show Sem.run P program w=.ok P w from rfl]
 simp only [Result.andThen_ok]
 rw [hm]
 simp only [Result.andThen_ok]
theorem z4g (v:Value) (w:World):(Go.method (P.types.size+Made.depth) zbq v "Unwrap").run P w=.ok (zb9,v) w:=by kernel_rfl
theorem zwm {w:World}{H:Heap}{b:Nat}{o p v:Value}(hw:w.heap=H) (hb:H[b]?=some (.cells #[o,p,v] zdw (0,0))) :
  zx P zb9 #[.pointer (some ⟨b,0,none⟩)] w fun e w'=>e=.returned v/\w'=w:=by
 refine zjx ?_
 unfold zgd
 simp only [qo,Addr.add,Nat.zero_add,Option.map_none]
 exact jh (s:=.any) (t:=v) hw hb rfl ⟨rfl,trivial⟩
theorem z7n {w:World}{H:Heap}{b:Nat}{o p:Value}{e:Int}(hw:w.heap=H) (hb:H[b]?=some (.cells #[o,p,zro e] zdw (0,0))) :
  zx P zim #[z1r b,zro e,.bool true] w fun r w'=>r=.returned (.bool true)/\w'.heap=H:=by
 refine zt4 ?_
 unfold zo4
 refine za3 (fun n s w'=>w'.heap=H/\((n=1/\s=z1r b)\/(n=0/\s=zro e))) 1 ⟨hw,.inl ⟨rfl,rfl⟩⟩ ?_
 rintro n s w1 ⟨hw1,⟨rfl,rfl⟩ | ⟨rfl,rfl⟩⟩ K hK
 ·refine x9 ?_
  refine x9 ?_
  refine jc rfl ?_
  refine qw (s:=.bool) _ (z5m _ _) ?_
  refine qg rfl ?_
  refine x9 ?_
  refine zb4 (l:=[.any,.bool]) (.nilIface,false) (z98 _ _ (.inr rfl) _ _) ?_
  refine qg rfl ?_
  refine qw (s:=.any) _ (zz3 _ _ _) ?_
  refine⟨_,true,rfl,rfl,?_⟩
  refine⟨_,z1r b,rfl,rfl,?_⟩
  refine jc rfl ?_
  refine .go zb9 #[.pointer (some ⟨b,0,none⟩)] w1 ?_ (.refl _) ?_
  ·rw [zv0 (z4g _ _)]
   exact (zwm hw1 hb).1
  ·refine (zwm hw1 hb).2.mono ?_
   rintro r w2 ⟨⟨rfl,rfl⟩,hc⟩
   refine⟨⟨zro e,rfl,?_⟩,hc⟩
   refine qw (s:=.bool) _ (eq_nil _ _) ?_
   refine qg rfl ?_
   exact hK 0 _ _ (by omega) ⟨hw1,.inr ⟨rfl,rfl⟩⟩
 ·refine x9 ?_
  refine x9 ?_
  refine jc rfl ?_
  refine qw (s:=.bool) _ (z2y _ _) ?_
  exact jc (by simp) ⟨rfl,hw1⟩
theorem qak (e:Int) (w:World):(Extern.ReflectliteType.typeOf #[zro e]).run P w=.ok (.iface zeg (.agg #[.pointer (some ⟨P.globals.size,vk,none⟩)])) w:=by kernel_rfl
theorem z7s (w:World):((Extern.ReflectliteType.method fun t=>do Extern.Rtype.noPackHeld "Comparable" t;pure (.bool (<-typeInfo t).comparable)) (#[.agg #[.pointer (some ⟨P.globals.size,vk,none⟩)]]++#[])).run P w=.ok (.bool true) w:=by kernel_rfl
theorem z7d (v:Value) (w:World):(Go.method (P.types.size+Made.depth) zeg v "Comparable").run P w=.ok (za9,v) w:=by kernel_rfl
theorem z7y {w:World}{H:Heap}{v:Value}{e:Int}(hw:w.heap=H) (hv:z3n H v e):zx P zhx #[v,.int .i64 e] w fun r w'=>r=.returned (.bool true)/\w'.heap=H:=by
 refine zu9 ?_
 unfold zrl
 rcases hv with⟨rfl,rfl⟩ | ⟨he,b,o,p,rfl,hb⟩
 ·refine jc rfl ?_
  exact qw (s:=.bool) _ z4c ⟨rfl,hw⟩
 ·refine qg (by simpa using he) ?_
  refine qw (s:=.any) _ (z9e _ _) ?_
  refine zl (l:=[.bool]) (R:=fun r w'=>r=.returned (.bool true)/\w'.heap=H) ?_ ?_
  ·refine zt7 ?_
   unfold zov
   refine x9 ?_
   refine qw (s:=.bool) _ (eq_nil _ _) ?_
   refine qg rfl ?_
   refine qw (s:=.bool) _ (eq_nil _ _) ?_
   refine qg rfl ?_
   refine zp3 (l:=[.any]) _ (by rw [zf4 (e:=Extern.ReflectliteType.typeOf) (by kernel_rfl),qak];rfl) ?_
   refine .own (.bool true) w ?_ (.refl _) ⟨true,rfl,?_⟩
   ·rw [zv0 (z7d _ _),zdm (by kernel_rfl),z7s]
    rfl
   ·refine zl (z7n hw hb) ?_
    rintro r w1 ⟨rfl,hw1⟩
    exact⟨true,rfl,rfl,hw1⟩
  ·rintro r w1 ⟨rfl,hw1⟩
   exact⟨true,rfl,rfl,hw1⟩
theorem z9j (b:Bool) (w:World):(Instr.build qj #[(1,.bool b)]).run P w=.ok (.agg #[.string (strOf []),.bool b,.string (strOf [])]) w:=by kernel_rfl
set_option maxHeartbeats 4000000 in
theorem z03 {H0:Heap}{u p0 m0:Nat}{n0 b0:Int}{ls:List (List Fil)}{Lu:List Ino}(hU:zid H0 u p0 m0 n0 b0 ls Lu) (hls:ls.length<=1000000){w:World}{H:Heap}{p m:Nat}{nn bb:Int}{L:List Ino}{q:Path}{fs:Option Addr}(hw:w.heap=H) (hx0:Ext [] H0 H) (hp0:H0.size<=p) (hm0:H0.size<=m)
  (hW:Up H p m nn bb L) (hq:okP q) :
  zx P zd4 #[.pointer (some ⟨u,0,none⟩),.pointer (some ⟨p,0,none⟩),opV (zl3 q),.pointer fs] w fun e w'=>e=.returned (.tuple #[])/\Up w'.heap p m nn bb (zx6 ls Lu q true [] L)/\Ext [p,m] H w'.heap:=by
 have hplt:p < H.size/\m < H.size:=by obtain⟨_,_,h1,h2,_⟩:=hW;exact⟨lt_of_get h1,lt_of_get h2⟩
 refine zjs ?_
 unfold zgc
 refine jg hw fun w1 hw1=>?_
 have h6:w1.heap[H.size]?=some (.cells (opC (zl3 q)).toArray xg (0,0)):=by rw [hw1];exact zn
 have hx1:Ext [] H w1.heap:=by rw [hw1];exact .push _
 refine jh (s:=.str) (t:=strOf (jd q)) rfl h6 rfl ?_
 refine zl (zj0 (jd q) rfl) ?_
 rintro e w2 ⟨x,rfl,hX,hx2⟩
 refine⟨(_,_),rfl,?_⟩
 replace hX:Mine w2.heap w1.heap.size qy 1 x (strRow q):=by rw [zbe hq] at hX;exact hX
 refine jh (s:=.str) (t:=strOf []) rfl (hx2.get h6 (by simp)) rfl ?_
 refine zl (zj0 [] rfl) ?_
 rintro e w3 ⟨x2,rfl,_,hx3⟩
 refine⟨(_,_),rfl,?_⟩
 have hx23:=hx2.trans hx3
 have h63:=hx23.get h6 (by simp)
 refine jh (s:=.int .i64) (t:=1) rfl h63 rfl ?_
 refine ku (fun _ w'=>Up w'.heap p m nn bb (zx6 ls Lu q true [] L)/\Ext [p,m] H w'.heap) ?_ (fun _ w' h=>⟨rfl,h⟩)
 refine x9 ?_
 refine jc rfl (jc rfl ?_)
 refine jh (s:=.int .i64) (t:=1) rfl h63 rfl ?_
 refine qw (s:=.any) _ (z9j _ _) ?_
 have hX3:=hX.ext hx3 (by simp)
 have hxl:x.2.1=q.length:=by have:=hX.len;rw [jl] at this;omega
 have hx03:=hx1.trans hx23
 have hge:=zak hX3
 have hap:∀ z,x.1=some z->strRow q≠[]->z.block∉[p,m]:=by
  intro z hz _ hb
  have:=hge z.block (by simp [zbu,hz])
  have h1:=hx1.1
  simp at hb
  omega
 refine zl (l:=[]) (z5o (f:=⟨[],true,[]⟩) hU hls rfl (hx0.trans hx03) hp0 hm0 (hW.ext hx03 (by simp) (by simp)) hX3.cells hap hxl (zj8 hX3) hq) ?_
 rintro e w5 ⟨rfl,hU5,hx5⟩
 exact⟨(),rfl,hU5,(hx03.mono (by simp)).trans hx5⟩
theorem zx4.to {H H':Heap}{u p:Nat}{pu:Value}{ls:List (List Fil)}(h:zx4 H u (upP p) ls) (hx:Ext [u] H H') (hc:∀ x,H[u]?=some (.cells #[zhq x,upP p] zdu (0,0))->H'[u]?=some (.cells #[zhq x,pu] zdu (0,0))):zx4 H' u pu ls:=by
 obtain⟨x,ms,h1,h2,h3,h4,h5⟩:=h
 refine⟨x,ms,hc x h1,?_,h3,h4,fun i m hi=>?_⟩
 ·rcases h2 with h | ⟨b,o,c,T,fr,hx',hb,hs,he⟩
  ·exact .inl h
  ·by_cases hbu:b=u
   ·subst hbu
    rw [h1] at hb
    simp only [Option.some.injEq,Obj.cells.injEq] at hb
    obtain⟨rfl,_,_⟩:=hb
    cases ms with
    | nil=>exact .inl rfl
    | cons m ms=>
     exfalso
     simp only [List.map_cons,List.length_cons,List.size_toArray,List.length_nil] at hs he
     have h0:=congrArg (fun l=>l[0]?) he
     rw [Array.getElem?_toList,Array.getElem?_extract,if_pos (by simp;omega)] at h0
     simp only [List.getElem?_cons_zero,Nat.add_zero] at h0
     match o with
     | 0=>simp [zhq,z5e] at h0
     | 1=>simp [z5e,upP] at h0
     | o+2=>simp at h0
   ·exact .inr ⟨b,o,c,T,fr,hx',hx.get hb (by simpa using hbu),hs,he⟩
 ·obtain⟨M,c,g1,g2⟩:=h5 i m hi
  exact⟨M,c,hx.get g1 (by simp;rintro rfl;rw [h1] at g1;cases g1),g2⟩
theorem zx4.free {H H':Heap}{u b:Nat}{pu:Value}{ls:List (List Fil)}{c:Array Value}{T:TypeId}{f:Nat×Nat}(h:zx4 H u pu ls) (hb:H[b]?=some (.cells c T f)) (hc:∀ (i:Nat) m,c[i]?≠some (Value.map m)) (hx:Ext [b] H H') (hbu:b≠u):zx4 H' u pu ls:=by
 obtain⟨x,ms,h1,h2,h3,h4,h5⟩:=h
 refine⟨x,ms,hx.get h1 (by simp;exact fun e=>hbu e.symm),?_,h3,h4,fun i m hi=>?_⟩
 ·rcases h2 with h | ⟨b',o,c',T',fr,hx',hb',hs,he⟩
  ·exact .inl h
  ·by_cases hbb:b'=b
   ·subst hbb
    rw [hb] at hb'
    simp only [Option.some.injEq,Obj.cells.injEq] at hb'
    obtain⟨rfl,_,_⟩:=hb'
    cases ms with
    | nil=>exact .inl rfl
    | cons m ms=>
     exfalso
     have h0:=congrArg (fun l=>l[0]?) he
     rw [Array.getElem?_toList,Array.getElem?_extract,if_pos (by simp at hs |-;omega)] at h0
     exact hc _ _ h0
   ·exact .inr ⟨b',o,c',T',fr,hx',hx.get hb' (by simpa using hbb),hs,he⟩
 ·obtain⟨M,c',g1,g2⟩:=h5 i m hi
  exact⟨M,c',hx.get g1 (by simp;rintro rfl;rw [hb] at g1;cases g1),g2⟩
theorem zid.free {H H':Heap}{u p m b:Nat}{nn bb:Int}{ls:List (List Fil)}{L:List Ino}{c:Array Value}{T:TypeId}{f:Nat×Nat}(h:zid H u p m nn bb ls L) (hb:H[b]?=some (.cells c T f)) (hc:∀ (i:Nat) m,c[i]?≠some (Value.map m)) (hT:T≠zao) (hx:Ext [b] H H') (hbu:b≠u):zid H' u p m nn bb ls L:=by
 refine⟨h.1.free hb hc hx hbu,h.2.ext hx ?_ ?_⟩
 ·obtain⟨_,_,g1,g2,_⟩:=h.2
  simp only [List.mem_singleton];rintro rfl
  rw [hb] at g1
  simp only [Option.some.injEq,Obj.cells.injEq] at g1
  exact hT g1.2.1
 ·obtain⟨_,_,g1,g2,_⟩:=h.2
  simp only [List.mem_singleton];rintro rfl
  rw [hb] at g2
  cases g2
theorem zpg {r:ResR}:∀ (i:Nat) m,(zff r).toArray[i]?≠some (Value.map m):=by
 intro i m h
 match i with
 | 0 | 1 | 2 | 3 | 4=>simp [zff] at h
 | i+5=>simp [zff] at h
def doA (ls:List (List Fil)) (nn bb:Int) (L:List Ino) (q:Path):ResR×List Ino:=
 if zfw (zh4 :: zhn ls L) q≠0 then (zkv (zfw (zh4 :: zhn ls L) q),L)
 else if zz5 nn bb (zx6 ls L q true [] L)=true then (zkv 3,L) else (res0,zx6 ls L q true [] L)
set_option maxHeartbeats 8000000 in
theorem z7a {w:World}{H:Heap}{u p m:Nat}{nn bb:Int}{ls:List (List Fil)}{L:List Ino}{q:Path}(hw:w.heap=H) (hU:zid H u p m nn bb ls L) (hls:LsOK ls) (hT:TreeF (zhn ls L)) (hq:okP q) :
  zx P zf6 #[.pointer (some ⟨u,0,none⟩),opV (zl3 q)] w fun e w'=>e=.returned (resV (doA ls nn bb L q).1)/\Ext [u] H w'.heap/\∃ p' m',zid w'.heap u p' m' nn bb ls (doA ls nn bb L q).2:=by
 have hf4:=hls.few
 have hult:u < H.size:=by obtain⟨_,_,h,_⟩:=hU.1;exact lt_of_get h
 have hsm:(zhn ls L).length<=4000:=zv1 hls (by obtain⟨_,_,_,_,_,hst⟩:=hU.2;exact hst.good.many) 9 [] .root
 refine zm9 ?_
 unfold ziu
 refine jg hw fun w1 hw1=>?_
 refine jg rfl fun w2 hw2=>?_
 have e1:w1.heap.size=H.size+1:=by rw [hw1];simp
 have h3:w2.heap[H.size]?=some (.cells (opC (zl3 q)).toArray xg (0,0)):=by rw [hw2,hw1];exact zac zn
 have h4:w2.heap[H.size+1]?=some (.cells (zff res0).toArray zf (0,0)):=by rw [hw2,<-e1,zx1];exact zn
 have hx2:Ext [] H w2.heap:=by rw [hw2,hw1];exact (Ext.push _).push_own
 have e2:w2.heap.size=H.size+2:=by rw [hw2];simp [e1]
 rw [e1]
 refine qg rfl ?_
 refine zl (zzp rfl (hU.ext hx2) hls) ?_
 rintro e w4 ⟨y,rfl,hY,hx4⟩
 refine⟨y,rfl,?_⟩
 refine zl (z6d rfl hY (by omega) hT) ?_
 rintro e w5 ⟨b,mp,rfl,hF,hx5,hb5,hm5⟩
 refine⟨(_,_),rfl,?_⟩
 have hx25:=hx4.trans hx5
 have h35:=hx25.get h3 (by simp)
 refine xw rfl h35 rfl ?_
 have hbm:b≠mp:=by
  rintro rfl
  obtain⟨h1,M,c,h2,_⟩:=hF
  rw [h1] at h2;cases h2
 refine zl (z8g rfl hF hbm hq) ?_
 rintro e w6 ⟨rfl,hx6,_⟩
 refine⟨_,rfl,?_⟩
 obtain⟨e,he⟩:∃ e,e=zfw (zh4 :: zhn ls L) q:=⟨_,rfl⟩
 rw [<-he]
 have hx26:Ext [] w2.heap w6.heap:=hx25.own hx6 (fun c hc hlt=>by have:=hx4.1;simp at hc;omega)
 refine zw3 (zkv e) rfl fun w8 hw8=>?_
 have hx8:Ext [] w6.heap w8.heap:=by rw [hw8];exact .push _
 have h7:w8.heap[w6.heap.size]?=some (.cells (zff (zkv e)).toArray zf (0,0)):=by rw [hw8];exact zn
 have hx28:=hx26.trans hx8
 have hx08:=hx2.trans hx28
 have h38:=hx28.get h3 (by simp)
 have h48:=hx28.get h4 (by simp)
 have hle:H.size+2<=w6.heap.size:=by have:=hx26.1;omega
 refine ku (fun _ w'=>w'.heap=w8.heap/\e=0) ?_ ?_
 ·refine jh (s:=.int .i64) (t:=e) rfl h7 rfl ?_
  refine zdk (fun h=>?_) (fun h=>?_)
  ·refine xw rfl h7 rfl ?_
   refine zvn (zkv e) rfl h48 rfl fun w9 hw9=>?_
   refine xw rfl (by rw [hw9];exact xk h48) rfl ?_
   have hd:doA ls nn bb L q=(zkv e,L):=by unfold doA;rw [<-he,if_pos h]
   rw [hd]
   have hx9:Ext [] H w9.heap:=by rw [hw9];exact hx08.set_own (.inl (by omega))
   exact⟨rfl,hx9.mono (by simp),p,m,hU.ext hx9⟩
  ·refine jh (s:=.int .i64) (t:=1) rfl h38 rfl ?_
   refine zl (z2l 1) ?_
   rintro r w10 ⟨rfl,rfl⟩
   refine⟨_,rfl,?_⟩
   refine qg rfl ?_
   refine jh (s:=.int .i64) (t:=1) rfl h38 rfl ?_
   exact qg rfl ⟨rfl,h⟩
 rintro _ w13 ⟨hw13,he0⟩
 have hm0:zfw (zh4 :: zhn ls L) q=0:=he.symm.trans he0
 rw [he0] at h7
 rw [<-hw13] at h38 h48 h7 hx08
 have hU13:=hU.ext hx08
 obtain⟨xl,ms,u1,u2⟩:=id hU13.1
 simp only [qo,Addr.add,Nat.zero_add,Option.map_none]
 refine jh (s:=.ptr) (t:=some ⟨p,0,none⟩) rfl u1 rfl ?_
 refine zl (zvk rfl hU13.2) ?_
 rintro e w14 ⟨p',m',rfl,hU14,hx14,hp',hm'⟩
 refine⟨_,rfl,?_⟩
 refine xw rfl (hx14.get h38 (by simp)) rfl ?_
 have hle13:H.size+2<=w13.heap.size:=by have:=lt_of_get h7;have:=hx08.1;omega
 refine zl (l:=[]) (z03 hU (by omega) rfl (hx08.trans hx14) (by omega) (by omega) hU14 hq) ?_
 rintro e w15 ⟨rfl,hU15,hx15⟩
 refine⟨(),rfl,?_⟩
 refine zl (z4z rfl hU15) ?_
 rintro e w16 ⟨rfl,hw16⟩
 refine⟨_,rfl,?_⟩
 have hx1316:Ext [] w13.heap w16.heap:=by rw [hw16];exact hx14.own hx15 (fun c hc hlt=>by simp at hc;omega)
 have h416:=hx1316.get h48 (by simp)
 have h716:=hx1316.get h7 (by simp)
 have hx016:=hx08.trans hx1316
 have hU16:Up w16.heap p' m' nn bb (zx6 ls L q true [] L):=by rw [hw16];exact hU15
 refine za8 (p:=zz5 nn bb (zx6 ls L q true [] L)=true) Iff.rfl (fun ho=>?_) (fun ho=>?_)
 ·refine qw (s:=.any) _ (z6s _ _) ?_
  refine zvn (zkv 3) rfl h416 rfl fun w17 hw17=>?_
  refine xw rfl (by rw [hw17];exact xk h416) rfl ?_
  have hd:doA ls nn bb L q=(zkv 3,L):=by unfold doA;rw [if_neg (by simp [hm0]),if_pos ho]
  rw [hd]
  have hx17:Ext [] H w17.heap:=by rw [hw17];exact hx016.set_own (.inl (by omega))
  exact⟨rfl,hx17.mono (by simp),p,m,hU.ext hx17⟩
 ·obtain⟨x16,ms16,v1,_⟩:=id hU.1
  have v16:=hx016.get v1 (by simp)
  refine zdj rfl v16 (by simp) fun w18 hw18=>?_
  have hx18:Ext [u] w16.heap w18.heap:=by rw [hw18];exact Ext.set _ (by simp)
  have h418:=hx18.get h416 (by simp;omega)
  have hl7:=lt_of_get h7
  refine xw rfl (hx18.get h716 (by simp;omega)) rfl ?_
  refine zvn res0 rfl h418 rfl fun w19 hw19=>?_
  refine xw rfl (by rw [hw19];exact xk h418) rfl ?_
  have hd:doA ls nn bb L q=(res0,zx6 ls L q true [] L):=by unfold doA;rw [if_neg (by simp [hm0]),if_neg ho]
  rw [hd]
  have hx19:Ext [H.size+1] w18.heap w19.heap:=by rw [hw19];exact Ext.set _ (by simp)
  have hxu:Ext [u] H w19.heap:=((hx016.mono (by simp)).trans hx18).own hx19 (fun c hc hlt=>by simp at hc;omega)
  have hu18:Up w18.heap p' m' nn bb (zx6 ls L q true [] L):=hU16.ext hx18 (by simp;omega) (by simp;omega)
  refine⟨rfl,hxu,p',m',hU.1.to hxu (fun x hx=>?_),hu18.ext hx19 (by simp;omega) (by simp;omega)⟩
  rw [v1] at hx
  simp only [Option.some.injEq,Obj.cells.injEq,Array.mk.injEq,List.cons.injEq,and_true] at hx
  rw [<-hx]
  refine hx19.get ?_ (by simp;omega)
  rw [hw18];exact xk v16
theorem z3n.ext {H H':Heap}{v:Value}{e:Int}(h:z3n H v e) (hx:Ext [] H H'):z3n H' v e:=by
 rcases h with h | ⟨h,b,o,p,hv,hb⟩
 ·exact .inl h
 ·exact .inr ⟨h,b,o,p,hv,hx.get hb (by simp)⟩
set_option maxHeartbeats 4000000 in
theorem z7k {w:World}{H:Heap}{u p m:Nat}{nn bb:Int}{ls:List (List Fil)}{L:List Ino}{q:Path}(hw:w.heap=H) (hU:zid H u p m nn bb ls L) (hls:LsOK ls) (hT:TreeF (zhn ls L)) (hq:okP q) :
  zx P zd8 #[.pointer (some ⟨u,0,none⟩),opV (zl3 q)] w fun e w'=>∃ v,e=.returned (.tuple #[resV (doA ls nn bb L q).1,v])/\z3n w'.heap v (doA ls nn bb L q).1.code/\Ext [u] H w'.heap/\∃ p' m',zid w'.heap u p' m' nn bb ls (doA ls nn bb L q).2:=by
 have hult:u < H.size:=by obtain⟨_,_,h,_⟩:=hU.1;exact lt_of_get h
 refine znp ?_
 unfold zi0
 refine jg hw fun w1 hw1=>?_
 refine jg rfl fun w2 hw2=>?_
 have e1:w1.heap.size=H.size+1:=by rw [hw1];simp
 have h3:w2.heap[H.size]?=some (.cells (opC (zl3 q)).toArray xg (0,0)):=by rw [hw2,hw1];exact zac zn
 have h4:w2.heap[H.size+1]?=some (.cells (zff res0).toArray zf (0,0)):=by rw [hw2,<-e1,zx1];exact zn
 have hx2:Ext [] H w2.heap:=by rw [hw2,hw1];exact (Ext.push _).push_own
 rw [e1]
 refine xw rfl h3 rfl ?_
 refine zl (z7a rfl (hU.ext hx2) hls hT hq) ?_
 rintro e w3 ⟨rfl,hx3,p',m',hU3⟩
 refine⟨_,rfl,?_⟩
 obtain⟨r,L',hr⟩:∃ r L',doA ls nn bb L q=(r,L'):=⟨_,_,rfl⟩
 rw [hr] at hU3 |-
 simp only at hU3 |-
 have h33:=hx3.get h3 (by simp;omega)
 have h43:=hx3.get h4 (by simp;omega)
 refine zw3 r rfl fun w5 hw5=>?_
 have h6:w5.heap[w3.heap.size]?=some (.cells (zff r).toArray zf (0,0)):=by rw [hw5];exact zn
 have hx35:Ext [] w3.heap w5.heap:=by rw [hw5];exact .push _
 refine zaj rfl fun w6 hw6=>?_
 have hx36:Ext [] w3.heap w6.heap:=by rw [hw6];exact hx35
 rw [<-hw6] at h6
 refine xw rfl h6 rfl ?_
 refine jh (s:=.int .i64) (t:=1) rfl (hx36.get h33 (by simp)) rfl ?_
 refine jh (s:=.str) (t:=strOf (jd q)) rfl (hx36.get h33 (by simp)) rfl ?_
 refine jh (s:=.int .i64) (t:=r.code) rfl h6 rfl ?_
 refine zl (z5t 1 rfl) ?_
 rintro e w7 ⟨s,rfl,hx7⟩
 refine⟨_,rfl,?_⟩
 have h67:=hx7.get h6 (by simp)
 refine⟨jh (s:=.int .i64) (t:=r.code) rfl h67 rfl rfl,jh (s:=.str) (t:=strOf (jd q)) rfl ((hx36.trans hx7).get h33 (by simp)) rfl rfl,xw rfl h67 rfl rfl,?_⟩
 refine zl (z4s s (strOf (jd q)) r.code rfl) ?_
 rintro e w8 ⟨v,rfl,hv,hx8⟩
 refine⟨v,rfl,?_⟩
 refine⟨xw rfl (hx8.get h67 (by simp)) rfl rfl,?_⟩
 have hx38:=(hx36.trans hx7).trans hx8
 have h48:=hx38.get h43 (by simp)
 refine zvn r rfl h48 rfl fun w9 hw9=>?_
 refine xw rfl (by rw [hw9];exact xk h48) rfl ?_
 have hU8:=hU3.ext hx38
 have hx9:Ext [H.size+1] w8.heap w9.heap:=by rw [hw9];exact Ext.set _ (by simp)
 have hxu:Ext [u] w3.heap w8.heap:=hx38.mono (by simp)
 refine⟨v,rfl,?_,((hx2.mono (by simp)).trans (hx3.trans hxu)).own hx9 (fun c hc hlt=>by simp at hc;omega),p',m',?_⟩
 ·rcases hv with h | ⟨h,b,o,pp,hvv,hb⟩
  ·exact .inl h
  ·refine .inr ⟨h,b,o,pp,hvv,hx9.get hb ?_⟩
   simp only [List.mem_singleton]
   rintro rfl
   rw [h48] at hb
   simp only [Option.some.injEq,Obj.cells.injEq] at hb
   exact absurd hb.2.1 (by decide)
 ·exact zid.free hU8 h48 zpg (by decide) hx9 (by omega)
theorem z5i {w:World}{H1:Heap}{F:List Nat}{b:Nat}{L:List UInt8}(o:Bool) (hO:zvz H1 F b L w) (hL:L.length<=549755813888) :
  zx P zg0 #[.pointer (some ⟨b,0,none⟩),.bool o] w fun e w'=>e=.returned (.tuple #[])/\zvz H1 F b (L++zoi o) w':=by
 refine zog ?_
 unfold zjv
 cases o with
 | true=>
  refine jc rfl ?_
  refine zl (zy1 1 hO (by omega) hL) ?_
  rintro e w' ⟨rfl,h⟩
  exact⟨(),rfl,rfl,h⟩
 | false=>
  refine qg rfl ?_
  refine zl (zy1 0 hO (by omega) hL) ?_
  rintro e w' ⟨rfl,h⟩
  exact⟨(),rfl,rfl,h⟩
theorem z3g {w:World}{H:Heap}{b:Nat}{F:List Nat}{s:Rest}(hw:w.heap=H) (hI:InW H b F s) :
  zx P zhp #[.pointer (some ⟨b,0,none⟩)] w fun e w'=>e=.returned (.bool (flS s).1)/\InW w'.heap b F (flS s).2/\Ext [b] H w'.heap:=by
 refine zpk ?_
 unfold zk8
 refine zl (zvl hw hI) ?_
 rintro e w1 ⟨rfl,h1,hx1⟩
 refine⟨(nx s).1,rfl,?_⟩
 refine x9 ?_
 cases s with
 | none=>exact qg rfl ⟨rfl,h1,hx1⟩
 | some R=>
 cases R with
 | nil=>exact qg rfl ⟨rfl,h1,hx1⟩
 | cons c R=>
  refine jc rfl ?_
  refine qm (fun h=>?_) (fun h=>?_)
  ·have hc:1 < c.toNat:=by simp only [nx] at h;omega
   have:flS (some (c :: R))=(false,none):=by simp only [flS,zth,if_pos hc]
   rw [this]
   refine zl (zl7 21 rfl h1 (by omega)) ?_
   rintro e3 w3 ⟨rfl,h3,hx3⟩
   exact⟨(),rfl,rfl,h3,hx1.trans hx3⟩
  ·have hc:¬1 < c.toNat:=by simp only [nx] at h;omega
   have:flS (some (c :: R))=(decide (c.toNat=1),some R):=by simp only [flS,zth,if_neg hc]
   rw [this]
   refine⟨?_,h1,hx1⟩
   simp only [nx]
   congr 2
   rw [Bool.eq_iff_iff]
   simp
   omega
theorem z94 {n:Nat}(hn:n < 4611686018427387904){K:Int->Prop}(hK:K ((2 * n:Nat):Int)):z5k .u64 (n:Int) 1 K:=by
 refine⟨by omega,_,?_,hK⟩
 rw [show min (1:Int).toNat (IntKind.bits .u64)=1 from rfl,show (n:Int) * 2 ^ 1=((2 * n:Nat):Int) by omega,wrap_u64 (by omega) (by omega)]
theorem z7f {n:Nat}(hn:n < 4611686018427387904){K:Int->Prop}(hK:K 0):z2q .i64 (n:Int) 63 K:=by
 refine⟨by omega,_,?_,hK⟩
 rw [show min (63:Int).toNat (IntKind.bits .i64)=63 from rfl]
 have:(n:Int).fdiv (2 ^ 63)=0:=by
  rw [Int.fdiv_eq_ediv_of_nonneg _ (by decide)]
  have e63:(2:Int) ^ 63=9223372036854775808:=by decide
  exact Int.ediv_eq_zero_of_lt (by omega) (by rw [e63];omega)
 exact this.symm
theorem qae {n:Nat}(hn:n < 18446744073709551616){K:Int->Prop}(hK:K (n:Int)):z4j .u64 (n:Int) 0 K:=by
 refine⟨_,?_,hK⟩
 have:(BitVec.ofInt (IntKind.bits .u64) (n:Int) ^^^ BitVec.ofInt (IntKind.bits .u64) 0).toNat=n:=by
  show (BitVec.ofInt 64 (n:Int) ^^^ BitVec.ofInt 64 0).toNat=n
  rw [show BitVec.ofInt 64 (0:Int)=0#64 from rfl,BitVec.xor_zero,BitVec.toNat_ofInt]
  show ((n:Int) % ((2 ^ 64:Nat):Int)).toNat=n
  have:(2:Nat) ^ 64=18446744073709551616:=by decide
  rw [this];omega
 rw [this,wrap_u64 (by omega) (by omega)]
theorem z5u {w:World}{H1:Heap}{F:List Nat}{b:Nat}{L:List UInt8}(n:Nat) (hO:zvz H1 F b L w) (hn:n < 4611686018427387904) (hL:L.length<=549755813888) :
  zx P zfs #[.pointer (some ⟨b,0,none⟩),.int .i64 (n:Int)] w fun e w'=>e=.returned (.tuple #[])/\zvz H1 F b (L++zkx (2 * n)) w':=by
 refine zpb ?_
 unfold zk7
 refine znv (by omega) (by omega) ?_
 refine z94 hn ?_
 refine z7f hn ?_
 refine znv (by omega) (by omega) ?_
 refine qae (by omega) ?_
 refine zl (zy1 (2 * n) hO (by omega) hL) ?_
 rintro e w' ⟨rfl,h⟩
 exact⟨(),rfl,rfl,h⟩
theorem z8b {n:Nat}(hn:n < 4611686018427387904){K:Int->Prop}(hK:K (n:Int)):z4j .i64 (n:Int) 0 K:=by
 refine⟨_,?_,hK⟩
 have:(BitVec.ofInt (IntKind.bits .i64) (n:Int) ^^^ BitVec.ofInt (IntKind.bits .i64) 0).toNat=n:=by
  show (BitVec.ofInt 64 (n:Int) ^^^ BitVec.ofInt 64 0).toNat=n
  rw [show BitVec.ofInt 64 (0:Int)=0#64 from rfl,BitVec.xor_zero,BitVec.toNat_ofInt]
  show ((n:Int) % ((2 ^ 64:Nat):Int)).toNat=n
  have:(2:Nat) ^ 64=18446744073709551616:=by decide
  rw [this];omega
 rw [this,wrap_i64 (by omega) (by omega)]
theorem and1 {n:Nat}(hn:n < 4611686018427387904){K:Int->Prop}(hK:K 0):z6c .u64 ((2 * n:Nat):Int) 1 K:=by
 refine⟨_,?_,hK⟩
 have:(BitVec.ofInt (IntKind.bits .u64) ((2 * n:Nat):Int) &&& BitVec.ofInt (IntKind.bits .u64) 1).toNat=0:=by
  show (BitVec.ofInt 64 ((2 * n:Nat):Int) &&& BitVec.ofInt 64 1).toNat=0
  rw [show BitVec.ofInt 64 (1:Int)=1#64 from rfl,BitVec.toNat_and,BitVec.toNat_ofInt]
  show (((2 * n:Nat):Int) % ((2 ^ 64:Nat):Int)).toNat &&& 1=0
  have:(2:Nat) ^ 64=18446744073709551616:=by decide
  rw [this,Nat.and_one_is_mod];omega
 rw [this];rfl
theorem z19 {w:World}{H:Heap}{b:Nat}{F:List Nat}{s:Rest}{n:Nat}(hw:w.heap=H) (hI:InW H b F s) (hs:(nmS s).1=2 * n) (hn:n < 4611686018427387904) :
  zx P zgi #[.pointer (some ⟨b,0,none⟩)] w fun e w'=>e=.returned (.int .i64 (n:Int))/\InW w'.heap b F (nmS s).2/\Ext [b] H w'.heap:=by
 refine zqw ?_
 unfold zmv
 refine zl (zzk hw hI) ?_
 rintro e w1 ⟨rfl,h1,hx1⟩
 refine⟨_,rfl,?_⟩
 rw [hs]
 refine⟨by omega,_,rfl,?_⟩
 have e1:(((2 * n:Nat):Int)).fdiv (2 ^ (min (1:Int).toNat (IntKind.bits .u64)))=(n:Int):=by
  rw [show min (1:Int).toNat (IntKind.bits .u64)=1 from rfl,Int.fdiv_eq_ediv_of_nonneg _ (by decide)]
  omega
 rw [e1]
 refine zvc (by omega) (by omega) ?_
 refine and1 hn ?_
 refine zvc (by omega) (by omega) ?_
 refine zh8 0 rfl (by omega) (by omega) ?_
 refine z8b hn ⟨rfl,h1,hx1⟩
def zhr (c:Nat) (d:Bool) (n:Nat) (data:List UInt8):List UInt8:=zkx (2 * c)++zoi d++zkx (2 * n)++zno data++zkx 0
theorem zvz.get {H1:Heap}{b k:Nat}{L:List UInt8}{W:World}{o:Obj}(h:zvz H1 [] b L W) (hk:H1[k]?=some o) (hne:k≠b):W.heap[k]?=some o:=by
 obtain⟨x,h1,_⟩:=h
 exact h1.get hk (by simpa using hne)
theorem zx3:∀ (n:Nat),n < 2 ^ 63->(zkx n).length<=9:=by
 have h:∀ (k n:Nat),n < 2 ^ (7 * k+7)->(zkx n).length<=k+1:=by
  intro k
  induction k with
  | zero=>intro n hn;rw [zgk (by simp at hn;omega)];simp
  | succ k ih=>
   intro n hn
   by_cases h:n<=127
   ·rw [zgk h];simp
   ·rw [zjj (by omega)]
    have:=ih (n / 128) (by rw [show 7 * (k+1)+7=(7 * k+7)+7 by omega,Nat.pow_add] at hn;exact Nat.div_lt_of_lt_mul (by rw [Nat.mul_comm];simpa using hn))
    simp;omega
 exact fun n hn=>h 8 n (by simpa using hn)
set_option maxHeartbeats 4000000 in
theorem z5q {w:World}{H:Heap}{c n:Nat}{d:Bool}{data:List UInt8}(hw:w.heap=H) (hc:c < 4611686018427387904) (hn:n < 4611686018427387904) (hd:data.length<=1100) :
  zx P zpo #[resV ⟨c,d,n,data⟩] w fun e w'=>∃ y,e=.returned (.tuple #[zhq y,.int .i64 0])/\Mine w'.heap H.size za7 1 y (byteCells (zhr c d n data))/\Ext [] H w'.heap:=by
 have l1:=zx3 (2 * c) (by omega)
 have l2:=zx3 (2 * n) (by omega)
 have l3:(zoi d).length<=9:=by unfold zoi;exact zx3 _ (by split <;> decide)
 have l4:(zno data).length<=1109:=by unfold zno;have:=zx3 data.length (by omega);simp;omega
 refine zxw ?_
 unfold ztq
 refine jg hw fun w1 hw1=>?_
 have h1:w1.heap[H.size]?=some (.cells (zff ⟨c,d,n,data⟩).toArray zf (0,0)):=by rw [hw1];exact zn
 have hx1:Ext [] H w1.heap:=by rw [hw1];exact .push _
 refine jh (s:=.str) (t:=strOf data) rfl h1 rfl ?_
 refine jh (s:=.slc) (t:=(none,0,0)) rfl h1 rfl ?_
 refine za3 (fun _ s W=>W=w1/\s=((data.length:Int),0)) 0 ⟨rfl,by simp⟩ ?_
 rintro k s W ⟨rfl,rfl⟩ Q hQ
 refine qm (fun h=>by simp at h) (fun _=>?_)
 refine qm (fun h=>by simp only at h;omega) (fun _=>?_)
 refine jh (s:=.slc) (t:=(none,0,0)) rfl h1 rfl ?_
 refine qm (fun h=>by simp at h) (fun _=>?_)
 rw [zcO]
 refine jg rfl fun w2 hw2=>?_
 have e1:W.heap.size=H.size+1:=by rw [hw1];simp
 have hx2:Ext [] H w2.heap:=by rw [hw2];exact hx1.push_own
 have h12:w2.heap[H.size]?=some (.cells (zff ⟨c,d,n,data⟩).toArray zf (0,0)):=by rw [hw2];exact zac h1
 have hb2:w2.heap[H.size+1]?=some (.cells #[zhq (none,0,0)] zdy (0,0)):=by rw [hw2,<-e1];exact zn
 rw [e1]
 have hO:zvz w2.heap [] (H.size+1) [] w2:=⟨(none,0,0),.refl _ _,hb2,.inl ⟨rfl,rfl⟩,by simp [zbu],by simp [zbu],lt_of_get hb2⟩
 refine jh (s:=.int .i64) (t:=(c:Int)) rfl h12 rfl ?_
 refine zl (l:=[]) (z5u c hO hc (by simp)) ?_
 rintro e w4 ⟨rfl,hO4⟩
 refine⟨(),rfl,?_⟩
 rw [List.nil_append] at hO4
 refine jh (s:=.bool) (t:=d) rfl (hO4.get h12 (by omega)) rfl ?_
 refine zl (l:=[]) (z5i d hO4 (by omega)) ?_
 rintro e w5 ⟨rfl,hO5⟩
 refine⟨(),rfl,?_⟩
 refine jh (s:=.int .i64) (t:=(n:Int)) rfl (hO5.get h12 (by omega)) rfl ?_
 refine zl (l:=[]) (z5u n hO5 hn (by simp;omega)) ?_
 rintro e w6 ⟨rfl,hO6⟩
 refine⟨(),rfl,?_⟩
 refine jh (s:=.str) (t:=strOf data) rfl (hO6.get h12 (by omega)) rfl ?_
 refine zl (l:=[]) (z5l data hO6 (by simp;omega)) ?_
 rintro e w7 ⟨rfl,hO7⟩
 refine⟨(),rfl,?_⟩
 refine jh (s:=.slc) (t:=(none,0,0)) rfl (hO7.get h12 (by omega)) rfl ?_
 refine znv (by simp) (by simp) ?_
 refine zl (l:=[]) (zy1 0 hO7 (by omega) (by simp;omega)) ?_
 rintro e w8 ⟨rfl,hO8⟩
 refine⟨(),rfl,?_⟩
 refine jh (s:=.slc) (t:=(none,0,0)) rfl (hO8.get h12 (by omega)) rfl ?_
 refine za3 (fun _ s W=>W=w8/\s=0) 0 ⟨rfl,rfl⟩ ?_
 rintro k s W2 ⟨rfl,rfl⟩ Q2 hQ2
 refine qm (fun h=>by simp at h) (fun _=>?_)
 have l0:(zkx 0).length<=9:=zx3 0 (by omega)
 refine zl (z4e hO8 (by simp;omega)) ?_
 rintro e w9 ⟨y,rfl,hY,hx9⟩
 refine⟨y,rfl,y,rfl,?_,?_⟩
 ·refine Mine.mono hY ?_
  obtain⟨x,g1,_⟩:=hO8
  have:=g1.1;have:=hx2.1;omega
 ·obtain⟨x,g1,_⟩:=hO8
  exact (hx2.own g1 (fun b hb hlt=>by simp at hb;omega)).trans hx9
theorem zs4 {m:Nat}{R:List UInt8}(h:m < 18446744073709551616):nmS (some (zkx m++R))=(m,some R):=by unfold nmS;simp only [ztm h]
theorem z2z {o:Bool}{R:List UInt8}:flS (some (zoi o++R))=(o,some R):=by unfold flS;simp only [zu1]
theorem z4d {most:Nat}{M R:List UInt8}(h:M.length<=most) (hm:most < 18446744073709551616):txS most (some (zno M++R))=(M,some R):=by unfold txS;simp only [zum h hm]
set_option maxHeartbeats 8000000 in
theorem z06 {w:World}{H:Heap}{a:Option Addr}{l lc c n:Nat}{d:Bool}{data:List UInt8}(hw:w.heap=H) (hL:Cells H a (byteCells (zhr c d n data))) (hl:l=(zhr c d n data).length) (hc:c < 4611686018427387904) (hn:n < 4611686018427387904) (hd:data.length<=1100) :
  zx P zlu #[.slice a l lc] w fun e w'=>e=.returned (.tuple #[resV ⟨c,d,n,data⟩,.int .i64 0])/\Ext [] H w'.heap:=by
 have l1:=zx3 (2 * c) (by omega)
 have l2:=zx3 (2 * n) (by omega)
 have l3:(zoi d).length<=9:=by unfold zoi;exact zx3 _ (by split <;> decide)
 have l4:(zno data).length<=1109:=by unfold zno;have:=zx3 data.length (by omega);simp;omega
 have l0:(zkx 0).length<=9:=zx3 0 (by omega)
 have hlen:(zhr c d n data).length<=2000:=by unfold zhr;simp;omega
 refine zty ?_
 unfold zox
 refine jg hw fun w1 hw1=>?_
 have h2:w1.heap[H.size]?=some (.cells (zff res0).toArray zf (0,0)):=by rw [hw1,zx1];exact zn
 have hx1:Ext [] H w1.heap:=by rw [hw1];exact .push _
 refine zl (z5z rfl (hL.ext hx1 (by simp)) hl (by omega)) ?_
 rintro e w2 ⟨b,F,rfl,hI2,hx2,hb,hF,hbl,hFl⟩
 refine⟨_,rfl,?_⟩
 have hpk:zhr c d n data=zkx (2 * c)++(zoi d++(zkx (2 * n)++(zno data++(zkx 0++[])))):=by unfold zhr;simp
 rw [hpk] at hI2
 have hs1:H.size < w1.heap.size:=lt_of_get h2
 refine zl (z19 (n:=c) rfl hI2 (by rw [zs4 (by omega)]) hc) ?_
 rintro e w3 ⟨rfl,hI3,hx3⟩
 refine⟨_,rfl,?_⟩
 rw [zs4 (by omega)] at hI3
 refine qw (s:=.any) _ (z6s _ _) ?_
 refine zw3 (zkv c) rfl fun w5 hw5=>?_
 have hx5:Ext [] w3.heap w5.heap:=by rw [hw5];exact .push _
 have h5:w5.heap[w3.heap.size]?=some (.cells (zff ⟨c,false,0,[]⟩).toArray zf (0,0)):=by rw [hw5];exact zn
 obtain⟨B5,hB5⟩:∃ B5,B5=w3.heap.size:=⟨_,rfl⟩
 rw [<-hB5] at h5 |-
 have h23:=hx2.1
 have h33:=hx3.1
 have hbB:b≠B5:=by omega
 have hFB:∀ x∈F,x∉[B5]:=fun x hx=>by have:=hFl x hx;simp;omega
 have hbn:b∉[B5]:=by simpa using hbB
 have hBb:B5∉[b]:=by simp;omega
 have hx35:Ext [b,B5] w3.heap w5.heap:=hx5.mono (by simp)
 refine zl (z3g rfl (hI3.ext hx5 (by simp) (by simp))) ?_
 rintro e w6 ⟨rfl,hI6,hx6⟩
 refine⟨_,rfl,?_⟩
 rw [z2z] at hI6 |-
 have h56:=hx6.get h5 hBb
 refine zdj rfl h56 (by simp [zff]) fun w7 hw7=>?_
 have hx7:Ext [B5] w6.heap w7.heap:=by rw [hw7];exact Ext.set _ (by simp)
 have h57:w7.heap[B5]?=some (.cells (zff ⟨c,d,0,[]⟩).toArray zf (0,0)):=by rw [hw7];exact xk h56
 have hx37:=(hx35.trans (hx6.mono (by simp))).trans (hx7.mono (M':=[b,B5]) (by simp))
 refine zl (z19 (n:=n) rfl (hI6.ext hx7 hbn hFB) (by rw [zs4 (by omega)]) hn) ?_
 rintro e w8 ⟨rfl,hI8,hx8⟩
 refine⟨_,rfl,?_⟩
 rw [zs4 (by omega)] at hI8
 have h58:=hx8.get h57 hBb
 refine zdj rfl h58 (by simp [zff]) fun w9 hw9=>?_
 have hx9:Ext [B5] w8.heap w9.heap:=by rw [hw9];exact Ext.set _ (by simp)
 have h59:w9.heap[B5]?=some (.cells (zff ⟨c,d,n,[]⟩).toArray zf (0,0)):=by rw [hw9];exact xk h58
 have hx39:=(hx37.trans (hx8.mono (by simp))).trans (hx9.mono (M':=[b,B5]) (by simp))
 refine zl (z3j (most:=1100) rfl (hI8.ext hx9 hbn hFB) (by omega)) ?_
 rintro e w10 ⟨rfl,hI10,hx10⟩
 refine⟨_,rfl,?_⟩
 rw [z4d hd (by omega)] at hI10 |-
 have h510:=hx10.get h59 hBb
 refine zdj rfl h510 (by simp [zff]) fun w11 hw11=>?_
 have hx11:Ext [B5] w10.heap w11.heap:=by rw [hw11];exact Ext.set _ (by simp)
 have h511:w11.heap[B5]?=some (.cells (zff ⟨c,d,n,data⟩).toArray zf (0,0)):=by rw [hw11];exact xk h510
 have hx311:=(hx39.trans (hx10.mono (by simp))).trans (hx11.mono (M':=[b,B5]) (by simp))
 refine zl (zzk rfl (hI10.ext hx11 hbn hFB)) ?_
 rintro e w12 ⟨rfl,hI12,hx12⟩
 refine⟨_,rfl,?_⟩
 rw [zs4 (by omega)] at hI12 |-
 have h512:=hx12.get h511 hBb
 have hx312:=hx311.trans (hx12.mono (M':=[b,B5]) (by simp))
 refine qm (fun h=>absurd h (by decide)) (fun _=>?_)
 refine za3 (fun _ s W=>W=w12/\s=0) 0 ⟨rfl,rfl⟩ ?_
 rintro k s W ⟨rfl,rfl⟩ Q hQ
 refine qm (fun h=>absurd h (by decide)) (fun _=>?_)
 refine zl (z5y rfl hI12) ?_
 rintro e w13 ⟨rfl,rfl⟩
 refine⟨_,rfl,?_⟩
 refine qg (by simp) ?_
 refine xw rfl h512 rfl ?_
 have hx02:Ext [] H w3.heap:=(hx1.trans hx2).own hx3 (fun k hk hlt=>by simp at hk;omega)
 have h213:w13.heap[H.size]?=some (.cells (zff res0).toArray zf (0,0)):=hx312.get (hx3.get (hx2.get h2 (by simp)) (by simp;omega)) (by simp;omega)
 refine zvn ⟨c,d,n,data⟩ rfl h213 rfl fun w14 hw14=>?_
 refine xw rfl (by rw [hw14];exact xk h213) rfl ?_
 refine⟨rfl,?_⟩
 rw [hw14]
 exact (hx02.own hx312 (fun k hk hlt=>by simp at hk;omega)).set_own (.inl (Nat.le_refl _))
structure Seat where
 cl:Int
 nu:Int
 tm:Int
 kept:Bool
 rep:List UInt8
def encS (s:Seat):List Value:=[.int .i64 s.cl,.int .i64 s.nu,.int .i64 s.tm,.bool s.kept,.string (strOf s.rep)]
@[simp] theorem zhd (s:Seat):(encS s).length=5:=rfl
def seat0:Seat:=⟨0,0,0,false,[]⟩
def zxk (room:Int) (S:List Seat):Array Value:=(.int .i64 room :: S.flatMap encS).toArray
structure TabW (H:Heap) (t:Nat) (room:Int) (S:List Seat):Prop where
 cell:H[t]?=some (.cells (zxk room S) zes (0,0))
 len:S.length=8
theorem zos {room:Int}{S:List Seat}(h:S.length=8):(zxk room S).size=41:=by
 simp [zxk,ji encS zhd,h]
theorem zsi {room:Int}{S:List Seat}{s:Seat}{k j:Nat}(hs:S[k]?=some s) (hj:j < 5):(zxk room S)[1+k * 5+j]?=(encS s)[j]?:=by
 have e:1+k * 5+j=(k * 5+j)+1:=by omega
 simp only [zxk,List.getElem?_toArray,e,List.getElem?_cons_succ]
 rw [getElem_flatMap encS zhd (by omega),show (k * 5+j) / 5=k by omega,show (k * 5+j) % 5=j by omega,hs]
 rfl
theorem TabW.ext {H H':Heap}{t:Nat}{room:Int}{S:List Seat}{fp:List Nat}(h:TabW H t room S) (hx:Ext fp H H') (ht:t∉fp):TabW H' t room S:=⟨hx.get h.cell ht,h.len⟩
theorem bT (room:Int) (w:World):(Instr.build zes #[(0,.int .i64 room)]).run P w=.ok (.agg (zxk room (List.replicate 8 seat0))) w:=by kernel_rfl
def zn0 (room:Int):Prop:=0<=room/\room<=8192
theorem z5g {w:World}{H:Heap}(room:Int) (hw:w.heap=H):zx P zhi #[.int .i64 room] w fun e w'=>
  (¬zn0 room/\e=.returned (.tuple #[.pointer none,.int .i64 1])/\w'.heap=H)\/(zn0 room/\e=.returned (.tuple #[.pointer (some ⟨H.size,0,none⟩),.int .i64 0])/\TabW w'.heap H.size room (List.replicate 8 seat0)/\Ext [] H w'.heap/\H.size < w'.heap.size):=by
 refine zo2 ?_
 unfold zla
 refine x9 ?_
 refine qm (fun h=>.inl ⟨fun h2=>by have:=h2.1;omega,rfl,hw⟩) (fun h1=>?_)
 refine qm (fun h=>.inl ⟨fun h2=>by have:=h2.2;omega,rfl,hw⟩) (fun h2=>?_)
 refine qw (s:=.any) _ (bT _ _) ?_
 refine jg hw fun w2 hw2=>?_
 exact .inr ⟨⟨by omega,by omega⟩,rfl,⟨by rw [hw2];exact zn,by simp⟩,by rw [hw2];exact .push _,by rw [hw2];simp⟩
theorem z1j {w:World}(t:Nat) (c:Int):zx P zb7 #[.pointer (some ⟨t,0,none⟩),.int .i64 c] w fun e w'=>w'=w /\
  ((¬(1<=c/\c<=8)/\e=.returned (.pointer none))\/∃ k:Nat,c=(k:Int)+1/\k < 8/\e=.returned (.pointer (some ⟨t,1+k * 5,none⟩))):=by
 refine zju ?_
 unfold zgb
 refine x9 ?_
 refine qg rfl ?_
 refine qm (fun h=>⟨rfl,.inl ⟨by omega,rfl⟩⟩) (fun h1=>?_)
 refine qm (fun h=>⟨rfl,.inl ⟨by omega,rfl⟩⟩) (fun h2=>?_)
 refine zuy (by omega) (by omega) ?_
 simp only [qo,Addr.add,Nat.zero_add,Option.map_none]
 refine z7m (c-1).toNat (by omega) (by omega) ⟨trivial,.inr ⟨(c-1).toNat,by omega,by omega,rfl⟩⟩
def zf7 (S:List Seat) (c n:Int):Int×List UInt8:=
 if 1<=c/\c<=8/\1<=n/\n<=1099511627776 then
  match S[(c-1).toNat]? with
  | none=>(0,[])
  | some s=>if n > s.nu then (1,[]) else if n < s.nu then (4,[]) else if s.kept then (2,s.rep) else (3,[])
 else (0,[])
theorem z1t {w:World}{H:Heap}{t:Nat}{room:Int}{S:List Seat}(c n:Int) (hw:w.heap=H) (hT:TabW H t room S) :
  zx P zb8 #[.pointer (some ⟨t,0,none⟩),.int .i64 c,.int .i64 n] w fun e w'=>e=.returned (.tuple #[.int .i64 (zf7 S c n).1,.string (strOf (zf7 S c n).2)])/\w'.heap=H:=by
 refine zj7 ?_
 unfold zgh
 refine zl (z1j t c) ?_
 rintro e w1 ⟨rfl,⟨hc,rfl⟩ | ⟨k,hc,hk,rfl⟩⟩
 ·refine⟨none,rfl,?_⟩
  refine x9 ?_
  refine jc rfl (jc rfl ?_)
  have:zf7 S c n=(0,[]):=by unfold zf7;rw [if_neg (by omega)]
  rw [this];exact⟨rfl,hw⟩
 ·refine⟨_,rfl,?_⟩
  refine x9 ?_
  refine qg rfl ?_
  refine qm (fun h=>jc rfl ?_) (fun h1=>qm (fun h=>?_) (fun h2=>?_))
  ·have:zf7 S c n=(0,[]):=by unfold zf7;rw [if_neg (by omega)]
   rw [this];exact⟨rfl,hw⟩
  ·have:zf7 S c n=(0,[]):=by unfold zf7;rw [if_neg (by omega)]
   rw [this];exact⟨rfl,hw⟩
  ·obtain⟨s,hs⟩:∃ s,S[k]?=some s:=⟨S[k]'(by rw [hT.len];exact hk),by simp⟩
   have e:zf7 S c n=if n > s.nu then (1,[]) else if n < s.nu then (4,[]) else if s.kept then (2,s.rep) else (3,[]):=by
    unfold zf7;rw [if_pos (by omega),show (c-1).toNat=k by omega,hs]
   rw [e]
   simp only [qo,Addr.add,Option.map_none]
   refine jh (s:=.int .i64) (t:=s.nu) hw hT.cell (zsi (j:=1) hs (by omega)) ?_
   refine qm (fun h=>?_) (fun h3=>?_)
   ·rw [if_pos h];exact⟨rfl,hw⟩
   rw [if_neg h3]
   refine jh (s:=.int .i64) (t:=s.nu) hw hT.cell (zsi (j:=1) hs (by omega)) ?_
   refine qm (fun h=>?_) (fun h4=>?_)
   ·rw [if_pos h];exact⟨rfl,hw⟩
   rw [if_neg h4]
   refine jh (s:=.bool) (t:=s.kept) hw hT.cell (zsi (j:=3) hs (by omega)) ?_
   cases hkp:s.kept with
   | true=>
    refine jc rfl ?_
    refine zaj hw fun w2 hw2=>?_
    refine jh (s:=.str) (t:=strOf s.rep) hw2 hT.cell (zsi (j:=4) hs (by omega)) ?_
    exact⟨rfl,hw2⟩
   | false=>exact qg rfl ⟨rfl,hw⟩
def zfe (S:List Seat):Nat:=(S.map fun s=>s.rep.length).sum
theorem aS:P.underlying zjk=some (.array 8 zay):=by kernel_rfl
theorem z6o:P.cellsOf zay=5:=by kernel_rfl
theorem z9h:(zc P zay).size=5:=by kernel_rfl
theorem z8c (w:World):(isAgg zay).run P w=.ok true w:=by kernel_rfl
theorem z07 {α:Type}{enc:α->List Value}{sz:Nat}(hk:∀ x,(enc x).length=sz) (h0:0 < sz){xs:List α}{v:α}{i:Nat}(hi:xs[i]?=some v):(xs.flatMap enc).toArray.extract (i * sz) (i * sz+sz)=(enc v).toArray:=by
 have hlt:=(List.getElem?_eq_some_iff.1 hi).1
 have hm:i * sz+sz<=xs.length * sz:=by
  have:=Nat.mul_le_mul_right sz (show i+1<=xs.length by omega)
  rw [Nat.add_mul] at this;omega
 apply Array.ext_getElem?
 intro j
 rw [Array.getElem?_extract]
 simp only [List.size_toArray,ji enc hk,List.getElem?_toArray]
 by_cases hj:j < sz
 ·rw [if_pos (by omega),getElem_flatMap enc hk h0,show (i * sz+j) / sz=i by rw [Nat.mul_comm,Nat.mul_add_div h0,Nat.div_eq_of_lt hj];rfl,show (i * sz+j) % sz=j by rw [Nat.mul_comm,Nat.mul_add_mod,Nat.mod_eq_of_lt hj],hi]
  rfl
 ·rw [if_neg (by omega),List.getElem?_eq_none (by rw [hk];omega)]
theorem qaj {S:List Seat}{s:Seat}{k:Nat}(hs:S[k]?=some s) (h8:S.length=8) (w:World):(Instr.index zjk (.agg (S.flatMap encS).toArray) (.int .i64 (k:Int))).run P w=.ok (.agg (encS s).toArray) w:=by
 have hk:k < 8:=by rw [<-h8];exact (List.getElem?_eq_some_iff.1 hs).1
 have hs5:(sizeOf zay).run P w=.ok 5 w:=by rw [<-z6o];exact zea (by rw [z6o];omega)
 simp [Instr.index,asIntOf,zy aS,hk,part,z8c,hs5]
 simpa using congrArg Array.toList (z07 zhd (by omega) hs)
theorem z6a {w:World}{H:Heap}(s:Seat) (hw:w.heap=H){K:Nat->World->Prop}(hK:∀ w',w'.heap=H.push (.cells (encS s).toArray zay (0,0))->K H.size w') :
  zam (zc P zay) zay w fun b w1=>jy P (storeVar zay (⟨b,0,none⟩:Addr) (.agg (encS s).toArray)) w1 fun w2=>K b w2:=
 zqr (v:=.agg (encS s).toArray) z6o z9h (by simp [Value.cells,encS]) (by intro v hv;simp [Value.cells,encS] at hv;rcases hv with rfl | rfl | rfl | rfl | rfl <;> rfl) hw hK
theorem z1i {w:World}{H:Heap}{t:Nat}{room:Int}{S:List Seat}(hw:w.heap=H) (hT:TabW H t room S) (hb:zfe S<=1099511627776) :
  zx P zdn #[.pointer (some ⟨t,0,none⟩)] w fun e w'=>e=.returned (.int .i64 (zfe S:Int))/\Ext [] H w'.heap:=by
 refine zi8 ?_
 unfold zf0
 simp only [qo,Addr.add,Nat.zero_add,Option.map_none]
 refine ztj hw hT.cell (by rw [zos hT.len];omega) ?_
 have he:(zxk room S).extract 1 (1+40)=(S.flatMap encS).toArray:=by
  apply Array.ext_getElem?
  intro j
  rw [Array.getElem?_extract,zos hT.len]
  simp only [zxk,List.getElem?_toArray]
  by_cases hj:j < 40
  ·rw [if_pos (by omega),Nat.add_comm 1 j,List.getElem?_cons_succ]
  ·rw [if_neg (by omega),List.getElem?_eq_none (by rw [ji encS zhd,hT.len];omega)]
 rw [he]
 refine zds (fun s w'=>∃ i:Nat,s.2=(i:Int)/\i<=8/\s.1=(zfe (S.take i):Int)/\Ext [] H w'.heap) (fun s _=>(8-s.2).toNat) ⟨0,rfl,by omega,rfl,by rw [hw];exact .refl _ _⟩ ?_
 rintro ⟨n,i'⟩ w1 ⟨i,hi,hi8,hn,hx⟩
 simp only at hi hn
 subst hi hn
 refine qm (fun h=>?_) (fun h=>?_)
 ·have hlt:i < 8:=by omega
  obtain⟨s,hs⟩:∃ s,S[i]?=some s:=⟨S[i]'(by rw [hT.len];exact hlt),by simp⟩
  refine qw (s:=.any) _ (qaj hs hT.len _) ?_
  refine z6a s rfl fun w2 hw2=>?_
  have hb2:w2.heap[w1.heap.size]?=some (.cells (encS s).toArray zay (0,0)):=by rw [hw2];exact zn
  refine jh (s:=.str) (t:=strOf s.rep) rfl hb2 rfl ?_
  have h1:zfe (S.take (i+1))=zfe (S.take i)+s.rep.length:=by
   unfold zfe
   rw [List.take_add_one,hs]
   simp
  have h2:zfe (S.take (i+1))<=zfe S:=by
   have e:zfe S=zfe (S.take (i+1))+zfe (S.drop (i+1)):=by
    unfold zfe
    rw [<-List.sum_append_nat,<-List.map_append,List.take_append_drop]
   omega
  refine zas (zfe (S.take (i+1)):Int) (by rw [h1];simp) (by omega) (by omega) ?_
  refine zas ((i+1:Nat):Int) (by omega) (by omega) (by omega) ?_
  refine⟨⟨i+1,rfl,by omega,rfl,by rw [hw2];exact hx.push_own⟩,?_⟩
  show (8-((i+1:Nat):Int)).toNat < (8-(i:Int)).toNat
  omega
 ·have:i=8:=by omega
  subst this
  refine⟨?_,hx⟩
  rw [List.take_of_length_le (by rw [hT.len];omega)]
theorem bSe (c n a:Int) (r:ByteArray) (w:World):(Instr.build zay #[(0,.int .i64 c),(1,.int .i64 n),(2,.int .i64 a),(3,.bool true),(4,.string r)]).run P w=.ok (.agg #[.int .i64 c,.int .i64 n,.int .i64 a,.bool true,.string r]) w:=by kernel_rfl
def zy7 (S:List Seat) (c n a:Int) (r:List UInt8):List Seat:=S.set (c-1).toNat ⟨c,n,a,true,r⟩
theorem z0i {w:World}{H:Heap}{t:Nat}{room:Int}{S:List Seat}(c n a:Int) (r:List UInt8) (hw:w.heap=H) (hT:TabW H t room S) (hl:(zf7 S c n).1=1) (hr:r.length<=8192) (hb:(zfe (zy7 S c n a r):Int)<=room) (hm:room<=8192) :
  zx P zc6 #[.pointer (some ⟨t,0,none⟩),.int .i64 c,.int .i64 n,.int .i64 a,.string (strOf r)] w fun e w'=>e=.returned (.int .i64 0)/\TabW w'.heap t room (zy7 S c n a r)/\Ext [t] H w'.heap:=by
 refine zio ?_
 unfold zfj
 refine qg rfl ?_
 refine zl (z1t c n hw hT) ?_
 rintro e w1 ⟨rfl,hw1⟩
 refine⟨(_,_),rfl,?_⟩
 rw [hl]
 refine qg rfl (qg rfl ?_)
 refine qm (fun h=>by simp only [zad] at h;omega) (fun _=>?_)
 refine zl (z1j t c) ?_
 have hcc:1<=c/\c<=8:=by
  unfold zf7 at hl
  by_cases h:1<=c/\c<=8/\1<=n/\n<=1099511627776
  ·exact⟨h.1,h.2.1⟩
  ·rw [if_neg h] at hl;simp at hl
 rintro e w2 ⟨rfl,⟨hc,rfl⟩ | ⟨k,hc,hk,rfl⟩⟩
 ·exact absurd hcc hc
 refine⟨_,rfl,?_⟩
 refine qw (s:=.any) _ (bSe _ _ _ _ _) ?_
 simp only [qo]
 refine zb0 (v:=.agg (encS ⟨c,n,a,true,r⟩).toArray) (by rw [z6o];rfl) (by simp [Value.cells,encS]) (by intro v hv;simp [Value.cells,encS] at hv;rcases hv with rfl | rfl | rfl | rfl | rfl <;> rfl) hw1 hT.cell (by rw [zos hT.len];simp [Value.cells,encS];omega) fun w3 hw3=>?_
 have hset:setCells (zxk room S) (1+k * 5) (Value.agg (encS ⟨c,n,a,true,r⟩).toArray).cells.toList=zxk room (zy7 S c n a r):=by
  have hcs:(Value.agg (encS ⟨c,n,a,true,r⟩).toArray).cells.toList=encS ⟨c,n,a,true,r⟩:=rfl
  rw [hcs]
  apply Array.ext_getElem?
  intro i
  have hsz:=zos (room:=room) hT.len
  rw [zjl (by rw [hsz,zhd];omega),zhd]
  unfold zy7
  rw [show (c-1).toNat=k by omega]
  cases i with
  | zero=>rw [if_neg (by omega)];rfl
  | succ i=>
   simp only [zxk,List.getElem?_toArray,List.getElem?_cons_succ]
   rw [getElem_flatMap encS zhd (by omega),getElem_flatMap encS zhd (by omega),List.getElem?_set]
   by_cases h:1+k * 5<=i+1/\i+1 < 1+k * 5+5
   ·rw [if_pos h,if_pos (by omega),if_pos (by rw [hT.len];omega),show i+1-(1+k * 5)=i % 5 by omega];rfl
   ·rw [if_neg h,if_neg (by omega)]
 have hT3:TabW w3.heap t room (zy7 S c n a r):=⟨by rw [hw3,hset];exact xk hT.cell,by simp [zy7,hT.len]⟩
 have hx3:Ext [t] H w3.heap:=by rw [hw3];exact Ext.set _ (by simp)
 refine zds (fun _ w'=>TabW w'.heap t room (zy7 S c n a r)/\Ext [t] H w'.heap) (fun _ _=>0) ⟨hT3,hx3⟩ ?_
 rintro _ w4 ⟨hT4,hx4⟩
 refine zaj rfl fun w5 hw5=>?_
 refine jh (s:=.int .i64) (t:=room) hw5 hT4.cell rfl ?_
 refine zl (z1i hw5 hT4 (by omega)) ?_
 rintro e w6 ⟨rfl,hx6⟩
 refine⟨_,rfl,?_⟩
 have hT6:=hT4.ext hx6 (by simp)
 refine⟨jh (s:=.int .i64) (t:=room) rfl hT6.cell rfl rfl,?_⟩
 refine qm (fun h=>by omega) (fun _=>?_)
 exact⟨trivial,hT6,hx4.trans (hx6.mono (by simp))⟩
theorem bUn (u:Option Addr) (w:World):(Instr.build zdu #[(1,.pointer u)]).run P w=.ok (.agg #[.slice none 0 0,.pointer u]) w:=by kernel_rfl
theorem z18 {w:World}{H:Heap}{p m:Nat}{nn bb:Int}{L:List Ino}{s:Addr}{a:Option Addr}{nc:Nat}(hw:w.heap=H) (hU:Up H p m nn bb L) :
  zx P zfp #[.pointer (some s),.slice a 0 nc,.pointer (some ⟨p,0,none⟩)] w fun e w'=>∃ u p' m',e=.returned (.tuple #[.pointer (some ⟨u,0,none⟩),.int .i64 0])/\zid w'.heap u p' m' nn bb [] L/\Ext [] H w'.heap/\H.size<=u/\H.size<=p'/\H.size<=m':=by
 refine zje ?_
 unfold zia
 refine x9 ?_
 refine qg rfl ?_
 refine qg rfl ?_
 refine qm (fun h=>absurd h (by decide)) (fun _=>?_)
 refine zl (zvk hw hU) ?_
 rintro e w2 ⟨p',m',rfl,hU2,hx2,hp',hm'⟩
 refine⟨_,rfl,?_⟩
 refine qw (s:=.any) _ (bUn _ _) ?_
 refine jg rfl fun w3 hw3=>?_
 refine za3 (fun _ s W=>W=w3/\s=0) 0 ⟨rfl,rfl⟩ ?_
 rintro k s W ⟨rfl,rfl⟩ Q hQ
 refine qm (fun h=>absurd h (by decide)) (fun _=>?_)
 have hx3:Ext [] w2.heap W.heap:=by rw [hw3];exact .push _
 exact⟨w2.heap.size,p',m',rfl,⟨⟨(none,0,0),[],by rw [hw3];exact zn,.inl rfl,rfl,rfl,by simp⟩,hU2.ext hx3 (by simp) (by simp)⟩,hx2.trans hx3,hx2.1,hp',hm'⟩
def zv9 (H:Heap) (mb:Nat) (t:Int) (u tb:Nat):Prop:=H[mb]?=some (.cells #[.int .i64 t,upP u,upP tb] za2 (0,0))
set_option maxHeartbeats 8000000 in
theorem z7j {w:World}{H:Heap}{mb u tb p m:Nat}{t nn bb:Int}{ls:List (List Fil)}{L:List Ino}{q:Path}(hw:w.heap=H) (hM:zv9 H mb t u tb) (hU:zid H u p m nn bb ls L) (hls:LsOK ls) (hT:TreeF (zhn ls L)) (hq:okP q) (hmu:mb≠u) :
  zx P zd2 #[.pointer (some ⟨mb,0,none⟩),opV (zl3 q)] w fun e w'=>e=.returned (resV (doA ls nn bb L q).1)/\Ext [u] H w'.heap/\∃ p' m',zid w'.heap u p' m' nn bb ls (doA ls nn bb L q).2:=by
 have hult:u < H.size:=by obtain⟨_,_,h,_⟩:=hU.1;exact lt_of_get h
 have hmlt:=lt_of_get hM
 refine zjr ?_
 unfold zgf
 refine jg hw fun w1 hw1=>?_
 refine jg rfl fun w2 hw2=>?_
 have e1:w1.heap.size=H.size+1:=by rw [hw1];simp
 have h3:w2.heap[H.size]?=some (.cells (opC (zl3 q)).toArray xg (0,0)):=by rw [hw2,hw1];exact zac zn
 have h4:w2.heap[H.size+1]?=some (.cells (zff res0).toArray zf (0,0)):=by rw [hw2,<-e1,zx1];exact zn
 have hx2:Ext [] H w2.heap:=by rw [hw2,hw1];exact (Ext.push _).push_own
 rw [e1]
 refine ku (fun _ w'=>w'=w2) ?_ ?_
 ·refine jh (s:=.int .i64) (t:=1) rfl h3 rfl ?_
  exact qg rfl rfl
 rintro _ w8 rfl
 refine zaj rfl fun w9 hw9=>?_
 have hx9:Ext [] H w9.heap:=by rw [hw9];exact hx2
 rw [<-hw9] at h3 h4
 have hM9:=hx9.get hM (by simp)
 simp only [qo,Addr.add,Nat.zero_add,Option.map_none]
 refine jh (s:=.ptr) (t:=some ⟨u,0,none⟩) rfl hM9 rfl ?_
 refine xw rfl h3 rfl ?_
 obtain⟨r,L',hr⟩:∃ r L',doA ls nn bb L q=(r,L'):=⟨_,_,rfl⟩
 have hct:=fun {W:World}(hx:Ext [] H W.heap)=>z7k (w:=W) rfl (hU.ext hx) hls hT hq
 rw [hr] at hct |-
 simp only at hct |-
 have tail:∀ {W:World}{b5:Nat}{v:Value},W.heap[b5]?=some (.cells (zff r).toArray zf (0,0))->W.heap[H.size+1]?=some (.cells (zff res0).toArray zf (0,0))->z3n W.heap v r.code->Ext [u] H W.heap->(∃ p' m',zid W.heap u p' m' nn bb ls L') ->
   ld (.int .i64) (⟨b5,0,none⟩:Addr) W fun (t35:Int)=>
   qc P zhx #[v,(Value.int .i64 t35)] [.bool] false W fun (t36:Bool) w_13=>
   qx (!t36) (
   qc P zjq #[v] [.int .i64] false w_13 fun (t39:Int) w_14=>
   jv P (Instr.build zf #[(0,(Value.int .i64 t39))]) .any w_14 fun (t40:Value)=>
   jy P (storeVar zf (⟨H.size+1,0,none⟩:Addr) t40) w_14 fun w_15=>
   ldA P 5 (⟨H.size+1,0,none⟩:Addr) w_15 fun t4_2=>
   Ending.returned (.agg t4_2)=.returned (resV r)/\Ext [u] H w_15.heap/\∃ p' m',zid w_15.heap u p' m' nn bb ls L') (
   ldA P 5 (⟨b5,0,none⟩:Addr) w_13 fun t41=>
   jy P (storeVar zf (⟨H.size+1,0,none⟩:Addr) (Value.agg t41)) w_13 fun w_16=>
   ldA P 5 (⟨H.size+1,0,none⟩:Addr) w_16 fun t4_3=>
   Ending.returned (.agg t4_3)=.returned (resV r)/\Ext [u] H w_16.heap/\∃ p' m',zid w_16.heap u p' m' nn bb ls L'):=by
  rintro W b5 v h5 h4 hv hx ⟨p',m',hU'⟩
  refine jh (s:=.int .i64) (t:=r.code) rfl h5 rfl ?_
  refine zl (z7y rfl hv) ?_
  rintro e w13 ⟨rfl,hw13⟩
  refine⟨_,rfl,?_⟩
  refine qg rfl ?_
  rw [<-hw13] at h5 h4 hx hU'
  refine xw rfl h5 rfl ?_
  refine zvn r rfl h4 rfl fun w16 hw16=>?_
  refine xw rfl (by rw [hw16];exact xk h4) rfl ?_
  have hx16:Ext [H.size+1] w13.heap w16.heap:=by rw [hw16];exact Ext.set _ (by simp)
  exact⟨rfl,hx.own hx16 (fun k hk hlt=>by simp at hk;omega),p',m',zid.free hU' h4 zpg (by decide) hx16 (by omega)⟩
 refine⟨?_,?_⟩
 ·refine zl (hct hx9) ?_
  rintro e w10 ⟨v,rfl,hv,hx10,p',m',hU10⟩
  refine⟨(_,_),rfl,?_⟩
  refine jg rfl fun w11 hw11=>?_
  have hx11:Ext [] w10.heap w11.heap:=by rw [hw11];exact .push _
  have h5:w11.heap[w10.heap.size]?=some (.cells (zff res0).toArray zf (0,0)):=by rw [hw11,zx1];exact zn
  have h311:=hx11.get (hx10.get h3 (by simp;omega)) (by simp)
  have h411:=hx11.get (hx10.get h4 (by simp;omega)) (by simp)
  refine⟨xw rfl h311 rfl rfl,jh (s:=.ptr) (t:=some ⟨u,0,none⟩) rfl (hx11.get (hx10.get hM9 (by simpa using hmu)) (by simp)) rfl rfl,?_⟩
  refine zvn r rfl h5 rfl fun w12 hw12=>?_
  have hx12:Ext [w10.heap.size] w11.heap w12.heap:=by rw [hw12];exact Ext.set _ (by simp)
  have hx1012:Ext [] w10.heap w12.heap:=hx11.own hx12 (fun k hk hlt=>by simp at hk;omega)
  have hl4:=lt_of_get (hx10.get h4 (by simp;omega))
  refine tail (by rw [hw12];exact xk h5) (hx12.get h411 (by simp;omega)) (hv.ext hx1012) ((hx9.mono (by simp)).trans (hx10.trans (hx1012.mono (by simp)))) ⟨p',m',hU10.ext hx1012⟩
 ·refine jg rfl fun w11 hw11=>?_
  have hx11:Ext [] w9.heap w11.heap:=by rw [hw11];exact .push _
  have h5:w11.heap[w9.heap.size]?=some (.cells (zff res0).toArray zf (0,0)):=by rw [hw11,zx1];exact zn
  have h311:=hx11.get h3 (by simp)
  have h411:=hx11.get h4 (by simp)
  refine⟨xw rfl h311 rfl rfl,jh (s:=.ptr) (t:=some ⟨u,0,none⟩) rfl (hx11.get hM9 (by simp)) rfl rfl,?_⟩
  refine zl (hct (hx9.trans hx11)) ?_
  rintro e w10 ⟨v,rfl,hv,hx10,p',m',hU10⟩
  refine⟨(_,_),rfl,?_⟩
  have hl4:=lt_of_get h4
  have hl9:=hx9.1
  have h510:=hx10.get h5 (by simp;omega)
  refine zvn r rfl h510 rfl fun w12 hw12=>?_
  have hx12:Ext [w9.heap.size] w10.heap w12.heap:=by rw [hw12];exact Ext.set _ (by simp)
  refine tail (by rw [hw12];exact xk h510) (hx12.get (hx10.get h411 (by simp;omega)) (by simp;omega)) ?_ (((((hx9.trans hx11).mono (by simp)).trans hx10)).own hx12 (fun k hk hlt=>by simp at hk;omega)) ⟨p',m',zid.free hU10 h510 zpg (by decide) hx12 (by omega)⟩
  rcases hv with h | ⟨h,b,o,pp,hvv,hb⟩
  ·exact .inl h
  ·refine .inr ⟨h,b,o,pp,hvv,hx12.get hb ?_⟩
   simp only [List.mem_singleton]
   rintro rfl
   rw [h510] at hb
   simp only [Option.some.injEq,Obj.cells.injEq] at hb
   exact absurd hb.2.1 (by decide)
theorem z2o {w:World}{H:Heap}{mb u tb:Nat}{t room:Int}{S:List Seat}{cl nu:Int}{r:ResR}(hw:w.heap=H) (hM:zv9 H mb t u tb) (hT:TabW H tb room S)
  (hr:((zf7 S cl nu).1≠2/\r=res0)\/((zf7 S cl nu).1=2/\∃ (c n:Nat) (d:Bool) (data:List UInt8),(zf7 S cl nu).2=zhr c d n data/\c < 4611686018427387904/\n < 4611686018427387904/\data.length<=1100/\r=⟨c,d,n,data⟩)) :
  zx P zax #[.pointer (some ⟨mb,0,none⟩),.int .i64 cl,.int .i64 nu] w fun e w'=>e=.returned (.tuple #[.int .i64 (zf7 S cl nu).1,resV r])/\Ext [] H w'.heap:=by
 refine zen ?_
 unfold zcv
 refine jg hw fun w1 hw1=>?_
 have h7:w1.heap[H.size]?=some (.cells (zff res0).toArray zf (0,0)):=by rw [hw1,zx1];exact zn
 have hx1:Ext [] H w1.heap:=by rw [hw1];exact .push _
 refine qg rfl ?_
 simp only [qo,Addr.add,Nat.zero_add,Option.map_none]
 refine jh (s:=.ptr) (t:=some ⟨tb,0,none⟩) rfl (hx1.get hM (by simp)) rfl ?_
 refine zl (z1t cl nu rfl (hT.ext hx1 (by simp))) ?_
 rintro e w3 ⟨rfl,hw3⟩
 refine⟨(_,_),rfl,?_⟩
 rw [<-hw3] at h7 hx1
 rcases hr with⟨h2,rfl⟩ | ⟨h2,c,n,d,data,hp,hc,hn,hd,rfl⟩
 ·refine jc (by simpa using h2) ?_
  refine qw (s:=.any) _ (z7c _) ?_
  refine zvn res0 rfl h7 rfl fun w4 hw4=>?_
  refine xw rfl (by rw [hw4];exact xk h7) rfl ?_
  exact⟨rfl,by rw [hw4];exact hx1.set_own (.inl (Nat.le_refl _))⟩
 ·rw [h2,hp]
  refine qg rfl ?_
  refine z8h rfl fun y w5 hy hyl _ _ hx5 _=>?_
  refine zl (z06 rfl hy hyl hc hn hd) ?_
  rintro e w6 ⟨rfl,hx6⟩
  refine⟨(_,_),rfl,?_⟩
  refine zw3 ⟨c,d,n,data⟩ rfl fun w8 hw8=>?_
  have h10:w8.heap[w6.heap.size]?=some (.cells (zff ⟨c,d,n,data⟩).toArray zf (0,0)):=by rw [hw8];exact zn
  have hx38:Ext [] w3.heap w8.heap:=by rw [hw8];exact (hx5.trans hx6).push_own
  refine zaj rfl fun w9 hw9=>?_
  rw [<-hw9] at h10 hx38
  refine xw rfl h10 rfl ?_
  have h79:=hx38.get h7 (by simp)
  refine zvn ⟨c,d,n,data⟩ rfl h79 rfl fun w10 hw10=>?_
  refine xw rfl (by rw [hw10];exact xk h79) rfl ?_
  exact⟨rfl,by rw [hw10];exact (hx1.trans hx38).set_own (.inl (Nat.le_refl _))⟩
def zx2 (cl nu:Int) (o:OpR):List Value:=.int .i64 cl :: .int .i64 nu :: opC o
def zi7 (cl nu:Int) (r:ResR):List Value:=.int .i64 cl :: .int .i64 nu :: zff r
def zxx (cl nu:Int) (r:ResR):Value:=.agg (zi7 cl nu r).toArray
theorem zz2 {cl nu:Int}{r:ResR}:zbf (zi7 cl nu r):=by
 intro v hv
 simp only [zi7,List.mem_cons] at hv
 rcases hv with rfl | rfl | hv
 ·rfl
 ·rfl
 ·exact zsg v hv
theorem z6l:zc P ql=(zi7 0 0 res0).toArray:=by kernel_rfl
theorem z9a:P.cellsOf ql=7:=by kernel_rfl
theorem z7t {w:World}{H:Heap}{b:Nat}{c:Array Value}(cl nu:Int) (r:ResR){K:World->Prop}(hw:w.heap=H) (hb:H[b]?=some (.cells c ql (0,0))) (hc:c.size=7) (hK:∀ w',w'.heap=H.setIfInBounds b (.cells (zi7 cl nu r).toArray ql (0,0))->K w') :
  jy P (storeVar ql (⟨b,0,none⟩:Addr) (zxx cl nu r)) w K:=by
 refine zb0 (v:=zxx cl nu r) (by rw [z9a];rfl) (by simp [Value.cells,zxx,zi7,zff]) (by simpa [Value.cells,zxx] using zz2) hw hb (by simp [Value.cells,zxx,zi7,zff,hc]) fun w' hw'=>hK w' ?_
 rw [hw',show (zxx cl nu r).cells.toList=zi7 cl nu r from rfl,zb3 (by rw [hc];rfl)]
theorem bRp (cl nu:Int) (w:World):(Instr.build ql #[(0,.int .i64 cl),(1,.int .i64 nu)]).run P w=.ok (zxx cl nu res0) w:=by kernel_rfl
theorem z8q {w:World}{H:Heap}{b:Nat}{cl nu:Int}{r0:ResR}(r:ResR){K:World->Prop}(hw:w.heap=H) (hb:H[b]?=some (.cells (zi7 cl nu r0).toArray ql (0,0))) (hK:∀ w',w'.heap=H.setIfInBounds b (.cells (zi7 cl nu r).toArray ql (0,0))->K w') :
  jy P (storeVar zf (⟨b,2,none⟩:Addr) (resV r)) w K:=by
 refine zb0 (v:=resV r) (by rw [z8d];rfl) (by simp [Value.cells,resV,zff]) (by simpa [Value.cells,resV] using zsg) hw hb (by simp [Value.cells,resV,zff,zi7]) fun w' hw'=>hK w' ?_
 rw [hw'];rfl
def ApR (ls:List (List Fil)) (nn bb:Int) (L:List Ino) (q:Path) (S:List Seat) (room t cl nu:Int) (r:ResR) (S':List Seat) (L':List Ino):Prop:=
 ((zf7 S cl nu).1=1/\∃ c:Nat,(doA ls nn bb L q).1=zkv c/\c < 1099511627776/\(zfe (zy7 S cl nu (t+1) (zhr c false 0 [])):Int)<=room/\r=zkv c/\S'=zy7 S cl nu (t+1) (zhr c false 0 [])/\L'=(doA ls nn bb L q).2) \/
 ((zf7 S cl nu).1=2/\∃ (c n:Nat) (d:Bool) (data:List UInt8),(zf7 S cl nu).2=zhr c d n data/\c < 4611686018427387904/\n < 4611686018427387904/\data.length<=1100/\r=⟨c,d,n,data⟩/\S'=S/\L'=L) \/
 ((zf7 S cl nu).1=0/\r=zkv 1/\S'=S/\L'=L)
theorem zz4 {room:Int}{S:List Seat}:∀ (i:Nat) m,(zxk room S)[i]?≠some (Value.map m):=by
 intro i m h
 have hm:Value.map m∈(.int .i64 room :: S.flatMap encS:List Value):=List.mem_of_getElem? (i:=i) (by simpa [zxk] using h)
 rcases List.mem_cons.1 hm with h | h
 ·cases h
 ·obtain⟨s,_,h⟩:=List.mem_flatMap.1 h
  simp [encS] at h
theorem zyr {t:Int}{u tb:Nat}:∀ (i:Nat) m,(#[.int .i64 t,upP u,upP tb]:Array Value)[i]?≠some (Value.map m):=by
 intro i m h
 match i with
 | 0 | 1 | 2=>simp [upP] at h
 | i+3=>simp at h
theorem z8o {cl nu:Int}{r:ResR}:(zi7 cl nu r).toArray.extract 2 (2+5)=(zff r).toArray:=rfl
theorem qal {cl nu:Int}{o:OpR}:(zx2 cl nu o).toArray.extract 2 (2+6)=(opC o).toArray:=rfl
theorem z3x {H:Heap}{a b:Nat}{c c':Array Value}{T T':TypeId}{f f':Nat×Nat}(ha:H[a]?=some (.cells c T f)) (hb:H[b]?=some (.cells c' T' f')) (hT:T≠T'):a≠b:=by
 rintro rfl
 rw [ha] at hb
 simp only [Option.some.injEq,Obj.cells.injEq] at hb
 exact hT hb.2.1
set_option maxHeartbeats 16000000 in
theorem z3b {w:World}{H:Heap}{mb u tb p m:Nat}{t nn bb room cl nu:Int}{ls:List (List Fil)}{L L':List Ino}{q:Path}{S S':List Seat}{r:ResR}(hw:w.heap=H) (hM:zv9 H mb t u tb) (hU:zid H u p m nn bb ls L) (hls:LsOK ls) (hTr:TreeF (zhn ls L)) (hq:okP q)
  (hT:TabW H tb room S) (ht0:0<=t) (ht:t < 1099511627776) (hroom:room<=8192) (hA:ApR ls nn bb L q S room t cl nu r S' L') :
  zx P jo #[.pointer (some ⟨mb,0,none⟩),.agg (zx2 cl nu (zl3 q)).toArray] w fun e w'=>e=.returned (zxx cl nu r)/\zv9 w'.heap mb (t+1) u tb/\TabW w'.heap tb room S'/\(∃ p' m',zid w'.heap u p' m' nn bb ls L')/\Ext [mb,tb,u] H w'.heap:=by
 obtain⟨xu,msu,hub,_⟩:=id hU.1
 have hmu:mb≠u:=z3x hM hub (by decide)
 have hmt:mb≠tb:=z3x hM hT.cell (by decide)
 have htu:tb≠u:=z3x hT.cell hub (by decide)
 have lm:=lt_of_get hM
 have lt:=lt_of_get hT.cell
 have lu:=lt_of_get hub
 refine zej ?_
 unfold zcm
 refine jg hw fun w1 hw1=>?_
 refine jg rfl fun w2 hw2=>?_
 have e1:w1.heap.size=H.size+1:=by rw [hw1];simp
 have e2:w2.heap.size=H.size+2:=by rw [hw2];simp [e1]
 have h3:w2.heap[H.size]?=some (.cells (zx2 cl nu (zl3 q)).toArray zaq (0,0)):=by rw [hw2,hw1];exact zac zn
 have h4:w2.heap[H.size+1]?=some (.cells (zi7 0 0 res0).toArray ql (0,0)):=by rw [hw2,<-e1,z6l];exact zn
 have hx2:Ext [] H w2.heap:=by rw [hw2,hw1];exact (Ext.push _).push_own
 rw [e1]
 refine jh (s:=.int .i64) (t:=cl) rfl h3 rfl ?_
 refine jh (s:=.int .i64) (t:=nu) rfl h3 rfl ?_
 refine qw (s:=.any) _ (bRp _ _ _) ?_
 refine jg rfl fun w3 hw3=>?_
 have h33:w3.heap[H.size]?=some (.cells (zx2 cl nu (zl3 q)).toArray zaq (0,0)):=by rw [hw3];exact zac h3
 have h43:w3.heap[H.size+1]?=some (.cells (zi7 0 0 res0).toArray ql (0,0)):=by rw [hw3];exact zac h4
 have h53:w3.heap[H.size+2]?=some (.cells (zi7 0 0 res0).toArray ql (0,0)):=by rw [hw3,<-e2,z6l];exact zn
 have hx3:Ext [] H w3.heap:=by rw [hw3];exact hx2.push_own
 rw [e2]
 refine z7t cl nu res0 rfl h53 rfl fun w4 hw4=>?_
 have hx34:Ext [H.size+2] w3.heap w4.heap:=by rw [hw4];exact Ext.set _ (by simp)
 have h34:=hx34.get h33 (by simp)
 have h44:=hx34.get h43 (by simp)
 have h54:w4.heap[H.size+2]?=some (.cells (zi7 cl nu res0).toArray ql (0,0)):=by rw [hw4];exact xk h53
 have hx4:Ext [] H w4.heap:=by rw [hw4];exact hx3.set_own (.inl (by omega))
 refine qg rfl ?_
 simp only [qo,Addr.add,Nat.zero_add,Option.map_none]
 have hM4:=hx4.get hM (by simp)
 refine jh (s:=.int .i64) (t:=t) rfl hM4 rfl ?_
 refine qm (fun h=>absurd ht (by omega)) (fun _=>?_)
 refine jh (s:=.int .i64) (t:=t) rfl hM4 rfl ?_
 refine zy9 (by omega) (by omega) ?_
 refine zdj rfl hM4 (by simp) fun w9 hw9=>?_
 have hx9:Ext [mb] w4.heap w9.heap:=by rw [hw9];exact Ext.set _ (by simp)
 have hM9:zv9 w9.heap mb (t+1) u tb:=by unfold zv9;rw [hw9];exact xk hM4
 have hU9:zid w9.heap u p m nn bb ls L:=zid.free (hU.ext hx4) hM4 zyr (by decide) hx9 hmu
 have hT9:TabW w9.heap tb room S:=(hT.ext hx4 (by simp)).ext hx9 (by simpa using fun e=>hmt e.symm)
 have h39:=hx9.get h34 (by simp;omega)
 have h49:=hx9.get h44 (by simp;omega)
 have h59:=hx9.get h54 (by simp;omega)
 have hxH9:Ext [mb,tb,u] H w9.heap:=(hx4.mono (by simp)).trans (hx9.mono (by simp))
 refine jh (s:=.int .i64) (t:=cl) rfl h39 rfl ?_
 refine jh (s:=.int .i64) (t:=nu) rfl h39 rfl ?_
 obtain⟨r0,hr0⟩:∃ r0,(((zf7 S cl nu).1≠2/\r0=res0)\/((zf7 S cl nu).1=2/\∃ (c n:Nat) (d:Bool) (data:List UInt8),(zf7 S cl nu).2=zhr c d n data/\c < 4611686018427387904/\n < 4611686018427387904/\data.length<=1100/\r0=⟨c,d,n,data⟩))/\((zf7 S cl nu).1=2->r0=r/\S'=S/\L'=L):=by
  rcases hA with⟨h,_⟩ | ⟨h,c,n,d,data,h1,h2,h3,h4,h5,h6,h7⟩ | ⟨h,_⟩
  ·exact⟨res0,.inl ⟨by omega,rfl⟩,fun h'=>by omega⟩
  ·exact⟨r,.inr ⟨h,c,n,d,data,h1,h2,h3,h4,h5⟩,fun _=>⟨rfl,h6,h7⟩⟩
  ·exact⟨res0,.inl ⟨by omega,rfl⟩,fun h'=>by omega⟩
 refine zl (z2o rfl hM9 hT9 hr0.1) ?_
 rintro e w10 ⟨rfl,hx10⟩
 refine⟨(_,_),rfl,?_⟩
 refine zw3 r0 rfl fun w12 hw12=>?_
 have h7:w12.heap[w10.heap.size]?=some (.cells (zff r0).toArray zf (0,0)):=by rw [hw12];exact zn
 have hx12:Ext [] w9.heap w12.heap:=by rw [hw12];exact hx10.push_own
 have hs9:H.size+3<=w9.heap.size:=by have:=lt_of_get h59;omega
 have h312:=hx12.get h39 (by simp)
 have h412:=hx12.get h49 (by simp)
 have h512:=hx12.get h59 (by simp)
 have hM12:=hx12.get hM9 (by simp)
 have hU12:=hU9.ext hx12
 have hT12:=hT9.ext hx12 (by simp)
 have hxH12:=hxH9.trans (hx12.mono (by simp))
 refine ku (fun _ W=>W.heap[H.size+2]?=some (.cells (zi7 cl nu r).toArray ql (0,0))/\W.heap[H.size+1]?=some (.cells (zi7 0 0 res0).toArray ql (0,0))/\zv9 W.heap mb (t+1) u tb/\TabW W.heap tb room S'/\(∃ p' m',zid W.heap u p' m' nn bb ls L')/\Ext [mb,tb,u] H W.heap) ?_ ?_
 ·refine x9 ?_
  refine x9 ?_
  refine x9 ?_
  have wr:∀ {W W':World}{p' m':Nat}{L2:List Ino}{S2:List Seat}{c:Array Value},Ext [H.size+2] W.heap W'.heap->W.heap[H.size+2]?=some (.cells c ql (0,0))->(∀ (i:Nat) m,c[i]?≠some (Value.map m))->zid W.heap u p' m' nn bb ls L2->TabW W.heap tb room S2->zv9 W.heap mb (t+1) u tb->Ext [mb,tb,u] H W.heap ->
    zid W'.heap u p' m' nn bb ls L2/\TabW W'.heap tb room S2/\zv9 W'.heap mb (t+1) u tb/\Ext [mb,tb,u] H W'.heap:=fun hx hb hc h1 h2 h3 h4=>
   ⟨zid.free h1 hb hc (by decide) hx (by omega),h2.ext hx (by simp;omega),hx.get h3 (by simp;omega),h4.own hx (fun k hk hlt=>by simp at hk;omega)⟩
  have nomap:∀ {r:ResR}(i:Nat) m,(zi7 cl nu r).toArray[i]?≠some (Value.map m):=by
   intro r i m h
   match i with
   | 0 | 1 | 2 | 3 | 4 | 5 | 6=>simp [zi7,zff] at h
   | i+7=>simp [zi7,zff] at h
  rcases hA with⟨hst,c,hd,hc,hb,rfl,rfl,rfl⟩ | ⟨hst,_⟩ | ⟨hst,rfl,rfl,rfl⟩
  ·rw [hst]
   refine qg rfl (qg rfl (qg rfl (qg rfl ?_)))
   refine ztj (n:=6) rfl h312 (by simp [zx2,opC]) ?_
   rw [qal]
   refine zl (z7j rfl hM12 hU12 hls hTr hq hmu) ?_
   rintro e w15 ⟨rfl,hx15,p',m',hU15⟩
   refine⟨_,rfl,?_⟩
   rw [hd]
   have h515:=hx15.get h512 (by simp;omega)
   have h315:=hx15.get h312 (by simp;omega)
   have h415:=hx15.get h412 (by simp;omega)
   have hM15:zv9 w15.heap mb (t+1) u tb:=hx15.get hM12 (by simpa using hmu)
   have hT15:=hT12.ext hx15 (by simpa using htu)
   have hxH15:=hxH12.trans (hx15.mono (M':=[mb,tb,u]) (by simp))
   refine z8q (zkv c) rfl h515 fun w16 hw16=>?_
   have hx16:Ext [H.size+2] w15.heap w16.heap:=by rw [hw16];exact Ext.set _ (by simp)
   have h516:w16.heap[H.size+2]?=some (.cells (zi7 cl nu (zkv c)).toArray ql (0,0)):=by rw [hw16];exact xk h515
   obtain⟨hU16,hT16,hM16,hxH16⟩:=wr hx16 h515 nomap hU15 hT15 hM15 hxH15
   have h316:=hx16.get h315 (by simp)
   have h416:=hx16.get h415 (by simp)
   refine ztj (n:=5) rfl h516 (by simp [zi7,zff]) ?_
   rw [z8o]
   refine zl (z5q (c:=c) (n:=0) (d:=false) (data:=[]) rfl (by omega) (by omega) (by simp)) ?_
   rintro e w17 ⟨y,rfl,hY,hx17⟩
   refine⟨(y,_),rfl,?_⟩
   refine zaj rfl fun w18 hw18=>?_
   have hx18:Ext [] w16.heap w18.heap:=by rw [hw18];exact hx17
   have hM18:=hx18.get hM16 (by simp)
   have h318:=hx18.get h316 (by simp)
   refine jh (s:=.ptr) (t:=some ⟨tb,0,none⟩) rfl hM18 rfl ?_
   refine jh (s:=.int .i64) (t:=cl) rfl h318 rfl ?_
   refine jh (s:=.int .i64) (t:=nu) rfl h318 rfl ?_
   refine jh (s:=.int .i64) (t:=t+1) rfl hM18 rfl ?_
   have hYc:Cells w18.heap y.1 (byteCells (zhr c false 0 [])):=by rw [hw18];exact hY.cells
   have hyl:y.2.1=(zhr c false 0 []).length:=by have:=hY.len;simp at this;omega
   refine qw (s:=.str) (strOf (zhr c false 0 [])) (zuz uS8 u8 zv4 rfl hYc hyl) ?_
   have hT18:=hT16.ext hx18 (by simp)
   have hpl:(zhr c false 0 []).length<=8192:=by
    have l1:=zx3 (2 * c) (by omega)
    have l0:(zkx 0).length<=9:=zx3 0 (by omega)
    unfold zhr zno zoi;simp;omega
   refine zl (z0i cl nu (t+1) (zhr c false 0 []) rfl hT18 hst hpl hb hroom) ?_
   rintro e w19 ⟨rfl,hT19,hx19⟩
   refine⟨_,rfl,?_⟩
   have hU18:=hU16.ext hx18
   refine⟨hx19.get (hx18.get h516 (by simp)) (by simp;omega),hx19.get (hx18.get h416 (by simp)) (by simp;omega),hx19.get hM18 (by simpa using hmt),hT19,⟨p',m',zid.free hU18 hT18.cell zz4 (by decide) hx19 htu⟩,(hxH16.trans (hx18.mono (by simp))).trans (hx19.mono (by simp))⟩
  ·obtain⟨rfl,rfl,rfl⟩:=hr0.2 hst
   rw [hst]
   refine qg rfl (qg rfl (qg rfl (jc rfl ?_)))
   refine xw rfl h7 rfl ?_
   refine z8q r0 rfl h512 fun w14 hw14=>?_
   have hx14:Ext [H.size+2] w12.heap w14.heap:=by rw [hw14];exact Ext.set _ (by simp)
   obtain⟨hU14,hT14,hM14,hxH14⟩:=wr hx14 h512 nomap hU12 hT12 hM12 hxH12
   exact⟨by rw [hw14];exact xk h512,hx14.get h412 (by simp),hM14,hT14,⟨p,m,hU14⟩,hxH14⟩
  ·rw [hst]
   refine jc rfl ?_
   refine zdj rfl h512 (by simp [zi7,zff]) fun w13 hw13=>?_
   have hx13:Ext [H.size+2] w12.heap w13.heap:=by rw [hw13];exact Ext.set _ (by simp)
   obtain⟨hU13,hT13,hM13,hxH13⟩:=wr hx13 h512 nomap hU12 hT12 hM12 hxH12
   exact⟨by rw [hw13];exact xk h512,hx13.get h412 (by simp),hM13,hT13,⟨p,m,hU13⟩,hxH13⟩
 ·rintro _ w24 ⟨g5,g4,gM,gT,⟨p',m',gU⟩,gx⟩
  refine xw rfl g5 rfl ?_
  refine z7t cl nu r rfl g4 rfl fun w25 hw25=>?_
  refine xw rfl (by rw [hw25];exact xk g4) rfl ?_
  have hx25:Ext [H.size+1] w24.heap w25.heap:=by rw [hw25];exact Ext.set _ (by simp)
  refine⟨rfl,hx25.get gM (by simp;omega),gT.ext hx25 (by simp;omega),⟨p',m',zid.free gU g4 ?_ (by decide) hx25 (by omega)⟩,gx.own hx25 (fun k hk hlt=>by simp at hk;omega)⟩
  intro i m h
  match i with
  | 0 | 1 | 2 | 3 | 4 | 5 | 6=>simp [zi7,zff] at h
  | i+7=>simp [zi7,zff] at h
theorem uDg:P.underlying xq=some (.array 32 za7):=by kernel_rfl
theorem u8d:P.underlying za7=some (.int .u8):=by kernel_rfl
theorem z88:P.cellsOf za7=1:=by kernel_rfl
theorem z8s:P.cellsOf xq=32:=by kernel_rfl
theorem Kdg:KeyOk P xq (List UInt8) (fun L=>L.length=32) arr:=KeyOk.arr uDg u8d z88
theorem uMd:P.underlying zc5=some (.map xq je):=by kernel_rfl
theorem zMd (w:World):(zeroValue je).run P w=.ok (.slice none 0 0) w:=by kernel_rfl
theorem bSt (n:Int) (m:Option Nat) (w:World):(Instr.build zhh #[(0,.int .i64 n),(2,.map m)]).run P w=.ok (.agg #[.int .i64 n,.int .i64 0,.map m]) w:=by kernel_rfl
def z1k (H:Heap) (s:Nat):Prop:=∃ (n:Int) (m:Nat),H[s]?=some (.cells #[.int .i64 n,.int .i64 0,.map (some m)] zhh (0,0))/\H[m]?=some (.map #[] 0)
theorem z1k.ext {H H':Heap}{s:Nat}(h:z1k H s) (hx:Ext [] H H'):z1k H' s:=by
 obtain⟨n,m,h1,h2⟩:=h
 exact⟨n,m,hx.get h1 (by simp),hx.get h2 (by simp)⟩
theorem z1l {w:World}{H:Heap}(q:Int) (hw:w.heap=H):zx P zkl #[.int .i64 q] w fun e w'=>∃ s,e=.returned (.pointer (some ⟨s,0,none⟩))/\z1k w'.heap s/\Ext [] H w'.heap:=by
 refine zvo ?_
 unfold zrx
 refine qw (s:=.int .i64) _ (z5r _ _ _) ?_
 refine zbg (s:=.map) (some H.size) _ (zpa hw) ?_
 refine qw (s:=.any) _ (bSt _ _ _) ?_
 refine jg (H:=H.push (.map #[] 0)) rfl fun w2 hw2=>?_
 refine⟨(H.push (.map #[] 0)).size,rfl,⟨_,H.size,by rw [hw2];exact zn,by rw [hw2];exact zac zn⟩,by rw [hw2];exact (Ext.push _).push_own⟩
theorem z5j {w:World}{H:Heap}{s:Nat}{D:List UInt8}(hw:w.heap=H) (hS:z1k H s) (hD:D.length=32):zx P zga #[.pointer (some ⟨s,0,none⟩),arr D] w fun e w'=>e=.returned (.tuple #[.slice none 0 0,.int .i64 50])/\Ext [] H w'.heap:=by
 refine znl ?_
 unfold ziv
 refine jg hw fun w1 hw1=>?_
 have hx1:Ext [] H w1.heap:=by rw [hw1];exact .push _
 have h3:w1.heap[H.size]?=some (.cells (byteCells D).toArray xq (0,0)):=by rw [hw1];exact zn
 refine qg rfl ?_
 refine zaj rfl fun w2 hw2=>?_
 rw [<-hw2] at hx1 h3
 obtain⟨n,m,g1,g2⟩:=hS.ext hx1
 simp only [qo,Addr.add,Nat.zero_add,Option.map_none]
 refine jh (s:=.map) (t:=some m) rfl g1 rfl ?_
 refine xw rfl h3 (by simp [hD]) ?_
 refine zb4 (l:=[.slc,.bool]) ((none,0,0),false) (zv2 (l:=[]) Kdg uMd zMd rfl g2 .nil hD) ?_
 exact jc rfl ⟨trivial,hx1⟩
def zt9:List Value:=[.int .i64 0,.string (strOf []),.int .i64 0,.slice none 0 0,.slice none 0 0]
theorem z1z:zbf zt9:=by
 intro v hv
 simp only [zt9,List.mem_cons,List.not_mem_nil,or_false] at hv
 rcases hv with rfl | rfl | rfl | rfl | rfl <;> rfl
theorem z8n:zc P vg=zt9.toArray:=by kernel_rfl
theorem z8u:P.cellsOf vg=5:=by kernel_rfl
theorem bNd (w:World):(Instr.build vg #[]).run P w=.ok (.agg zt9.toArray) w:=by kernel_rfl
theorem z6y {w:World}{H:Heap}(hw:w.heap=H){K:Nat->World->Prop}(hK:∀ w',w'.heap=H.push (.cells zt9.toArray vg (0,0))->K H.size w') :
  zam (zc P vg) vg w fun b w1=>jy P (storeVar vg (⟨b,0,none⟩:Addr) (.agg zt9.toArray)) w1 fun w2=>K b w2:=
 zqr (v:=.agg zt9.toArray) z8u (by rw [z8n];rfl) (by simp [Value.cells,zt9]) (by simpa [Value.cells] using z1z) hw hK
theorem z4v {w:World}{H:Heap}{s:Nat}{D:List UInt8}(k:Int) (hw:w.heap=H) (hS:z1k H s) (hD:D.length=32):zx P znk #[.pointer (some ⟨s,0,none⟩),arr D,.int .i64 k] w fun e w'=>e=.returned (.tuple #[.agg zt9.toArray,.int .i64 50])/\Ext [] H w'.heap:=by
 refine zvg ?_
 unfold zrf
 refine jg hw fun w1 hw1=>?_
 refine jg rfl fun w2 hw2=>?_
 have e1:w1.heap.size=H.size+1:=by rw [hw1];simp
 have h4:w2.heap[H.size]?=some (.cells (byteCells D).toArray xq (0,0)):=by rw [hw2,hw1];exact zac zn
 have h6:w2.heap[H.size+1]?=some (.cells zt9.toArray vg (0,0)):=by rw [hw2,<-e1,z8n];exact zn
 have hx2:Ext [] H w2.heap:=by rw [hw2,hw1];exact (Ext.push _).push_own
 rw [e1]
 refine xw rfl h4 (by simp [hD]) ?_
 refine zl (z5j (D:=D) rfl (hS.ext hx2) hD) ?_
 rintro e w3 ⟨rfl,hx3⟩
 refine⟨((none,0,0),_),rfl,?_⟩
 refine jc rfl ?_
 refine qw (s:=.any) _ (bNd _) ?_
 have h63:=hx3.get h6 (by simp)
 refine zb0 (v:=.agg zt9.toArray) (by rw [z8u];rfl) (by simp [Value.cells,zt9]) (by simpa [Value.cells] using z1z) rfl h63 (by simp [Value.cells,zt9]) fun w4 hw4=>?_
 have h64:w4.heap[H.size+1]?=some (.cells zt9.toArray vg (0,0)):=by rw [hw4,show setCells zt9.toArray 0 (Value.agg zt9.toArray).cells.toList=zt9.toArray from rfl];exact xk h63
 refine xw rfl h64 rfl ?_
 exact⟨rfl,by rw [hw4];exact (hx2.trans hx3).set_own (.inl (by omega))⟩
theorem z04 {w:World}{H:Heap}{s:Nat}{D:List UInt8}(hw:w.heap=H) (hS:z1k H s) (hD:D.length=32):zx P zly #[.pointer (some ⟨s,0,none⟩),arr D] w fun e w'=>e=.returned (.tuple #[.slice none 0 0,.int .i64 50])/\Ext [] H w'.heap:=by
 refine zug ?_
 unfold zou
 refine jg hw fun w1 hw1=>?_
 have h3:w1.heap[H.size]?=some (.cells (byteCells D).toArray xq (0,0)):=by rw [hw1];exact zn
 have hx1:Ext [] H w1.heap:=by rw [hw1];exact .push _
 refine qg rfl ?_
 refine xw rfl h3 (by simp [hD]) ?_
 refine zl (z4v (D:=D) 3 rfl (hS.ext hx1) hD) ?_
 rintro e w2 ⟨rfl,hx2⟩
 refine⟨(_,_),rfl,?_⟩
 refine z6y rfl fun w4 hw4=>?_
 exact jc rfl ⟨rfl,by rw [hw4];exact (hx1.trans hx2).push_own⟩
theorem z7w {w:World}{H:Heap}{D:List UInt8}(hD:D.length=32) (hw:w.heap=H){K:Nat->World->Prop}(hK:∀ w',w'.heap=H.push (.cells (byteCells D).toArray xq (0,0))->K H.size w') :
  zam (zc P xq) xq w fun b w1=>jy P (storeVar xq (⟨b,0,none⟩:Addr) (.agg (byteCells D).toArray)) w1 fun w2=>K b w2:=
 zqr (v:=.agg (byteCells D).toArray) (by rw [z8s];simp [Value.cells,hD]) (by rw [show (zc P xq).size=32 from by kernel_rfl];simp [Value.cells,hD]) (by simp [Value.cells,hD]) (by simpa [Value.cells] using zcs) hw hK
theorem z9w {w:World}{H:Heap}{a:Option Addr}{sz:Nat}{us:List Value}(hw:w.heap=H) (hL:Cells H a us) (hl:us.length=sz) (h0:0 < sz){K:Array Value->Prop}(hK:K us.toArray):ixS a 1 sz 0 fun p=>ldA P sz p w K:=by
 rcases hL with h | ⟨b,o,c,T,fr,rfl,hb,hs,he⟩
 ·subst h;simp at hl;omega
 ·refine z0f 0 rfl (by omega) ?_
  refine ztj hw hb (by omega) ?_
  rw [Nat.zero_mul,Nat.add_zero,<-hl]
  have:c.extract o (o+us.length)=us.toArray:=Array.ext' (by rw [he])
  rw [this];exact hK
theorem z3f {w:World}{H:Heap}{p m s nc:Nat}{nn bb:Int}{L:List Ino}{a:Option Addr}{D:List UInt8}(hw:w.heap=H) (hU:Up H p m nn bb L) (hS:z1k H s) (hD:D.length=32) (hC:Cells H a (byteCells D)) :
  zx P zfp #[.pointer (some ⟨s,0,none⟩),.slice a 1 nc,.pointer (some ⟨p,0,none⟩)] w fun e w'=>e=.returned (.tuple #[.pointer none,.int .i64 50])/\Ext [] H w'.heap:=by
 refine zje ?_
 unfold zia
 refine x9 ?_
 refine qg rfl ?_
 refine qg rfl ?_
 refine qm (fun h=>absurd h (by decide)) (fun _=>?_)
 refine zl (zvk hw hU) ?_
 rintro e w2 ⟨p',m',rfl,hU2,hx2,hp',hm'⟩
 refine⟨_,rfl,?_⟩
 refine qw (s:=.any) _ (bUn _ _) ?_
 refine jg rfl fun w3 hw3=>?_
 have hx3:Ext [] H w3.heap:=by rw [hw3];exact hx2.push_own
 refine za3 (fun _ s W=>W=w3/\s=0) 0 ⟨rfl,rfl⟩ ?_
 rintro k s0 W ⟨rfl,rfl⟩ Q hQ
 refine qm (fun _=>?_) (fun h=>absurd (show (0:Int) < ((1:Nat):Int) by decide) h)
 refine z9w rfl (hC.ext hx3 (by simp)) (by simp [hD]) (by omega) ?_
 refine z7w hD rfl fun w6 hw6=>?_
 have h10:w6.heap[W.heap.size]?=some (.cells (byteCells D).toArray xq (0,0)):=by rw [hw6];exact zn
 have hx6:Ext [] W.heap w6.heap:=by rw [hw6];exact .push _
 refine xw rfl h10 (by simp [hD]) ?_
 refine zl (z04 (D:=D) rfl (hS.ext (hx3.trans hx6)) hD) ?_
 rintro e w7 ⟨rfl,hx7⟩
 refine⟨((none,0,0),_),rfl,?_⟩
 exact jc rfl ⟨rfl,(hx3.trans hx6).trans hx7⟩
theorem z1g {w:World}{a:Option Addr}{l c:Nat}{u:Option Addr}:zx P zfp #[.pointer none,.slice a l c,.pointer u] w fun e w'=>e=.returned (.tuple #[.pointer none,.int .i64 7])/\w'=w:=by
 refine zje ?_
 unfold zia
 refine x9 ?_
 exact jc rfl (jc rfl ⟨rfl,rfl⟩)
theorem bMa (u t:Option Addr) (w:World):(Instr.build za2 #[(1,.pointer u),(2,.pointer t)]).run P w=.ok (.agg #[.int .i64 0,.pointer u,.pointer t]) w:=by kernel_rfl
theorem zv3 {w:World}{H:Heap}{s a:Option Addr}{l lc:Nat}{nodes bytes room:Int}{K:Int->Option Addr->World->Prop}(hw:w.heap=H)
  (hbad:¬(zqo nodes bytes/\zn0 room)->∀ w':World,Ext [] H w'.heap->K 1 none w')
  (hU:zqo nodes bytes->zn0 room->∀ {w1:World}{p m tb:Nat},Ext [] H w1.heap->Up w1.heap p m nodes bytes []->TabW w1.heap tb room (List.replicate 8 seat0)->H.size<=tb->zx P zfp #[.pointer s,.slice a l lc,.pointer (some ⟨p,0,none⟩)] w1 fun e w2=>∃ uo c,e=.returned (.tuple #[.pointer uo,.int .i64 c])/\(c≠0->K c none w2)/\(c=0->∀ w3:World,w3.heap=w2.heap.push (.cells #[.int .i64 0,.pointer uo,upP tb] za2 (0,0))->K 0 (some ⟨w2.heap.size,0,none⟩) w3)) :
  zx P zdz #[.pointer s,.slice a l lc,.int .i64 nodes,.int .i64 bytes,.int .i64 room] w fun e w'=>∃ o c,e=.returned (.tuple #[.pointer o,.int .i64 c])/\K c o w':=by
 refine zp9 ?_
 unfold zmh
 refine zl (new_c nodes bytes hw) ?_
 rintro e w1 (⟨hno,rfl,hw1⟩ | ⟨hok,p,m,rfl,hU1,hx1,_⟩)
 ·refine⟨(_,_),rfl,?_⟩
  refine jc rfl ?_
  exact⟨none,1,rfl,hbad (fun h=>hno h.1) _ (by rw [hw1];exact .refl _ _)⟩
 refine⟨(_,_),rfl,?_⟩
 refine qg rfl ?_
 refine zl (z5g room rfl) ?_
 rintro e w2 (⟨hno,rfl,hw2⟩ | ⟨hmk,rfl,hT2,hx2,_⟩)
 ·refine⟨(_,_),rfl,?_⟩
  refine jc rfl ?_
  exact⟨none,1,rfl,hbad (fun h=>hno h.2) _ (by rw [hw2];exact hx1)⟩
 refine⟨(_,_),rfl,?_⟩
 refine qg rfl ?_
 refine zl (hU hok hmk (hx1.trans hx2) (hU1.ext hx2 (by simp) (by simp)) hT2 hx1.1) ?_
 rintro e w3 ⟨uo,c,rfl,hc1,hc2⟩
 refine⟨(_,_),rfl,?_⟩
 refine zdk (fun h=>?_) (fun h=>?_)
 ·exact⟨none,c,rfl,hc1 h⟩
 ·refine qw (s:=.any) _ (bMa _ _ _) ?_
  refine jg rfl fun w4 hw4=>?_
  exact⟨_,0,rfl,hc2 h w4 hw4⟩
def qa:Path:=[[97]]
theorem zvi:okP qa:=⟨fun L hL=>by simp [qa] at hL;subst hL;decide,by decide⟩
def ina:Ino:=⟨qa,2,false,[]⟩
def z4h:Fil:=⟨jd qa,true,[]⟩
theorem z3e:zg1 []=⟨⟨[47],true,[]⟩,[],true⟩:=rfl
theorem z9c:zhn [] []=[]:=by
 unfold zhn zh3
 have:zjf [] [] (zg1 []) []=[]:=by
  unfold zjf zr9
  rw [z3e]
  simp [zdd,sortS]
 rw [this];rfl
theorem z9x:zdd [ina] []=[ina]:=by decide
theorem bel2:zdd [ina] qa=[]:=by decide
theorem z9t:zei [ina] qa=some ina:=by
 rw [zzu zvi (by decide)]
 decide
theorem z9k:zjf [] [ina] (zg1 []) []=[[97]]:=by
 unfold zjf zr9
 rw [z3e,z9x]
 have hk:zko [] (jd qa)=some [97]:=by
  unfold zko
  rw [zbe zvi]
  decide
 simp [zqs,hk,ina,sortS]
theorem ov1:ze1 [] [ina] (zg1 []) qa=(⟨z4h,[],true⟩,true):=by
 unfold ze1
 rw [z9t,z3e]
 rfl
theorem z6x:zhn [] [ina]=[z4h]:=by
 unfold zhn zh3
 rw [z9k]
 have hq:([]:Path)++[[97]]=qa:=rfl
 simp only [List.flatMap_cons,List.flatMap_nil,List.append_nil,zsn]
 rw [hq,ov1]
 simp only [if_true]
 have:zh3 [] [ina] 8 ⟨z4h,[],true⟩ qa=[]:=by
  unfold zh3
  have:zjf [] [ina] ⟨z4h,[],true⟩ qa=[]:=by
   unfold zjf zr9
   rw [bel2]
   simp [sortS]
  rw [this];rfl
 rw [this,if_pos (by rfl)]
theorem zza:jd qa=[47,97]:=by decide
theorem z8a:TreeF (zhn [] []):=by rw [z9c];exact⟨by simp,by simp,by simp,by simp⟩
theorem z2r:TreeF (zhn [] [ina]):=by
 rw [z6x]
 refine⟨?_,by simp,?_,?_⟩
 ·intro f hf
  simp at hf;subst hf
  refine⟨?_,?_,fun _=>rfl,by simp [z4h]⟩
  ·show (jm (jd qa)).2=0
   rw [zbe zvi]
  ·show jd (jm (jd qa)).1=jd qa
   rw [zbe zvi]
 ·intro f hf
  simp at hf;subst hf
  show jd qa≠[47]
  decide
 ·intro f hf
  simp at hf;subst hf
  refine⟨zh4,?_,rfl⟩
  have:upS z4h.path=[47]:=by
   show jd ((jm (jd qa)).1.take ((jm (jd qa)).1.length-1))=[47]
   rw [zbe zvi]
   decide
  rw [this];decide
theorem z1y {Th:List Fil}(h:zlj Th [47]=some zh4):zry Th qa=0:=by
 unfold zry
 have:lookA Th (qa.take (qa.length-1)) (qa.length-1)=(zh4,0):=by
  show ((zlj Th (jd [])).getD zh5,0)=(zh4,0)
  rw [show jd []=[47] from rfl,h];rfl
 rw [this];rfl
theorem mk0:zfw (zh4 :: zhn [] []) qa=0:=by
 rw [z9c]
 unfold zfw
 rw [if_neg (by decide),z1y (by decide),if_neg (by decide),zza,if_neg (by decide)]
theorem mk1:zfw (zh4 :: zhn [] [ina]) qa=5:=by
 rw [z6x]
 unfold zfw
 rw [if_neg (by decide),z1y (by decide),if_neg (by decide),zza,if_pos (by decide)]
theorem z9y:zx6 [] [] qa true [] []=[ina]:=by
 have hs:zm1 [] [] qa=false:=by
  unfold zm1
  rw [show qa.length-1=0 from rfl]
  decide
 unfold zx6
 rw [hs,show qa.length-1=0 from rfl]
 unfold zqa zzs
 rw [zbe zvi]
 decide
theorem do0:doA [] 9 99 [] qa=(res0,[ina]):=by
 unfold doA
 rw [mk0,if_neg (by decide),z9y,if_neg (by decide)]
theorem do1:doA [] 9 99 [ina] qa=(zkv 5,[ina]):=by
 unfold doA
 rw [mk1,if_pos (by decide)]
theorem ls0:LsOK []:=⟨by simp,by simp⟩
end Go.Proofs.YthaaekcaaecdeaaGreatDoor
