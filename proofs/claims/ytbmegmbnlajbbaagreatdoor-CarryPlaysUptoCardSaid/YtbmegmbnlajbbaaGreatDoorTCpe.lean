/- Part 5 of the texts below the card, joined. -/
import Derived.Test.YtbmegmbnlajbbaaGreatDoorTCpd
import Derived.Test.YtbmegmbnlajbbaaGreatDoorTCpc
import Derived.KernelRfl
import Derived.Shelf.SlSortCmp.WholeK
import Derived.Shelf.Small.Bits
import Derived.Test.YtbmegmbnlajbbaaGreatDoorProg
namespace Go.Proofs.YtbmegmbnlajbbaaGreatDoor
open Go Go.Fw Go.Proofs
abbrev Rest:=Option (List UInt8)
def InW (H:Heap) (b:Nat) (F:List Nat) (s:Rest):Prop:=∃ (x:Option Addr×Nat×Nat) (e:Int),H[b]?=some (.cells #[zbv x,.int .i64 e] zkz (0,0))/\b∉F/\(∀ c∈jf x,c∈F) /\
 (match s with | some R=>e=0/\Cells H x.1 (byteCells R)/\x.2.1=R.length/\x.2.1<=x.2.2/\R.length<=9223372036854775807 | none=>e≠0)
theorem zqd {H H':Heap}{M F:List Nat}{x:Option Addr×Nat×Nat}{vs:List Value}(h:Cells H x.1 vs) (hx:Ext M H H') (hF:∀ c∈jf x,c∈F) (hM:∀ c∈F,c∉M):Cells H' x.1 vs:=
 h.ext hx fun a ha _=>hM _ (hF _ (by simp [jf,ha]))
theorem InW.ext {H H':Heap}{b:Nat}{F M:List Nat}{s:Rest}(h:InW H b F s) (hx:Ext M H H') (hb:b∉M) (hF:∀ c∈F,c∉M):InW H' b F s:=by
 obtain⟨x,e,h1,h2,h3,h4⟩:=h
 refine⟨x,e,hx.get h1 hb,h2,h3,?_⟩
 cases s with
 | none=>exact h4
 | some R=>exact⟨h4.1,zqd h4.2.1 hx h3 hF,h4.2.2⟩
theorem InW.lt {H:Heap}{b:Nat}{F:List Nat}{s:Rest}(h:InW H b F s):b < H.size:=by obtain⟨x,e,h1,_⟩:=h;exact lt_of_get h1
theorem ztf {w:World}{H:Heap}{b:Nat}{F:List Nat}{s:Rest}(code:Int) (hw:w.heap=H) (hI:InW H b F s) (hc:code≠0) :
  qc P zcq #[.pointer (some ⟨b,0,none⟩),.int .i64 code] w fun e w'=>e=.returned (.tuple #[])/\InW w'.heap b F none/\Ext [b] H w'.heap:=by
 obtain⟨x,e,h1,h2,h3,_⟩:=hI
 refine zvh ?_
 unfold zoc
 simp only [zy,jo]
 refine za9 hw h1 (by simp) fun w1 hw1=>?_
 have hx1:Ext [b] H w1.heap:=by rw [hw1];exact Ext.set _ (by simp)
 have hb1:w1.heap[b]?=some (.cells #[zbv (none,0,0),.int .i64 e] zkz (0,0)):=by rw [hw1];exact qg h1
 refine za9 rfl hb1 (by simp) fun w2 hw2=>?_
 exact⟨trivial,⟨(none,0,0),code,by rw [hw2];exact qg hb1,h2,by simp [jf],hc⟩,by rw [hw2];exact hx1.set_own (.inr (by simp))⟩
def z2r (x:Option Addr×Nat×Nat) (k:Nat):Option Addr×Nat×Nat:=(if x.2.2=k then x.1 else x.1.map (·.add (k * 1)),x.2.1-k,x.2.2-k)
theorem z4i {x:Option Addr×Nat×Nat}{k:Nat}:∀ c∈jf (z2r x k),c∈jf x:=by
 obtain⟨a,n,m⟩:=x
 intro c hc
 unfold z2r at hc
 simp only at hc
 split at hc
 ·exact hc
 ·cases a with
  | none=>simp [jf] at hc
  | some a=>
   have:(a.add k).block=a.block:=by unfold Addr.add;split <;> rfl
   simpa [jf,this] using hc
theorem zrd {H:Heap}{x:Option Addr×Nat×Nat}{R:List UInt8}(h:Cells H x.1 (byteCells R)) (k:Nat) (hl:R.length<=x.2.2):Cells H (z2r x k).1 (byteCells (R.drop k)):=by
 have:=Cells.drop h k x.2.2 (by simpa using hl)
 rw [zju] at this
 simpa only [z2r,Nat.mul_one] using this
def nx:Rest->(Int×Bool)×Rest
 | some (c :: R)=>(((c.toNat:Int),true),some R)
 | _=>((0,false),none)
theorem z8s {w:World}{H:Heap}{b:Nat}{F:List Nat}{s:Rest}(hw:w.heap=H) (hI:InW H b F s) :
  qc P zjz #[.pointer (some ⟨b,0,none⟩)] w fun e w'=>e=.returned (.tuple #[.int .u8 (nx s).1.1,.bool (nx s).1.2])/\InW w'.heap b F (nx s).2/\Ext [b] H w'.heap:=by
 obtain⟨x,e,h1,h2,h3,h4⟩:=id hI
 refine zu1 ?_
 unfold zn3
 refine zal ?_
 refine jm rfl ?_
 simp only [zy,jo]
 refine je (s:=.int .i64) (t:=e) hw h1 rfl ?_
 cases s with
 | none=>exact zay (fun _=>⟨rfl,by rw [hw];exact hI,by rw [hw];exact .refl _ _⟩) (fun h=>absurd h h4)
 | some R=>
  obtain⟨rfl,hC,hl,hcap,hlen⟩:=h4
  refine jm rfl ?_
  refine je (s:=.slc) (t:=x) hw h1 rfl ?_
  cases R with
  | nil=>
   refine zah (by simp [hl]) ?_
   refine zk (ztf 20 hw hI (by omega)) ?_
   rintro e w' ⟨rfl,h⟩
   exact⟨(),rfl,rfl,h⟩
  | cons c R=>
   refine jm (by simp [hl];omega) ?_
   refine je (s:=.slc) (t:=x) hw h1 rfl ?_
   obtain⟨b2,o,cs,T,fr,hx1,hb2,ho,hby⟩:=hC.bytes (by simp)
   rw [hx1]
   refine zkt 0 rfl (by rw [hl];simp) ?_
   refine je (s:=.int .u8) (t:=(c.toNat:Int)) hw hb2 (by have:=hby 0 (by simp);simp at this;exact this) ?_
   refine je (s:=.slc) (t:=x) hw h1 rfl ?_
   refine qp (s:=.slc) (z2r x 1) (za1 uS8 sz8 (.yes rfl) .no (by rw [hl];simp) hcap) ?_
   refine za9 hw h1 (by simp) fun w1 hw1=>?_
   have hx:Ext [b] H w1.heap:=by rw [hw1];exact Ext.set _ (by simp)
   have hown:∀ d∈jf (z2r x 1),d∈F:=fun d hd=>h3 d (z4i d hd)
   refine⟨rfl,⟨z2r x 1,0,by rw [hw1];exact qg h1,h2,hown,rfl,?_,by simp [z2r,hl],by simp only [z2r];omega,by simp at hlen;omega⟩,hx⟩
   exact zqd (zrd hC 1 (by omega)) hx hown fun d hd h=>by simp at h;subst h;exact h2 hd
theorem zu0 (m:Nat):(BitVec.ofInt 64 (m:Int)).toNat=m % 18446744073709551616:=by
 rw [BitVec.toNat_ofInt]
 have:((2:Nat) ^ 64:Nat)=18446744073709551616:=by decide
 rw [this];omega
theorem qk4 {a b:Nat}{K:Int->Prop}(ha:a < 18446744073709551616) (hb:b < 18446744073709551616) (h:K ((a ||| b:Nat):Int)):orI .u64 (a:Int) (b:Int) K:=by
 refine⟨_,?_,h⟩
 have e:(BitVec.ofInt IntKind.u64.bits (a:Int) ||| BitVec.ofInt IntKind.u64.bits (b:Int)).toNat=a ||| b:=by
  show (BitVec.ofInt 64 (a:Int) ||| BitVec.ofInt 64 (b:Int)).toNat=a ||| b
  rw [BitVec.toNat_or,zu0,zu0,Nat.mod_eq_of_lt ha,Nat.mod_eq_of_lt hb]
 rw [e,z7r]
 have:a ||| b < 2 ^ 64:=Nat.or_lt_two_pow (by simpa using ha) (by simpa using hb)
 rw [Nat.mod_eq_of_lt (by simpa using this)]
theorem qhe (x:BitVec 8):(x &&& 127#8).toNat=x.toNat % 128:=by
 revert x;decide
theorem qkp {c:UInt8}{K:Int->Prop}(h:K ((c.toNat % 128:Nat):Int)):z2i .u8 (c.toNat:Int) 127 K:=by
 refine⟨_,?_,h⟩
 have e1:BitVec.ofInt 8 (c.toNat:Int)=BitVec.ofNat 8 c.toNat:=by
  apply BitVec.eq_of_toNat_eq
  simp
 show _=IntKind.u8.wrap ((BitVec.ofInt 8 (c.toNat:Int) &&& BitVec.ofInt 8 127).toNat:Int)
 have e3:BitVec.ofInt 8 127=127#8:=by decide
 rw [e1,e3,qhe,zi2]
 have:=c.toNat_lt
 simp only [BitVec.toNat_ofNat]
 omega
theorem z8m (e:Nat):2 ^ (7 * e)=128 ^ e:=by rw [Nat.pow_mul]
theorem more7 {c:UInt8}{e acc:Nat}(he:e<=9) (ha:acc < 128 ^ e) (h9:e=9->c.toNat<=1){i:Int}(hi:i=7 * (e:Int)){K:Int->Prop}(h:K ((acc+c.toNat % 128 * 128 ^ e:Nat):Int)) :
  z9r .u64 ((c.toNat % 128:Nat):Int) i fun t=>orI .u64 (acc:Int) t K:=by
 have hc:=c.toNat_lt
 have hp:128 ^ e<=128 ^ 9:=Nat.pow_le_pow_right (by omega) he
 have h128:(128:Nat) ^ 9=9223372036854775808:=by decide
 have hlt:c.toNat % 128 * 128 ^ e < 18446744073709551616:=by
  by_cases h:e=9
  ·subst h
   have:=h9 rfl
   have h1:c.toNat % 128<=1:=by omega
   calc c.toNat % 128 * 128 ^ 9<=1 * 128 ^ 9:=Nat.mul_le_mul_right _ h1
    _ < _:=by decide
  ·have hp8:128 ^ e<=128 ^ 8:=Nat.pow_le_pow_right (by omega) (by omega)
   calc c.toNat % 128 * 128 ^ e<=127 * 128 ^ 8:=Nat.mul_le_mul (by omega) hp8
    _ < _:=by decide
 refine⟨by omega,((c.toNat % 128 * 128 ^ e:Nat):Int),?_,?_⟩
 ·have e1:min i.toNat IntKind.u64.bits=7 * e:=by
   have:IntKind.u64.bits=64:=rfl
   omega
  rw [e1]
  have e2:((c.toNat % 128:Nat):Int) * 2 ^ (7 * e)=((c.toNat % 128 * 128 ^ e:Nat):Int):=by
   rw [<-z8m];simp
  rw [e2,wrap_u64 (by omega) (by omega)]
 ·refine qk4 (by omega) hlt ?_
  have h2:acc ||| c.toNat % 128 * 128 ^ e=acc+c.toNat % 128 * 128 ^ e:=by
   rw [<-z8m]
   have h3:=Nat.shiftLeft_add_eq_or_of_lt (i:=7 * e) (b:=acc) (by rw [z8m];exact ha) (c.toNat % 128)
   rw [Nat.shiftLeft_eq] at h3
   rw [Nat.or_comm,<-h3,Nat.add_comm]
  rw [h2];exact h
def nmS (s:Rest):Nat×Rest:=match s with | none=>(0,none) | some R=>match rdNum R with | none=>(0,none) | some (n,R)=>(n,some R)
def txS (most:Nat) (s:Rest):List UInt8×Rest:=match s with | none=>([],none) | some R=>match zme most R with | none=>([],none) | some (t,R)=>(t,some R)
theorem z1s {w:World}{H:Heap}{b:Nat}{F:List Nat}{s:Rest}(hw:w.heap=H) (hI:InW H b F s) :
  qc P zes #[.pointer (some ⟨b,0,none⟩)] w fun e w'=>e=.returned (.int .u64 ((nmS s).1:Int))/\InW w'.heap b F (nmS s).2/\Ext [b] H w'.heap:=by
 refine zwo ?_
 unfold zpu
 cases s with
 | none=>
  refine jg (fun (s:Int×Int) W=>W=w) (fun _ _=>0) rfl ?_
  rintro s W rfl
  refine zal ?_
  refine zk (z8s hw hI) ?_
  rintro e w' ⟨rfl,h⟩
  refine⟨(0,false),rfl,?_⟩
  exact zah rfl ⟨rfl,h⟩
 | some R0=>
 refine jg (fun (s:Int×Int) W=>∃ (acc e:Nat) (R:List UInt8),s=((acc:Int),(e:Int))/\e<=9/\acc < 128 ^ e/\InW W.heap b F (some R)/\rdN e acc R=rdNum R0/\Ext [b] H W.heap) (fun s _=>(10-s.2).toNat)
  ⟨0,0,R0,rfl,by omega,by simp,by rw [hw];exact hI,rfl,by rw [hw];exact .refl _ _⟩ ?_
 rintro _ W ⟨acc,e,R,rfl,he,hacc,hIW,hrd,hxW⟩
 refine zal ?_
 refine zk (z8s rfl hIW) ?_
 rintro e' w2 ⟨rfl,hI2,hx2⟩
 have hx02:=hxW.trans hx2
 cases R with
 | nil=>
  refine⟨(0,false),rfl,?_⟩
  refine zah rfl ?_
  have:nmS (some R0)=(0,none):=by simp only [nmS,<-hrd,rdN]
  rw [this]
  exact⟨rfl,hI2,hx02⟩
 | cons c R=>
  refine⟨((c.toNat:Int),true),rfl,?_⟩
  refine jm rfl ?_
  have hbad:((e=9/\1 < c.toNat)\/(0 < e/\c.toNat=0))->qw P zcq #[(Value.pointer (some ⟨b,0,none⟩)),(Value.int .i64 21)] [] true w2 fun (_:Unit) w_3=>
    Ending.returned (Value.int .u64 0)=.returned (.int .u64 ((nmS (some R0)).1:Int))/\InW w_3.heap b F (nmS (some R0)).2/\Ext [b] H w_3.heap:=by
   intro hb
   have:nmS (some R0)=(0,none):=by simp only [nmS,<-hrd,rdN,if_pos hb]
   rw [this]
   refine zk (ztf 21 rfl hI2 (by omega)) ?_
   rintro e3 w3 ⟨rfl,h3,hx3⟩
   exact⟨(),rfl,rfl,h3,hx02.trans hx3⟩
  refine joinP_of (fun _ W'=>W'=w2/\¬((e=9/\1 < c.toNat)\/(0 < e/\c.toNat=0))) ?_ ?_
  ·refine zax (fun h9=>?_) (fun h9=>?_)
   ·refine zq (fun h1=>hbad (.inl ⟨by omega,by simp only at h1;omega⟩)) (fun h1=>?_)
    refine zq (fun hp=>?_) (fun hp=>⟨rfl,by simp only at h1;omega⟩)
    exact zax (fun h0=>hbad (.inr ⟨by omega,by simp only at h0;omega⟩)) (fun h0=>⟨rfl,by simp only at h0 h1;omega⟩)
   ·refine zq (fun hp=>?_) (fun hp=>⟨rfl,by simp only at h9 hp;omega⟩)
    exact zax (fun h0=>hbad (.inr ⟨by simp only at hp;omega,by simp only at h0;omega⟩)) (fun h0=>⟨rfl,by simp only at h0 h9;omega⟩)
  rintro _ W' ⟨rfl,hok⟩
  refine qkp ?_
  refine zfx (by omega) (by omega) ?_
  refine zfy (7 * (e:Int)) rfl (by omega) (by omega) ?_
  refine more7 he hacc (fun h=>by omega) rfl ?_
  refine zq (fun h=>?_) (fun h=>?_)
  ·have hc:c.toNat < 128:=by simp only at h;omega
   have:nmS (some R0)=(acc+c.toNat * 128 ^ e,some R):=by simp only [nmS,<-hrd,rdN,if_neg hok,if_pos hc]
   rw [this,Nat.mod_eq_of_lt hc]
   exact⟨rfl,hI2,hx02⟩
  ·have hc:¬c.toNat < 128:=by simp only at h;omega
   refine jd ((e+1:Nat):Int) (by omega) (by omega) (by omega) ?_
   refine⟨⟨_,e+1,R,rfl,by omega,?_,hI2,?_,hx02⟩,by omega⟩
   ·rw [Nat.pow_succ]
    have:c.toNat % 128 * 128 ^ e<=127 * 128 ^ e:=Nat.mul_le_mul_right _ (by omega)
    omega
   ·rw [<-hrd];simp only [rdN,if_neg hok,if_neg hc]
theorem qkj (n:Nat) (w:World):(Builtin.max_ #[zbw,zbw] zbw #[.int .i64 (n:Int),.int .i64 0]).run P w=.ok (.int .i64 (n:Int)) w:=by
 rw [run_max_int2]
 congr 2
theorem qad {w:World}{H:Heap}{b:Nat}{F:List Nat}{R:List UInt8}{n:Nat}(hw:w.heap=H) (hI:InW H b F (some R)) (hn:n<=9223372036854775807) :
  qc P zf2 #[.pointer (some ⟨b,0,none⟩),.int .i64 (n:Int)] w fun e w'=>Ext [b] H w'.heap/\((R.length < n/\e=.returned (.slice none 0 0)/\InW w'.heap b F none) \/
   (n<=R.length/\∃ y,e=.returned (zbv y)/\Cells w'.heap y.1 (byteCells (R.take n))/\y.2.1=n/\(∀ c∈jf y,c∈F)/\InW w'.heap b F (some (R.drop n)))):=by
 obtain⟨x,e,h1,h2,h3,rfl,hC,hl,hcap,hlen⟩:=id hI
 refine zmb ?_
 unfold zj6
 refine zal ?_
 refine jm rfl ?_
 simp only [zy,jo]
 refine je (s:=.int .i64) (t:=0) hw h1 rfl ?_
 refine jm rfl ?_
 refine je (s:=.slc) (t:=x) hw h1 rfl ?_
 refine zq (fun h=>?_) (fun h=>?_)
 ·refine zk (ztf 20 hw hI (by omega)) ?_
  rintro e3 w3 ⟨rfl,h3,hx3⟩
  exact⟨(),rfl,hx3,.inl ⟨by omega,trivial,h3⟩⟩
 ·have hnl:n<=R.length:=by omega
  refine je (s:=.slc) (t:=x) hw h1 rfl ?_
  refine qp (s:=.slc) (if x.2.2=0 then x.1 else x.1.map (·.add (0 * 1)),n-0,x.2.2-0) (za1 uS8 sz8 .no (.yes rfl) (Nat.zero_le _) (by omega)) ?_
  refine je (s:=.slc) (t:=x) hw h1 rfl ?_
  refine qp (s:=.slc) (z2r x n) (za1 uS8 sz8 (.yes rfl) .no (by omega) hcap) ?_
  refine za9 hw h1 (by simp) fun w1 hw1=>?_
  have hx:Ext [b] H w1.heap:=by rw [hw1];exact Ext.set _ (by simp)
  have hFb:∀ c∈F,c∉[b]:=fun d hd h=>by simp at h;subst h;exact h2 hd
  have hown:∀ d∈jf (z2r x n),d∈F:=fun d hd=>h3 d (z4i d hd)
  have hy:((if x.2.2=0 then x.1 else x.1.map (·.add (0 * 1)),n-0,x.2.2-0):Option Addr×Nat×Nat).1=x.1:=by
   simp only
   split
   ·rfl
   ·cases x.1 with
    | none=>rfl
    | some a=>simp [Addr.add]
  refine⟨hx,.inr ⟨hnl,(if x.2.2=0 then x.1 else x.1.map (·.add (0 * 1)),n-0,x.2.2-0),rfl,?_,by simp,?_,⟨z2r x n,0,by rw [hw1];exact qg h1,h2,hown,rfl,?_,by simp [z2r,hl],by simp only [z2r];omega,by simp;omega⟩⟩⟩
  ·rw [hy,<-zf1]
   exact zqd (hC.take n) hx h3 hFb
  ·intro c hc
   refine h3 c ?_
   unfold jf at hc |-
   rw [hy] at hc;exact hc
  ·exact zqd (zrd hC n (by omega)) hx hown hFb
theorem z9f {w:World}{H:Heap}{b:Nat}{F:List Nat}{s:Rest}{most:Nat}(hw:w.heap=H) (hI:InW H b F s) (hm:most<=1073741824) :
  qc P zht #[.pointer (some ⟨b,0,none⟩),.int .i64 (most:Int)] w fun e w'=>e=.returned (.string (strOf (txS most s).1))/\InW w'.heap b F (txS most s).2/\Ext [b] H w'.heap:=by
 refine zue ?_
 unfold zof
 refine zk (z1s hw hI) ?_
 rintro e w1 ⟨rfl,h1,hx1⟩
 refine⟨((nmS s).1:Int),rfl,?_⟩
 refine joinP_of (fun _ W=>W=w1/\∃ R,(nmS s).2=some R) ?_ ?_
 ·refine jm rfl ?_
  obtain⟨x,e,g1,g2,g3,g4⟩:=id h1
  simp only [zy,jo]
  refine je (s:=.int .i64) (t:=e) rfl g1 rfl ?_
  cases hs:(nmS s).2 with
  | none=>
   rw [hs] at g4 h1
   have:txS most s=([],none):=by
    cases s with
    | none=>rfl
    | some R=>
     simp only [nmS] at hs
     simp only [txS,zme]
     cases h:rdNum R with
     | none=>rfl
     | some y=>rw [h] at hs;simp at hs
   rw [this]
   refine zay (fun _=>⟨rfl,h1,hx1⟩) (fun h=>absurd h g4)
  | some R=>
   rw [hs] at g4
   exact jm (by rw [g4.1];rfl) ⟨trivial,R,rfl⟩
 rintro _ W ⟨hW,R,hR⟩
 subst hW
 obtain⟨R0,rfl,hn⟩:∃ R0,s=some R0/\rdNum R0=some ((nmS s).1,R):=by
  cases s with
  | none=>simp [nmS] at hR
  | some R0=>
   refine⟨R0,rfl,?_⟩
   simp only [nmS] at hR |-
   cases h:rdNum R0 with
   | none=>rw [h] at hR;simp at hR
   | some y=>rw [h] at hR;simp at hR |-;rw [<-hR]
 rw [hR] at h1
 have hlt:=(zxi hn).2
 generalize (nmS (some R0)).1=n at hn hlt
 refine qp (s:=.int .i64) (most:Int) (qkj most W) ?_
 refine zfx (by omega) (by omega) ?_
 refine zq (fun h=>?_) (fun h=>?_)
 ·have:txS most (some R0)=([],none):=by simp only [txS,zme,hn];rw [if_pos (by omega)]
  rw [this]
  refine zk (ztf 2 rfl h1 (by omega)) ?_
  rintro e3 w3 ⟨rfl,h3,hx3⟩
  exact⟨(),rfl,rfl,h3,hx1.trans hx3⟩
 ·refine zg5 (by omega) (by omega) ?_
  refine zk (qad rfl h1 (by omega)) ?_
  rintro e3 w3 ⟨hx3,⟨hl,rfl,h3⟩ | ⟨hl,y,rfl,hC,hy,ho,h3⟩⟩
  ·refine⟨(none,0,0),rfl,?_⟩
   have:txS most (some R0)=([],none):=by simp only [txS,zme,hn];rw [if_pos (by omega)]
   rw [this]
   refine qp (s:=.str) (strOf []) (zrg uS8 u8 z14 rfl (L:=[]) (.inl rfl) rfl) ?_
   exact⟨rfl,h3,hx1.trans hx3⟩
  ·refine⟨y,rfl,?_⟩
   have:txS most (some R0)=(R.take n,some (R.drop n)):=by simp only [txS,zme,hn];rw [if_neg (by omega)]
   rw [this]
   refine qp (s:=.str) (strOf (R.take n)) (zrg uS8 u8 z14 rfl hC (by rw [hy];simp;omega)) ?_
   exact⟨rfl,h3,hx1.trans hx3⟩
theorem qhs {w:World}{H:Heap}{b:Nat}{F:List Nat}{s:Rest}(hw:w.heap=H) (hI:InW H b F s) :
  qc P zlp #[.pointer (some ⟨b,0,none⟩)] w fun e w'=>e=.returned (.bool (decide (s=some [])))/\w'=w:=by
 obtain⟨x,e,h1,h2,h3,h4⟩:=id hI
 refine zwr ?_
 unfold zqh
 refine zah rfl ?_
 simp only [zy,jo]
 refine je (s:=.int .i64) (t:=e) hw h1 rfl ?_
 cases s with
 | none=>exact zax (fun h=>absurd h h4) (fun _=>⟨by simp,trivial⟩)
 | some R=>
  refine zah (by rw [h4.1];rfl) ?_
  refine je (s:=.slc) (t:=x) hw h1 rfl ?_
  refine⟨?_,trivial⟩
  congr 2
  rw [h4.2.2.1,Bool.eq_iff_iff]
  simp
theorem bIn (x:Option Addr×Nat×Nat) (w:World):(Instr.build zkz #[(0,.slice x.1 x.2.1 x.2.2)]).run P w=.ok (.agg #[zbv x,.int .i64 0]) w:=by kernel_rfl
theorem qh0 {w:World}{H:Heap}{a:Option Addr}{n nc:Nat}{L:List UInt8}(hw:w.heap=H) (hL:Cells H a (byteCells L)) (hn:n=L.length) (hl:L.length<=1099511627776) :
  qc P zoj #[.slice a n nc] w fun e w'=>∃ b F,e=.returned (.pointer (some ⟨b,0,none⟩))/\InW w'.heap b F (some L)/\Ext [] H w'.heap/\H.size<=b/\(∀ c∈F,H.size<=c)/\b < w'.heap.size/\∀ c∈F,c < w'.heap.size:=by
 subst hn
 refine z0k ?_
 unfold ztu
 refine zch (x:=(none,0,0)) (vs:=[]) (B:=H.size) E8 (by omega) uS8 (zbf uS8) hw (.inl ⟨rfl,rfl⟩) (Nat.le_refl _) (Src.slc hw hL (by simp)) jr (by simp only;omega) ?_
 intro y w1 hm hl1 hx hs
 have hxn:Ext [] H w1.heap:=hx.mono (by simp [jf])
 refine qp (s:=.any) _ (bIn y _) ?_
 refine jv rfl fun w2 hw2=>?_
 have hx2:Ext [] w1.heap w2.heap:=by rw [hw2];exact .push _
 have hb2:w2.heap[w1.heap.size]?=some (.cells #[zbv y,.int .i64 0] zkz (0,0)):=by rw [hw2];exact zn
 have hylt:∀ c∈jf y,c < w1.heap.size:=by
  intro c hc
  rcases hm with⟨hx1,_⟩ | ⟨b',c',hx1,_,hb',_⟩
  ·simp [jf,hx1] at hc
  ·simp [jf,hx1] at hc
   subst hc
   exact lt_of_get hb'
 have hyl:y.2.1=L.length:=by have:=hm.len;simp at this;omega
 have hs1:=hxn.1
 have hs2:=hx2.1
 refine⟨w1.heap.size,jf y,rfl,⟨y,0,hb2,fun h=>by have:=hylt _ h;omega,fun c hc=>hc,rfl,?_,hyl,?_,by omega⟩,hxn.trans hx2,by omega,fun c hc=>xu hm c hc,lt_of_get hb2,fun c hc=>by have:=hylt c hc;omega⟩
 ·have:=hm.cells
  rw [List.nil_append] at this
  exact this.ext hx2 (by simp)
 ·rcases hm with⟨hx1,hv⟩ | ⟨_,_,_,_,_,_,_,h,_⟩
  ·rw [hx1];exact Nat.le_refl _
  ·exact h
theorem qgf {w:World}{H:Heap}(hw:w.heap=H){K:(Option Addr×Nat×Nat)->World->Prop}(hK:∀ w',Ext [] H w'.heap->Mine w'.heap H.size xg 1 (some ⟨H.size,0,none⟩,0,0) (byteCells [])->K (some ⟨H.size,0,none⟩,0,0) w'):zas P (Instr.buildSlice zi 0 #[]) .slc w K:=by
 refine zam (s:=.slc) (some ⟨H.size,0,none⟩,0,0) { w with heap:=H.push (.cells #[] xg) } (by rw [<-hw];kernel_rfl) ?_
 exact hK _ (.push _) (.inr ⟨H.size,#[],rfl,Nat.le_refl _,zn,rfl,rfl,Nat.le_refl _,rfl⟩)
theorem qj5 {w:World}{H:Heap}{n:Int}(c:UInt8) (hn:n=(c.toNat:Int)) (hw:w.heap=H){K:(Option Addr×Nat×Nat)->World->Prop}(hK:∀ w',Ext [] H w'.heap->Mine w'.heap H.size xg 1 (some ⟨H.size,0,none⟩,1,1) (byteCells [c])->K (some ⟨H.size,0,none⟩,1,1) w') :
  zas P (Instr.buildSlice zi 1 #[(0,(.int .u8 n))]) .slc w K:=by
 subst hn
 refine zam (s:=.slc) (some ⟨H.size,0,none⟩,1,1) { w with heap:=H.push (.cells (Value.int .u8 (c.toNat:Int)).cells xg) } (by rw [<-hw];exact zd7 E8 uS8 (v:=.int .u8 (c.toNat:Int)) rfl (by omega) (by omega)) ?_
 refine hK _ (.push _) (.inr ⟨H.size,(Value.int .u8 (c.toNat:Int)).cells,rfl,Nat.le_refl _,zn,by simp [Value.cells],by simp,Nat.le_refl _,?_⟩)
 simp [Value.cells,byteCells]
theorem qdq {w:World}{H:Heap}{B:Nat}{x:Option Addr×Nat×Nat}{a:Option Addr}{l c:Nat}{L M:List UInt8}(hw:w.heap=H) (hx:Mine H B xg 1 x (byteCells L)) (hB:B<=H.size) (hL:Cells H a (byteCells M)) (hl:l=M.length) (hlen:L.length+M.length<=1099511627776)
  {K:(Option Addr×Nat×Nat)->World->Prop}(hK:∀ x' w',Mine w'.heap B xg 1 x' (byteCells (L++M))->Ext (jf x) H w'.heap->(∀ c∈jf x',c∈jf x\/H.size<=c)->K x' w') :
  zas P (Builtin.append_ #[zi,zi] zi #[.slice x.1 x.2.1 x.2.2,.slice a l c]) .slc w K:=by
 subst hl
 have h0:x.2.1=L.length:=by have:=hx.len;simp at this;omega
 refine zch E8 (by omega) uS8 (zbf uS8) hw hx hB (Src.slc hw hL (by simp)) jr (by omega) ?_
 intro x2 w2 hO2 _ hx2 hm2
 exact hK x2 w2 (by rw [<-byteCells_append];exact hO2) hx2 hm2
theorem qix {w:World}{H:Heap}{B:Nat}{x:Option Addr×Nat×Nat}{L M:List UInt8}(hw:w.heap=H) (hx:Mine H B xg 1 x (byteCells L)) (hB:B<=H.size) (hlen:L.length+M.length<=1099511627776)
  {K:(Option Addr×Nat×Nat)->World->Prop}(hK:∀ x' w',Mine w'.heap B xg 1 x' (byteCells (L++M))->Ext (jf x) H w'.heap->(∀ c∈jf x',c∈jf x\/H.size<=c)->K x' w') :
  zas P (Builtin.append_ #[zi,vg] zi #[.slice x.1 x.2.1 x.2.2,.string (strOf M)]) .slc w K:=by
 have h0:x.2.1=L.length:=by have:=hx.len;simp at this;omega
 refine zch E8 (by omega) uS8 ⟨_,z14,by intro k h;cases h⟩ hw hx hB (n:=M.length) (us:=byteCells M) Src.str jr (by omega) ?_
 intro x2 w2 hO2 _ hx2 hm2
 exact hK x2 w2 (by rw [<-byteCells_append];exact hO2) hx2 hm2
theorem ziv {H H':Heap}{B:Nat}{x:Option Addr×Nat×Nat}{vs:List Value}{T:TypeId}{sz:Nat}{H0:Heap}(h:Ext [] H0 H) (hm:Mine H B T sz x vs) (hB:H0.size<=B) (hx:Ext (jf x) H H'):Ext [] H0 H':=
 h.own hx fun c hc hlt=>by have:=xu hm c hc;omega
theorem qec {k:Nat}{K:Int->Prop}(h:K ((k % 128:Nat):Int)):z6d (k:Int) 128 K:=zp8 k 128 rfl rfl (by omega) h
theorem qg4 {k:Nat}{K:Int->Prop}(hk:k < 128) (h:K ((k+128:Nat):Int)):zbl .u64 (k:Int) 128 K:=by
 refine⟨_,?_,h⟩
 rw [wrap_u64 (by omega) (by omega)];omega
theorem qhg {k:Nat}{K:Int->Prop}(hk:k < 18446744073709551616) (h:K ((k / 128:Nat):Int)):qfm .u64 (k:Int) 128 K:=by
 refine⟨by omega,_,?_,h⟩
 rw [Int.tdiv_eq_ediv_of_nonneg (by omega),wrap_u64 (by omega) (by omega)]
 omega
theorem qel {m:Nat}{K:Int->Prop}(hm:m < 256) (h:K ((UInt8.ofNat m).toNat:Int)):cvI .u8 (m:Int) K:=cv8 h
theorem zt9 {w:World}{H:Heap}{n:Nat}(hw:w.heap=H) (hn:n < 18446744073709551616) :
  qc P zi0 #[.int .u64 (n:Int)] w fun e w'=>∃ y,e=.returned (zbv y)/\Mine w'.heap H.size xg 1 y (byteCells (zpx n))/\Ext [] H w'.heap:=by
 have hnl:=zea hn
 refine z7h ?_
 unfold z0c
 refine jg (fun (s:Int×(Option Addr×Nat×Nat)) W=>∃ (k:Nat) (M:List UInt8),s.1=(k:Int)/\k < 18446744073709551616/\Mine W.heap H.size xg 1 s.2 (byteCells M)/\Ext [] H W.heap/\M++zpx k=zpx n) (fun s _=>s.1.toNat)
  ⟨n,[],rfl,hn,.inl ⟨rfl,rfl⟩,by rw [hw];exact .refl _ _,rfl⟩ ?_
 rintro ⟨_,x⟩ W ⟨k,M,rfl,hk,hm,hx,hM⟩
 have hMl:M.length<=10:=by have:=congrArg List.length hM;simp at this;omega
 have hs:=hx.1
 refine zq (fun h=>?_) (fun h=>?_)
 ·have hk1:127 < k:=by simp only at h;omega
  refine qec ?_
  refine qg4 (by omega) ?_
  refine qel (by omega) ?_
  refine qj5 _ rfl rfl fun w2 hx2 hm2=>?_
  refine qdq rfl (hm.ext hx2 (by simp)) (by have:=hx2.1;omega) hm2.cells rfl (by simp;omega) fun x3 w3 hm3 hx3 hs3=>?_
  refine qhg hk ?_
  refine⟨⟨k / 128,M++[UInt8.ofNat (k % 128+128)],rfl,by omega,hm3,ziv (hx.trans hx2) (hm.ext hx2 (by simp)) (Nat.le_refl _) hx3,by rw [<-hM,zps hk1];simp⟩,by simp only;omega⟩
 ·have hk1:k<=127:=by simp only at h;omega
  refine qel (by omega) ?_
  refine qj5 _ rfl rfl fun w2 hx2 hm2=>?_
  refine qdq rfl (hm.ext hx2 (by simp)) (by have:=hx2.1;omega) hm2.cells rfl (by simp;omega) fun x3 w3 hm3 hx3 hs3=>?_
  rw [show M++[UInt8.ofNat k]=zpx n by rw [<-hM,zqy hk1]] at hm3
  exact⟨x3,rfl,hm3,ziv (hx.trans hx2) (hm.ext hx2 (by simp)) (Nat.le_refl _) hx3⟩
theorem z5i {w:World}{H:Heap}(L:List UInt8) (hw:w.heap=H) (hL:L.length<=549755813888) :
  qc P zm9 #[.string (strOf L)] w fun e w'=>∃ y,e=.returned (zbv y)/\Mine w'.heap H.size xg 1 y (byteCells (zo2 L))/\Ext [] H w'.heap:=by
 refine z19 ?_
 unfold zxj
 have hnl:=zea (n:=L.length) (by omega)
 refine zfx (by omega) (by simp;omega) ?_
 refine zk (zt9 (n:=L.length) hw (by omega)) ?_
 rintro e w1 ⟨y,rfl,hm1,hx1⟩
 refine⟨y,rfl,?_⟩
 refine qix rfl hm1 (by have:=hx1.1;omega) (by omega) fun x2 w2 hm2 hx2 hs2=>?_
 exact⟨x2,rfl,hm2,ziv hx1 hm1 (Nat.le_refl _) hx2⟩
theorem zkv {H H':Heap}{M F:List Nat}{x:Option Addr×Nat×Nat}{B:List UInt8}(h:Cells H x.1 (byteCells B)) (hx:Ext M H H') (hF:B≠[]->∀ c∈jf x,c∈F) (hM:∀ c∈F,c∉M):Cells H' x.1 (byteCells B):=
 h.ext hx fun a ha hne=>hM _ (hF (fun h0=>hne (by rw [h0];rfl)) _ (by simp [jf,ha]))
def znt (H:Heap) (b:Nat) (F:List Nat) (s:Rest):Prop:=∃ (x:Option Addr×Nat×Nat) (i:Nat) (e:Int) (B:List UInt8),H[b]?=some (.cells #[zbv x,.int .i64 (i:Int),.int .i64 e] znf (0,0))/\b∉F/\(B≠[]->∀ c∈jf x,c∈F) /\
 Cells H x.1 (byteCells B)/\x.2.1=B.length/\x.2.1<=x.2.2/\B.length<=1099511627776/\i<=B.length/\(match s with | some R=>e=0/\R=B.drop i | none=>e≠0)
theorem znt.ext {H H':Heap}{b:Nat}{F M:List Nat}{s:Rest}(h:znt H b F s) (hx:Ext M H H') (hb:b∉M) (hF:∀ c∈F,c∉M):znt H' b F s:=by
 obtain⟨x,i,e,B,h1,h2,h3,h4,h5⟩:=h
 exact⟨x,i,e,B,hx.get h1 hb,h2,h3,zkv h4 hx h3 hF,h5⟩
theorem znt.lt {H:Heap}{b:Nat}{F:List Nat}{s:Rest}(h:znt H b F s):b < H.size:=by obtain⟨x,i,e,B,h1,_⟩:=h;exact lt_of_get h1
theorem qap {w:World}{H:Heap}{b:Nat}{F:List Nat}{s:Rest}(code:Int) (hw:w.heap=H) (hI:znt H b F s) (hc:code≠0) :
  qc P zcb #[.pointer (some ⟨b,0,none⟩),.int .i64 code] w fun e w'=>e=.returned (.tuple #[])/\znt w'.heap b F none/\Ext [b] H w'.heap:=by
 obtain⟨x,i,e,B,h1,h2,h3,h4,h5,h6,h7,h8,_⟩:=hI
 refine zyq ?_
 unfold zsq
 simp only [zy,jo]
 refine za9 hw h1 (by simp) fun w1 hw1=>?_
 have hx1:Ext [b] H w1.heap:=by rw [hw1];exact Ext.set _ (by simp)
 have hb1:w1.heap[b]?=some (.cells #[zbv x,.int .i64 (i:Int),.int .i64 code] znf (0,0)):=by rw [hw1];exact qg h1
 refine je (s:=.slc) (t:=x) rfl hb1 rfl ?_
 refine za9 rfl hb1 (by simp) fun w2 hw2=>?_
 have hx2:Ext [b] H w2.heap:=by rw [hw2];exact hx1.set_own (.inr (by simp))
 refine⟨trivial,⟨x,B.length,code,B,by rw [hw2,<-h5];exact qg hb1,h2,h3,zkv h4 hx2 h3 fun c hc h=>by simp at h;subst h;exact h2 hc,h5,h6,h7,Nat.le_refl _,hc⟩,hx2⟩
theorem z95 {w:World}{H:Heap}{b:Nat}{F:List Nat}{R:List UInt8}(hw:w.heap=H) (hI:znt H b F (some R)) :
  qc P zgt #[.pointer (some ⟨b,0,none⟩)] w fun e w'=>e=.returned (.int .i64 (R.length:Int))/\w'.heap=H:=by
 obtain⟨x,i,e,B,h1,h2,h3,h4,h5,h6,h7,h8,rfl,rfl⟩:=hI
 refine zv9 ?_
 unfold zpp
 refine jl hw fun w1 hw1=>?_
 simp only [zy,jo]
 refine je (s:=.slc) (t:=x) hw1 h1 rfl ?_
 refine je (s:=.int .i64) (t:=(i:Int)) hw1 h1 rfl ?_
 refine zb0 (((B.drop i).length:Nat):Int) (by simp;omega) (by omega) (by simp;omega) ?_
 exact⟨rfl,hw1⟩
theorem qj7 {W:World}{b:Nat}{F:List Nat}{c:UInt8}{R:List UInt8}{K:Int->World->Prop}(hI:znt W.heap b F (some (c :: R))) (hK:∀ w',znt w'.heap b F (some R)->Ext [b] W.heap w'.heap->K (c.toNat:Int) w') :
  za6 W fun w_4=>ld .slc (⟨b,0,none⟩:Addr) w_4 fun (t30:(Option Addr×Nat×Nat))=>ld (.int .i64) (⟨b,0+1,none⟩:Addr) w_4 fun (t34:Int)=>ixS t30.1 t30.2.1 1 t34 fun t35=>ld (.int .u8) t35 w_4 fun (t36:Int)=>
   ld (.int .i64) (⟨b,0+1,none⟩:Addr) w_4 fun (t40:Int)=>zbl .i64 t40 1 fun t41=>stC (⟨b,0+1,none⟩:Addr) (Value.int .i64 t41) w_4 fun w_5=>K t36 w_5:=by
 obtain⟨x,i,e,B,h1,h2,h3,h4,h5,h6,h7,h8,rfl,hR⟩:=hI
 have hlen:i < B.length:=by have:=congrArg List.length hR;simp at this;omega
 have hget:B.getD i 0=c:=by
  have h:=congrArg List.head? hR
  rw [List.head?_drop] at h
  simp at h
  simp [List.getD_eq_getElem?_getD,<-h]
 have hdrop:R=B.drop (i+1):=by
  have h:=congrArg List.tail hR
  simpa using h
 refine jl rfl fun w1 hw1=>?_
 refine je (s:=.slc) (t:=x) hw1 h1 rfl ?_
 refine je (s:=.int .i64) (t:=(i:Int)) hw1 h1 rfl ?_
 obtain⟨b2,o,cs,T,fr,hx1,hb2,ho,hby⟩:=h4.bytes (by intro h;rw [h] at hlen;simp at hlen)
 rw [hx1]
 refine zkt i rfl (by omega) ?_
 refine je (s:=.int .u8) (t:=(c.toNat:Int)) hw1 hb2 (by have:=hby i hlen;simp only [hget] at this;exact this) ?_
 refine je (s:=.int .i64) (t:=(i:Int)) hw1 h1 rfl ?_
 refine jd ((i+1:Nat):Int) (by omega) (by omega) (by omega) ?_
 refine za9 hw1 h1 (by simp) fun w2 hw2=>?_
 have hx:Ext [b] W.heap w2.heap:=by rw [hw2];exact Ext.set _ (by simp)
 exact hK w2 ⟨x,i+1,0,B,by rw [hw2];exact qg h1,h2,h3,zkv h4 hx h3 fun d hd h=>by simp at h;subst h;exact h2 hd,h5,h6,h7,by omega,rfl,hdrop⟩ hx
theorem qkq {W:World}{b:Nat}{F:List Nat}{R:List UInt8}{A B:World->Prop}(hI:znt W.heap b F (some R)) (hA:R=[]->∀ w',w'.heap=W.heap->A w') (hB:R≠[]->∀ w',w'.heap=W.heap->B w') :
  za6 W fun w_2=>ld (.int .i64) (⟨b,0+1,none⟩:Addr) w_2 fun (t18:Int)=>ld .slc (⟨b,0,none⟩:Addr) w_2 fun (t22:(Option Addr×Nat×Nat))=>xq (decide (t18>=(t22.2.1:Int))) (A w_2) (B w_2):=by
 obtain⟨x,i,e,B',h1,h2,h3,h4,h5,h6,h7,h8,rfl,rfl⟩:=hI
 refine jl rfl fun w1 hw1=>?_
 refine je (s:=.int .i64) (t:=(i:Int)) hw1 h1 rfl ?_
 refine je (s:=.slc) (t:=x) hw1 h1 rfl ?_
 refine zq (fun h=>hA (List.drop_eq_nil_of_le (by omega)) w1 hw1) (fun h=>hB (fun h0=>?_) w1 hw1)
 have:=congrArg List.length h0
 simp at this;omega
theorem znt.err {H:Heap}{b:Nat}{F:List Nat}{s:Rest}(h:znt H b F s):∃ (e:Int),(∀ {w:World}{K:Int->Prop},w.heap=H->K e->ld (.int .i64) (⟨b,0+2,none⟩:Addr) w K)/\(e=0 ↔ s.isSome=true):=by
 obtain⟨x,i,e,B,h1,_,_,_,_,_,_,_,h9⟩:=h
 refine⟨e,fun hw hK=>je (s:=.int .i64) (t:=e) hw h1 rfl hK,?_⟩
 cases s with
 | none=>simpa using h9
 | some R=>simp [h9.1]
theorem zzp {w:World}{H:Heap}{b:Nat}{F:List Nat}{s:Rest}(hw:w.heap=H) (hI:znt H b F s) :
  qc P zfk #[.pointer (some ⟨b,0,none⟩)] w fun e w'=>e=.returned (.int .u64 ((nmS s).1:Int))/\znt w'.heap b F (nmS s).2/\Ext [b] H w'.heap:=by
 obtain⟨ec,hld,hec⟩:=hI.err
 refine zyp ?_
 unfold zsd
 simp only [zy,jo]
 refine hld hw ?_
 cases s with
 | none=>exact zay (fun _=>⟨rfl,by rw [hw];exact hI,by rw [hw];exact .refl _ _⟩) (fun h=>by have:=hec.1 h;simp at this)
 | some R0=>
 refine jm (by rw [hec.2 rfl];rfl) ?_
 refine jg (fun (s:Int×Int) W=>∃ (acc e:Nat) (R:List UInt8),s=((acc:Int),(e:Int))/\e<=9/\acc < 128 ^ e/\znt W.heap b F (some R)/\rdN e acc R=rdNum R0/\Ext [b] H W.heap) (fun s _=>(10-s.2).toNat)
  ⟨0,0,R0,rfl,by omega,by simp,by rw [hw];exact hI,rfl,by rw [hw];exact .refl _ _⟩ ?_
 rintro _ W ⟨acc,e,R,rfl,he,hacc,hIW,hrd,hxW⟩
 refine zah (by simp;omega) ?_
 refine zal ?_
 refine qkq hIW (fun h w2 hw2=>?_) (fun h w2 hw2=>?_)
 ·subst h
  have:nmS (some R0)=(0,none):=by simp only [nmS,<-hrd,rdN]
  rw [this]
  refine zk (qap 20 hw2 hIW (by omega)) ?_
  rintro e3 w3 ⟨rfl,h3,hx3⟩
  exact⟨(),rfl,rfl,h3,hxW.trans hx3⟩
 cases R with
 | nil=>exact absurd rfl h
 | cons c R=>
 have hIW2:znt w2.heap b F (some (c :: R)):=by rw [hw2];exact hIW
 refine qj7 hIW2 fun w5 hI5 hx25=>?_
 have hx5:Ext [b] H w5.heap:=hxW.trans (by rw [<-hw2];exact hx25)
 have hc256:=c.toNat_lt
 have hbad:((e=9/\1 < c.toNat)\/(0 < e/\c.toNat=0))->qw P zcb #[(Value.pointer (some ⟨b,0,none⟩)),(Value.int .i64 21)] [] true w5 fun (_:Unit) w_3=>
   Ending.returned (Value.int .u64 0)=.returned (.int .u64 ((nmS (some R0)).1:Int))/\znt w_3.heap b F (nmS (some R0)).2/\Ext [b] H w_3.heap:=by
  intro hb
  have:nmS (some R0)=(0,none):=by simp only [nmS,<-hrd,rdN,if_pos hb]
  rw [this]
  refine zk (qap 21 rfl hI5 (by omega)) ?_
  rintro e3 w3 ⟨rfl,h3,hx3⟩
  exact⟨(),rfl,rfl,h3,hx5.trans hx3⟩
 refine joinP_of (fun _ W'=>W'=w5/\¬((e=9/\1 < c.toNat)\/(0 < e/\c.toNat=0))) ?_ ?_
 ·refine zax (fun h9=>?_) (fun h9=>?_)
  ·refine zq (fun h1=>hbad (.inl ⟨by omega,by omega⟩)) (fun h1=>?_)
   refine zq (fun hp=>?_) (fun hp=>⟨rfl,by omega⟩)
   exact zax (fun h0=>hbad (.inr ⟨by omega,by omega⟩)) (fun h0=>⟨rfl,by omega⟩)
  ·refine zq (fun hp=>?_) (fun hp=>⟨rfl,by simp only at h9 hp;omega⟩)
   exact zax (fun h0=>hbad (.inr ⟨by simp only at hp;omega,by omega⟩)) (fun h0=>⟨rfl,by simp only at h9;omega⟩)
 rintro _ W' ⟨rfl,hok⟩
 refine qec ?_
 refine zfx (by omega) (by omega) ?_
 refine zfy (7 * (e:Int)) rfl (by omega) (by omega) ?_
 refine zfx (by omega) (by omega) ?_
 refine more7 he hacc (fun h=>by omega) rfl ?_
 refine zq (fun h=>?_) (fun h=>?_)
 ·have hc:c.toNat < 128:=by omega
  have:nmS (some R0)=(acc+c.toNat * 128 ^ e,some R):=by simp only [nmS,<-hrd,rdN,if_neg hok,if_pos hc]
  rw [this,Nat.mod_eq_of_lt hc]
  exact⟨rfl,hI5,hx5⟩
 ·have hc:¬c.toNat < 128:=by omega
  refine jd ((e+1:Nat):Int) (by omega) (by omega) (by omega) ?_
  refine⟨⟨_,e+1,R,rfl,by omega,?_,hI5,?_,hx5⟩,by omega⟩
  ·rw [Nat.pow_succ]
   have:c.toNat % 128 * 128 ^ e<=127 * 128 ^ e:=Nat.mul_le_mul_right _ (by omega)
   omega
  ·rw [<-hrd];simp only [rdN,if_neg hok,if_neg hc]
theorem z9z {w:World}{H:Heap}{b:Nat}{F:List Nat}{s:Rest}{most:Nat}(hw:w.heap=H) (hI:znt H b F s) (hm:most<=1073741824) :
  qc P zij #[.pointer (some ⟨b,0,none⟩),.int .i64 (most:Int)] w fun e w'=>e=.returned (.string (strOf (txS most s).1))/\znt w'.heap b F (txS most s).2/\Ext [b] H w'.heap:=by
 refine zwh ?_
 unfold zqx
 refine zk (zzp hw hI) ?_
 rintro e w1 ⟨rfl,h1,hx1⟩
 refine⟨((nmS s).1:Int),rfl,?_⟩
 obtain⟨ec,hld,hec⟩:=h1.err
 simp only [zy,jo]
 refine hld rfl ?_
 cases hs:(nmS s).2 with
 | none=>
  rw [hs] at hec h1
  have:txS most s=([],none):=by
   cases s with
   | none=>rfl
   | some R=>
    simp only [nmS] at hs
    simp only [txS,zme]
    cases h:rdNum R with
    | none=>rfl
    | some y=>rw [h] at hs;simp at hs
  rw [this]
  exact zay (fun _=>⟨rfl,h1,hx1⟩) (fun h=>by have:=hec.1 h;simp at this)
 | some R=>
 rw [hs] at hec
 refine jm (by rw [hec.2 rfl];rfl) ?_
 obtain⟨R0,rfl,hn⟩:∃ R0,s=some R0/\rdNum R0=some ((nmS s).1,R):=by
  cases s with
  | none=>simp [nmS] at hs
  | some R0=>
   refine⟨R0,rfl,?_⟩
   simp only [nmS] at hs |-
   cases h:rdNum R0 with
   | none=>rw [h] at hs;simp at hs
   | some y=>rw [h] at hs;simp at hs |-;rw [<-hs]
 rw [hs] at h1
 have hlt:=(zxi hn).2
 generalize (nmS (some R0)).1=n at hn hlt
 refine joinP_of (fun _ W=>W=w1/\n<=most) ?_ ?_
 ·refine jm (by simp) ?_
  refine zah (by simp) ?_
  refine zfx (by omega) (by omega) ?_
  refine zq (fun h=>?_) (fun h=>⟨rfl,by omega⟩)
  have:txS most (some R0)=([],none):=by simp only [txS,zme,hn];rw [if_pos (by omega)]
  rw [this]
  refine zk (qap 2 rfl h1 (by omega)) ?_
  rintro e3 w3 ⟨rfl,h3,hx3⟩
  exact⟨(),rfl,rfl,h3,hx1.trans hx3⟩
 rintro _ W ⟨hW,hnm⟩
 subst hW
 refine zk (z95 rfl h1) ?_
 rintro e w6 ⟨rfl,hw6⟩
 refine⟨(R.length:Int),rfl,?_⟩
 have h6:znt w6.heap b F (some R):=by rw [hw6];exact h1
 have hx6:Ext [b] H w6.heap:=by rw [hw6];exact hx1
 obtain⟨x,i,e,B,g1,g2,g3,g4,g5,g6,g7,g8,rfl,rfl⟩:=id h6
 have hRl:(B.drop i).length=B.length-i:=by simp
 refine zfx (by omega) (by omega) ?_
 refine zq (fun h=>?_) (fun h=>?_)
 ·have:txS most (some R0)=([],none):=by simp only [txS,zme,hn];rw [if_pos (by omega)]
  rw [this]
  refine zk (qap 20 rfl h6 (by omega)) ?_
  rintro e3 w3 ⟨rfl,h3,hx3⟩
  exact⟨(),rfl,rfl,h3,hx6.trans hx3⟩
 ·have hnl:n<=B.length-i:=by omega
  have:txS most (some R0)=((B.drop i).take n,some ((B.drop i).drop n)):=by simp only [txS,zme,hn];rw [if_neg (by omega)]
  rw [this]
  refine jl rfl fun w8 hw8=>?_
  refine zg5 (by omega) (by omega) ?_
  refine je (s:=.slc) (t:=x) hw8 g1 rfl ?_
  refine je (s:=.int .i64) (t:=(i:Int)) hw8 g1 rfl ?_
  refine je (s:=.int .i64) (t:=(i:Int)) hw8 g1 rfl ?_
  refine jd ((i+n:Nat):Int) (by omega) (by omega) (by omega) ?_
  have hc:=(zrd g4 i (by omega)).take n
  rw [zf1] at hc
  have hrun:=za1 (P:=P) (w:=w8) (a:=x.1) (len:=x.2.1) (cap:=x.2.2) (l:=i) (h:=i+n) uS8 sz8 (.yes (k:=.i64) (i:=(i:Int)) rfl) (.yes (k:=.i64) (i:=((i+n:Nat):Int)) rfl) (by omega) (by omega)
  obtain⟨y,hy⟩:∃ y:Option Addr×Nat×Nat,y=(if x.2.2=i then x.1 else x.1.map (·.add (i * 1)),(i+n)-i,x.2.2-i):=⟨_,rfl⟩
  have hy1:y.1=(z2r x i).1:=by rw [hy];rfl
  have hy2:y.2.1=((B.drop i).take n).length:=by rw [hy];simp;omega
  refine qp (s:=.slc) y (by rw [hy];exact hrun) ?_
  refine qp (s:=.str) _ (zrg uS8 u8 z14 hw8 (by rw [hy1];exact hc) hy2) ?_
  refine je (s:=.int .i64) (t:=(i:Int)) hw8 g1 rfl ?_
  refine zg5 (by omega) (by omega) ?_
  refine jd ((i+n:Nat):Int) (by omega) (by omega) (by omega) ?_
  refine za9 hw8 g1 (by simp) fun w9 hw9=>?_
  have hx:Ext [b] w6.heap w9.heap:=by rw [hw9];exact Ext.set _ (by simp)
  refine⟨rfl,⟨x,i+n,0,B,by rw [hw9];exact qg g1,g2,g3,zkv g4 hx g3 fun d hd h=>by simp at h;subst h;exact g2 hd,g5,g6,g7,by omega,rfl,by rw [List.drop_drop]⟩,hx6.trans hx⟩
end Go.Proofs.YtbmegmbnlajbbaaGreatDoor
namespace Go.Fw.Sha
open Go.Fw
def rotr (x:BitVec 32) (n:Nat):BitVec 32:=x >>> n ||| x <<< (32-n)
def kc:List Nat:=[1116352408,1899447441,3049323471,3921009573,961987163,1508970993,2453635748,2870763221,3624381080,310598401,607225278,1426881987,1925078388,2162078206,2614888103,3248222580,3835390401,4022224774,264347078,604807628,770255983,1249150122,1555081692,1996064986,2554220882,2821834349,2952996808,3210313671,3336571891,3584528711,113926993,338241895,666307205,773529912,1294757372,1396182291,1695183700,1986661051,2177026350,2456956037,2730485921,2820302411,3259730800,3345764771,3516065817,3600352804,4094571909,275423344,430227734,506948616,659060556,883997877,958139571,1322822218,1537002063,1747873779,1955562222,2024104815,2227730452,2361852424,2428436474,2756734187,3204031479,3329325298]
def K (t:Nat):BitVec 32:=BitVec.ofNat 32 (kc.getD t 0)
def ic:List Nat:=[1779033703,3144134277,1013904242,2773480762,1359893119,2600822924,528734635,1541459225]
def init (t:Nat):BitVec 32:=BitVec.ofNat 32 (ic.getD t 0)
def W (m:Nat->BitVec 32) (t:Nat):BitVec 32:=
 if t < 16 then m t
 else (rotr (W m (t-2)) 17 ^^^ rotr (W m (t-2)) 19 ^^^ W m (t-2) >>> 10)+W m (t-7)+(rotr (W m (t-15)) 7 ^^^ rotr (W m (t-15)) 18 ^^^ W m (t-15) >>> 3)+W m (t-16)
termination_by t
def one (s:Nat->BitVec 32) (k w:BitVec 32):BitVec 32:=
 s 7+(rotr (s 4) 6 ^^^ rotr (s 4) 11 ^^^ rotr (s 4) 25)+(s 4 &&& s 5 ^^^ ~~~ s 4 &&& s 6)+k+w
def two (s:Nat->BitVec 32):BitVec 32:=
 (rotr (s 0) 2 ^^^ rotr (s 0) 13 ^^^ rotr (s 0) 22)+(s 0 &&& s 1 ^^^ s 0 &&& s 2 ^^^ s 1 &&& s 2)
def step (s:Nat->BitVec 32) (k w:BitVec 32):Nat->BitVec 32
 | 0=>one s k w+two s
 | 4=>s 3+one s k w
 | i+1=>s i
def rnd (w s:Nat->BitVec 32):Nat->Nat->BitVec 32
 | 0=>s
 | t+1=>step (rnd w s t) (K t) (w t)
def comp (s m:Nat->BitVec 32):Nat->BitVec 32:=fun i=>s i+rnd (W m) s 64 i
def word (f:Nat->UInt8) (t:Nat):BitVec 32:=b32 (f (4 * t)) <<< 24 ||| b32 (f (4 * t+1)) <<< 16 ||| b32 (f (4 * t+2)) <<< 8 ||| b32 (f (4 * t+3))
def nth (l:List UInt8) (i:Nat):UInt8:=l.getD i 0
def blocks (l:List UInt8):Nat->Nat->BitVec 32
 | 0=>init
 | n+1=>comp (blocks l n) (word fun j=>nth l (64 * n+j))
def be8 (n:Nat):List UInt8:=(List.range 8).map fun i=>UInt8.ofNat (n / 2 ^ (56-8 * i))
def pad (l:List UInt8):List UInt8:=l++[128]++List.replicate ((119-l.length % 64) % 64) 0++be8 (l.length * 8)
def out (s:Nat->BitVec 32) (i:Nat):UInt8:=lo8 (s (i / 4) >>> (24-8 * (i % 4)))
def sum (l:List UInt8):List UInt8:=(List.range 32).map (out (blocks (pad l) ((pad l).length / 64)))
theorem W_lt {m:Nat->BitVec 32}{t:Nat}(h:t < 16):W m t=m t:=by rw [W,if_pos h]
theorem W_ge {m:Nat->BitVec 32}{t:Nat}(h:16<=t):W m t=(rotr (W m (t-2)) 17 ^^^ rotr (W m (t-2)) 19 ^^^ W m (t-2) >>> 10)+W m (t-7)+(rotr (W m (t-15)) 7 ^^^ rotr (W m (t-15)) 18 ^^^ W m (t-15) >>> 3)+W m (t-16):=by
 rw [W,if_neg (by omega)]
theorem W_congr {m m':Nat->BitVec 32}(h:∀ t,t < 16->m t=m' t) (t:Nat):W m t=W m' t:=by
 induction t using Nat.strongRecOn with
 | _ t ih=>
  by_cases ht:t < 16
  ·rw [W_lt ht,W_lt ht,h t ht]
  ·rw [W_ge (m:=m) (t:=t) (by omega),W_ge (m:=m') (t:=t) (by omega),ih (t-2) (by omega),ih (t-7) (by omega),ih (t-15) (by omega),ih (t-16) (by omega)]
end Go.Fw.Sha
namespace Go.Proofs.YtbmegmbnlajbbaaGreatDoor.Bl
open Go Go.Fw Go.Proofs
theorem zog (x:BitVec 32) (n:Nat){i:Int}(hi:i=(n:Int)) (h0:0 < n) (hn:n < 32) (w:World):qc P zds #[.int .u32 (x.toNat:Int),.int .u64 i] w fun e w'=>e=.returned (.int .u32 ((Sha.rotr x n).toNat:Int))/\w'=w:=by
 subst hi
 refine z3w ?_
 unfold zxw
 refine qbo _ n rfl (by omega) ?_
 refine⟨((32-n:Nat):Int),?_,?_⟩
 ·rw [wrap_u64] <;> omega
 refine qgk _ (32-n) rfl (by omega) ?_
 refine orW _ _ ?_
 exact⟨rfl,rfl⟩
theorem zwq (x:BitVec 32) (n:Nat){i:Int}(hi:i=-(n:Int)) (h0:0 < n) (hn:n < 32) (w:World):qc P vw #[.int .u32 (x.toNat:Int),.int .i64 i] w fun e w'=>e=.returned (.int .u32 ((Sha.rotr x n).toNat:Int))/\w'=w:=by
 subst hi
 refine zkb ?_
 unfold zgk
 refine⟨((18446744073709551616-n:Nat):Int),?_,?_⟩
 ·simp only [IntKind.wrap,IntKind.bits,IntKind.signed]
  have e:(2:Int) ^ 64=18446744073709551616:=by decide
  simp only [e,Bool.false_and,Bool.false_eq_true,if_false]
  omega
 refine⟨((32-n:Nat):Int),?_,?_⟩
 ·have this:(BitVec.ofInt IntKind.u64.bits ((18446744073709551616-n:Nat):Int) &&& BitVec.ofInt IntKind.u64.bits 31).toNat=32-n:=by
   change (BitVec.ofNat 64 (18446744073709551616-n) &&& BitVec.ofNat 64 31).toNat=32-n
   rw [BitVec.toNat_and,BitVec.toNat_ofNat,BitVec.toNat_ofNat]
   have e31:31 % 2 ^ 64=2 ^ 5-1:=by decide
   have e1:(18446744073709551616-n) % 2 ^ 64=18446744073709551616-n:=Nat.mod_eq_of_lt (by omega)
   rw [e31,Nat.and_two_pow_sub_one_eq_mod,e1]
   omega
  rw [this,wrap_u64] <;> omega
 refine qgk _ (32-n) rfl (by omega) ?_
 refine⟨((n:Nat):Int),?_,?_⟩
 ·rw [wrap_u64] <;> omega
 refine qbo _ n rfl (by omega) ?_
 refine orW _ _ ?_
 refine⟨?_,rfl⟩
 unfold Sha.rotr
 rw [BitVec.or_comm]
theorem qic:zc P zaq=(List.replicate 64 (Value.int .u32 0)).toArray:=by kernel_rfl
theorem qgc:zc P zab=(List.replicate 8 (Value.int .u32 0)).toArray:=by kernel_rfl
theorem z5h:P.cellsOf zab=8:=by kernel_rfl
theorem qf1 (a b c d e f g h:Int) (w:World):(Instr.build zab #[(0,.int .u32 a),(1,.int .u32 b),(2,.int .u32 c),(3,.int .u32 d),(4,.int .u32 e),(5,.int .u32 f),(6,.int .u32 g),(7,.int .u32 h)]).run P w =
  .ok (.agg #[.int .u32 a,.int .u32 b,.int .u32 c,.int .u32 d,.int .u32 e,.int .u32 f,.int .u32 g,.int .u32 h]) w:=by kernel_rfl
set_option maxHeartbeats 4000000 in
theorem qip {w:World}{H:Heap}{hp bb off l lc:Nat}{c cb rc:Array Value}{Tb rT:TypeId}{frb rfr:Nat×Nat}{s:Nat->BitVec 32}{f:Nat->UInt8}(hw:w.heap=H)
  (hH:H[hp]?=some (.cells c za5 (0,0))) (hsz:c.size=74) (hS:Words c 0 s 8) (hB:H[bb]?=some (.cells cb Tb frb)) (hb:Bytes cb off f 64) (hl:64<=l)
  (hR:H[0]?=some (.cells rc rT rfr)) (hr:Words rc 0 Sha.K 64) (h0:hp≠0) :
  qc P zj5 #[.pointer (some ⟨hp,0,none⟩),.slice (some ⟨bb,off,none⟩) l lc] w fun e w'=>e=.returned (.tuple #[])/\Ext [hp] H w'.heap /\
   ∃ c',w'.heap[hp]?=some (.cells c' za5 (0,0))/\c'.size=74/\Words c' 0 (Sha.comp s (Sha.word f)) 8/\∀ i,8<=i->c'[i]?=c[i]?:=by
 refine zuk ?_
 unfold zoe
 refine jv hw fun w1 hw1=>?_
 refine jg (fun s w=>∃ (t:Nat) (H':Heap) (c4:Array Value),s=(t:Int)/\t<=16/\w.heap=H'/\Ext [] H H'/\H'[H.size]?=some (.cells c4 zaq (0,0))/\c4.size=64/\Words c4 0 (Sha.W (Sha.word f)) t)
  (fun s _=>(16-s).toNat) ⟨0,_,_,rfl,by omega,hw1,.push _,zn,by rw [qic];rfl,fun i hi=>by omega⟩ ?_
 rintro _ w2 ⟨t,H2,c4,rfl,ht,hw2,hx2,hc4,hs4,hW⟩
 refine zq (fun hlt=>?_) (fun hge=>?_)
 ·have hlt:t < 16:=by omega
  refine jl hw2 fun w3 hw3=>?_
  have hB2:=hx2.get hB (by simp)
  refine zfy ((4 * t:Nat):Int) (by omega) (by omega) (by omega) ?_
  refine zkt (4 * t) rfl (by omega) ?_
  refine zfy ((4 * t:Nat):Int) (by omega) (by omega) (by omega) ?_
  refine jd ((4 * t+1:Nat):Int) (by omega) (by omega) (by omega) ?_
  refine zkt (4 * t+1) rfl (by omega) ?_
  refine zfy ((4 * t:Nat):Int) (by omega) (by omega) (by omega) ?_
  refine jd ((4 * t+2:Nat):Int) (by omega) (by omega) (by omega) ?_
  refine zkt (4 * t+2) rfl (by omega) ?_
  refine zfy ((4 * t:Nat):Int) (by omega) (by omega) (by omega) ?_
  refine jd ((4 * t+3:Nat):Int) (by omega) (by omega) (by omega) ?_
  refine zkt (4 * t+3) rfl (by omega) ?_
  refine je hw3 hB2 (hb (4 * t) (by omega)) ?_
  refine cvB ?_
  refine qgk _ 24 rfl (by omega) ?_
  refine je hw3 hB2 (hb (4 * t+1) (by omega)) ?_
  refine cvB ?_
  refine qgk _ 16 rfl (by omega) ?_
  refine orW _ _ ?_
  refine je hw3 hB2 (hb (4 * t+2) (by omega)) ?_
  refine cvB ?_
  refine qgk _ 8 rfl (by omega) ?_
  refine orW _ _ ?_
  refine je hw3 hB2 (hb (4 * t+3) (by omega)) ?_
  refine cvB ?_
  refine orW _ _ ?_
  refine zen t rfl (by omega) ?_
  refine za9 hw3 hc4 (by omega) fun w4 hw4=>?_
  refine jd ((t+1:Nat):Int) (by omega) (by omega) (by omega) ?_
  refine⟨⟨t+1,_,_,rfl,by omega,hw4,hx2.set_own (.inl (Nat.le_refl _)),qg hc4,by simpa using hs4,?_⟩,by omega⟩
  exact hW.snoc (by omega) (by rw [Sha.W_lt hlt];rfl)
 have ht16:t=16:=by omega
 subst ht16
 clear hge ht
 refine jg (fun s w=>∃ (t:Nat) (H':Heap) (c4:Array Value),s=(t:Int)/\16<=t/\t<=64/\w.heap=H'/\Ext [] H H'/\H'[H.size]?=some (.cells c4 zaq (0,0))/\c4.size=64/\Words c4 0 (Sha.W (Sha.word f)) t)
  (fun s _=>(64-s).toNat) ⟨16,_,_,rfl,by omega,by omega,hw2,hx2,hc4,hs4,hW⟩ ?_
 clear hw2 hx2 hc4 hs4 hW
 rintro _ w2 ⟨t,H2,c4,rfl,ht,ht',hw2,hx2,hc4,hs4,hW⟩
 refine zq (fun hlt=>?_) (fun hge=>?_)
 ·have hlt:t < 64:=by omega
  refine jl hw2 fun w3 hw3=>?_
  refine zb0 ((t-2:Nat):Int) (by omega) (by omega) (by omega) ?_
  refine zen (t-2) rfl (by omega) ?_
  refine zb0 ((t-15:Nat):Int) (by omega) (by omega) (by omega) ?_
  refine zen (t-15) rfl (by omega) ?_
  refine je hw3 hc4 (hW.at (t-2) (by omega)) ?_
  refine je hw3 hc4 (hW.at (t-15) (by omega)) ?_
  refine zbs (l:=[.int .u32]) _ (zwq _ 17 rfl (by omega) (by omega) _) ?_
  refine zbs (l:=[.int .u32]) _ (zwq _ 19 rfl (by omega) (by omega) _) ?_
  refine zv4 _ _ ?_
  refine qbo _ 10 rfl (by omega) ?_
  refine zv4 _ _ ?_
  refine zbs (l:=[.int .u32]) _ (zwq _ 7 rfl (by omega) (by omega) _) ?_
  refine zbs (l:=[.int .u32]) _ (zwq _ 18 rfl (by omega) (by omega) _) ?_
  refine zv4 _ _ ?_
  refine qbo _ 3 rfl (by omega) ?_
  refine zv4 _ _ ?_
  refine jl hw3 fun w4 hw4=>?_
  refine zb0 ((t-7:Nat):Int) (by omega) (by omega) (by omega) ?_
  refine zen (t-7) rfl (by omega) ?_
  refine zb0 ((t-16:Nat):Int) (by omega) (by omega) (by omega) ?_
  refine zen (t-16) rfl (by omega) ?_
  refine je hw4 hc4 (hW.at (t-7) (by omega)) ?_
  refine zv7 _ _ ?_
  refine zv7 _ _ ?_
  refine je hw4 hc4 (hW.at (t-16) (by omega)) ?_
  refine zv7 _ _ ?_
  refine zen t rfl (by omega) ?_
  refine za9 hw4 hc4 (by omega) fun w5 hw5=>?_
  refine jd ((t+1:Nat):Int) (by omega) (by omega) (by omega) ?_
  refine⟨⟨t+1,_,_,rfl,by omega,by omega,hw5,hx2.set_own (.inl (Nat.le_refl _)),qg hc4,by simpa using hs4,?_⟩,by omega⟩
  exact hW.snoc (by omega) (by rw [Sha.W_ge ht])
 have ht64:t=64:=by omega
 subst ht64
 clear hge ht ht'
 have hH2:=hx2.get hH (by simp)
 have hR2:=hx2.get hR (by simp)
 have hlt:=lt_of_get hH2
 simp only [zy]
 refine zf9 hw2 hH2 (by omega) ?_
 rw [hS.extract (by omega)]
 refine jv hw2 fun w3 hw3=>?_
 refine zaz (z5h.trans (by simp [Value.cells])) (by simp [Value.cells]) zvf hw3 zn (by rw [qgc];simp [Value.cells]) fun w4 hw4=>?_
 rw [show setCells (zc P zab) 0 (Value.cells (.agg (W32 s 8))).toList=W32 s 8 from by rw [zan (by rw [qgc];simp [Value.cells])];simp [Value.cells]] at hw4
 have hb4:H.size < H2.size:=lt_of_get hc4
 refine jg (fun s' w=>∃ (t:Nat) (H':Heap) (c8:Array Value),s'=(t:Int)/\t<=64/\w.heap=H'/\Ext [] H2 H'/\H'[H2.size]?=some (.cells c8 zab (0,0))/\c8.size=8/\Words c8 0 (Sha.rnd (Sha.W (Sha.word f)) s t) 8)
  (fun s _=>(64-s).toNat) ⟨0,_,_,rfl,by omega,hw4,(Ext.push _).set_own (.inl (Nat.le_refl _)),qg zn,by simp,zkx⟩ ?_
 rintro _ w5 ⟨t,H5,c8,rfl,ht,hw5,hx5,hc8,hs8,hV⟩
 refine zq (fun hlt=>?_) (fun hge=>?_)
 ·have hlt:t < 64:=by omega
  have hc4':=hx5.get hc4 (by simp)
  have hR':=hx5.get hR2 (by simp)
  refine jl hw5 fun w6 hw6=>?_
  refine je hw6 hc8 (hV.at 4 (by omega)) ?_
  refine zbs (l:=[.int .u32]) _ (zwq _ 6 rfl (by omega) (by omega) _) ?_
  refine je hw6 hc8 (hV.at 4 (by omega)) ?_
  refine zbs (l:=[.int .u32]) _ (zwq _ 11 rfl (by omega) (by omega) _) ?_
  refine zv4 _ _ ?_
  refine je hw6 hc8 (hV.at 4 (by omega)) ?_
  refine zbs (l:=[.int .u32]) _ (zwq _ 25 rfl (by omega) (by omega) _) ?_
  refine zv4 _ _ ?_
  refine jl hw6 fun w7 hw7=>?_
  refine zen t rfl (by omega) ?_
  refine zen t rfl (by omega) ?_
  refine je hw7 hc8 (hV.at 7 (by omega)) ?_
  refine zv7 _ _ ?_
  refine je hw7 hc8 (hV.at 4 (by omega)) ?_
  refine je hw7 hc8 (hV.at 5 (by omega)) ?_
  refine qbm _ _ ?_
  refine je hw7 hc8 (hV.at 4 (by omega)) ?_
  refine z4j _ ?_
  refine je hw7 hc8 (hV.at 6 (by omega)) ?_
  refine qbm _ _ ?_
  refine zv4 _ _ ?_
  refine zv7 _ _ ?_
  refine je hw7 hR' (hr.at t (by omega)) ?_
  refine zv7 _ _ ?_
  refine je hw7 hc4' (hW.at t (by omega)) ?_
  refine zv7 _ _ ?_
  refine jl hw7 fun w8 hw8=>?_
  refine je hw8 hc8 (hV.at 0 (by omega)) ?_
  refine zbs (l:=[.int .u32]) _ (zwq _ 2 rfl (by omega) (by omega) _) ?_
  refine je hw8 hc8 (hV.at 0 (by omega)) ?_
  refine zbs (l:=[.int .u32]) _ (zwq _ 13 rfl (by omega) (by omega) _) ?_
  refine zv4 _ _ ?_
  refine je hw8 hc8 (hV.at 0 (by omega)) ?_
  refine zbs (l:=[.int .u32]) _ (zwq _ 22 rfl (by omega) (by omega) _) ?_
  refine zv4 _ _ ?_
  refine je hw8 hc8 (hV.at 0 (by omega)) ?_
  refine je hw8 hc8 (hV.at 1 (by omega)) ?_
  refine qbm _ _ ?_
  refine je hw8 hc8 (hV.at 0 (by omega)) ?_
  refine je hw8 hc8 (hV.at 2 (by omega)) ?_
  refine qbm _ _ ?_
  refine zv4 _ _ ?_
  refine je hw8 hc8 (hV.at 1 (by omega)) ?_
  refine je hw8 hc8 (hV.at 2 (by omega)) ?_
  refine qbm _ _ ?_
  refine zv4 _ _ ?_
  refine zv7 _ _ ?_
  refine zv7 _ _ ?_
  refine je hw8 hc8 (hV.at 0 (by omega)) ?_
  refine je hw8 hc8 (hV.at 1 (by omega)) ?_
  refine je hw8 hc8 (hV.at 2 (by omega)) ?_
  refine je hw8 hc8 (hV.at 3 (by omega)) ?_
  refine zv7 _ _ ?_
  refine je hw8 hc8 (hV.at 4 (by omega)) ?_
  refine je hw8 hc8 (hV.at 5 (by omega)) ?_
  refine je hw8 hc8 (hV.at 6 (by omega)) ?_
  refine qp _ (qf1 _ _ _ _ _ _ _ _ _) ?_
  refine zaz (z5h.trans rfl) (by simp [Value.cells]) (by intro v hv;simp [Value.cells] at hv;rcases hv with h | h | h | h | h | h | h | h <;> subst h <;> rfl) hw8 hc8 (by simp [Value.cells];omega) fun w9 hw9=>?_
  refine jd ((t+1:Nat):Int) (by omega) (by omega) (by omega) ?_
  refine⟨⟨t+1,_,_,rfl,by omega,hw9,hx5.set_own (.inl (Nat.le_refl _)),qg hc8,by simpa using hs8,?_⟩,by omega⟩
  rw [zan (by simp [Value.cells];omega)]
  intro i hi
  match i,hi with
  | 0,_=>rfl
  | 1,_=>rfl
  | 2,_=>rfl
  | 3,_=>rfl
  | 4,_=>rfl
  | 5,_=>rfl
  | 6,_=>rfl
  | 7,_=>rfl
 have ht64:t=64:=by omega
 subst ht64
 clear hge ht
 have hx52:Ext [] H H5:=hx2.trans hx5
 have hH5:=hx52.get hH (by simp)
 have hne:hp≠H2.size:=by have:=lt_of_get hH;omega
 refine jg (fun s' w=>∃ (t:Nat) (H':Heap) (c':Array Value),s'=(t:Int)/\t<=8/\w.heap=H'/\Ext [hp] H H'/\H'[hp]?=some (.cells c' za5 (0,0))/\c'.size=74/\H'[H2.size]?=some (.cells c8 zab (0,0)) /\
   Words c' 0 (Sha.comp s (Sha.word f)) t/\(∀ i,t<=i->c'[i]?=c[i]?))
  (fun s _=>(8-s).toNat) ⟨0,_,_,rfl,by omega,hw5,hx52.mono (by simp),hH5,hsz,hc8,fun i hi=>by omega,fun i _=>rfl⟩ ?_
 rintro _ w6 ⟨t,H6,c',rfl,ht,hw6,hx6,hH6,hsz6,hc86,hV6,hold⟩
 refine zq (fun hlt=>?_) (fun hge=>?_)
 ·have hlt:t < 8:=by omega
  refine jl hw6 fun w7 hw7=>?_
  refine zen t rfl (by omega) ?_
  refine zen t rfl (by omega) ?_
  refine je hw7 hH6 ((hold t (Nat.le_refl _)).trans (hS.at t (by omega))) ?_
  refine je hw7 hc86 (hV.at t (by omega)) ?_
  refine zv7 _ _ ?_
  refine zen t rfl (by omega) ?_
  refine za9 hw7 hH6 (by omega) fun w8 hw8=>?_
  refine jd ((t+1:Nat):Int) (by omega) (by omega) (by omega) ?_
  refine⟨⟨t+1,_,_,rfl,by omega,hw8,hx6.set_own (.inr (by simp)),qg hH6,by simpa using hsz6,zfw hc86 (Ne.symm hne),hV6.snoc (by omega) rfl,?_⟩,by omega⟩
  intro i hi
  rw [Array.getElem?_setIfInBounds_ne (by omega)]
  exact hold i (by omega)
 have ht8:t=8:=by omega
 subst ht8
 exact⟨trivial,by rw [hw6];exact hx6,c',by rw [hw6];exact hH6,hsz6,hV6,hold⟩
theorem zgp {D E:List UInt8}{i:Nat}(h:i < D.length):Sha.nth (D++E) i=Sha.nth D i:=by
 simp [Sha.nth,List.getD_eq_getElem?_getD,List.getElem?_append_left h]
theorem zym {D E:List UInt8}{i:Nat}(h:D.length<=i):Sha.nth (D++E) i=Sha.nth E (i-D.length):=by
 simp [Sha.nth,List.getD_eq_getElem?_getD,List.getElem?_append_right h]
theorem zk7 {D E:List UInt8}:∀ n,64 * n<=D.length->Sha.blocks (D++E) n=Sha.blocks D n
 | 0,_=>rfl
 | n+1,h=>by
  simp only [Sha.blocks]
  rw [zk7 n (by omega)]
  have:∀ t,t < 16->Sha.word (fun j=>Sha.nth (D++E) (64 * n+j)) t=Sha.word (fun j=>Sha.nth D (64 * n+j)) t:=by
   intro t ht
   simp only [Sha.word]
   rw [zgp (by omega),zgp (by omega),zgp (by omega),zgp (by omega)]
  unfold Sha.comp
  rw [funext (Sha.W_congr this)]
def zwc (H:Heap) (p:Nat) (D:List UInt8) (n:Nat):Prop:=
 ∃ c,H[p]?=some (.cells c za5 (0,0))/\c.size=74/\Words c 0 (Sha.blocks D (D.length / 64)) 8/\Bytes c 8 (fun i=>Sha.nth D (64 * (D.length / 64)+i)) (D.length % 64) /\
  c[72]?=some (.int .i64 ((D.length % 64:Nat):Int))/\c[73]?=some (.int .i64 (n:Int))/\zmw c
def Rounds (H:Heap):Prop:=∃ rc rT rfr,H[0]?=some (.cells rc rT rfr)/\Words rc 0 Sha.K 64
theorem Rounds.ext {M:List Nat}{H H':Heap}(h:Rounds H) (hx:Ext M H H') (h0:0∉M):Rounds H':=by
 obtain⟨rc,rT,rfr,h1,h2⟩:=h
 exact⟨rc,rT,rfr,hx.get h1 h0,h2⟩
theorem zwc.ext {M:List Nat}{H H':Heap}{p:Nat}{D:List UInt8}{n:Nat}(h:zwc H p D n) (hx:Ext M H H') (h0:p∉M):zwc H' p D n:=by
 obtain⟨c,h1,h2⟩:=h
 exact⟨c,hx.get h1 h0,h2⟩
theorem u89:P.underlying zr3=some (.array 64 xg):=by kernel_rfl
theorem u22:P.underlying zi=some (.slice xg):=by kernel_rfl
theorem i5:(P.info? xg).map (·.size)=some 1:=by kernel_rfl
set_option maxHeartbeats 4000000 in
theorem zyx {w:World}{H:Heap}{p l lc:Nat}{a:Option Addr}{D L:List UInt8}(hw:w.heap=H) (hD:zwc H p D D.length) (hL:Cells H a (byteCells L)) (hl:l=L.length) (hc:l<=lc)
  (hne:L≠[]->∀ x,a=some x->x.block≠p) (hR:Rounds H) (h0:p≠0) (hlen:D.length+L.length < 4611686018427387904) :
  qc P zdq #[.pointer (some ⟨p,0,none⟩),.slice a l lc] w fun e w'=>e=.returned (.tuple #[])/\Ext [p] H w'.heap/\zwc w'.heap p (D++L) (D++L).length:=by
 subst hl
 refine zrl ?_
 unfold zly
 refine jm rfl ?_
 simp only [zy,jo,Nat.zero_add]
 obtain⟨c,hp,hsz,hS,hB,h72,h73,ha1⟩:=hD
 refine je hw hp h73 ?_
 refine jd ((D.length+L.length:Nat):Int) (by omega) (by omega) (by omega) ?_
 refine za9 hw hp (by omega) fun w1 hw1=>?_
 refine jg (fun s w=>∃ (k:Nat) (H':Heap),k<=L.length/\s.2.1=L.length-k/\s.2.1<=s.2.2/\Cells H' s.1 (byteCells (L.drop k))/\(L≠[]->∀ x,s.1=some x->x.block≠p)/\w.heap=H'/\Ext [p] H H' /\
   zwc H' p (D++L.take k) (D.length+L.length)) (fun s _=>s.2.1) ?_ ?_
 ·refine⟨0,_,by omega,by simp,hc,?_,hne,hw1,Ext.set _ (by simp),_,qg hp,by simpa using hsz,?_,?_,?_,?_,ha1.set rfl⟩
  ·exact hL.ext (Ext.set (M:=[p]) _ (by simp)) (fun x hx hv=>by simpa using hne (by rintro rfl;exact hv rfl) x hx)
  ·simp only [List.take_zero,List.append_nil]
   intro i hi
   rw [Array.getElem?_setIfInBounds_ne (by omega)]
   exact hS i hi
  ·simp only [List.take_zero,List.append_nil]
   intro i hi
   rw [Array.getElem?_setIfInBounds_ne (by omega)]
   exact hB i hi
  ·simp only [List.take_zero,List.append_nil]
   rw [Array.getElem?_setIfInBounds_ne (by omega)]
   exact h72
  ·simp [hsz]
 clear hw1 hp hsz hS hB h72 h73 hL ha1
 rintro ⟨sa,sl,sc⟩ w2 ⟨k,H2,hk,hsl,hsc,hC,hnb,hw2,hx,c2,hp2,hsz2,hS2,hB2,h72,h73,ha2⟩
 simp only at hsl hsc hC hnb
 have hEl:(D++L.take k).length=D.length+k:=by simp;omega
 refine zq (fun hgt=>?_) (fun hle=>?_)
 ·have hlt:k < L.length:=by simp only at hgt;omega
  have hnb:=hnb (by rintro rfl;simp at hlt)
  refine zal ?_
  refine jl hw2 fun w3 hw3=>?_
  refine je hw3 hp2 h72 ?_
  generalize hu:(D++L.take k).length % 64=u at *
  generalize hq:(D++L.take k).length / 64=q at *
  have hu64:u < 64:=by omega
  have hEq:D.length+k=64 * q+u:=by omega
  refine qp (s:=.slc) (some ⟨p,8+u,none⟩,64-u,64-u) ?_ ?_
  ·rw [zdw u89 i5 (.yes rfl) .no (by omega) (by omega),if_neg (by omega),jo]
   simp [Sh.val]
  generalize hn:min sl (64-u)=n
  have hnl:n<=L.length-k:=by omega
  have hX:((L.drop k).take n).length=n:=by simp;omega
  obtain⟨w4,hrun,hcm4,hw4⟩:=qaf (P:=P) (w:=w3) (st:=zi) (xt:=zi) (ty:=zbw) (od:=8+u) (dl:=64-u) (dc:=64-u) (sl:=sl) (sc:=sc) (vs:=byteCells ((L.drop k).take n)) u22 i5 hw3
   (by rw [<-zf1];exact hC.take n) (by simp only [ji,hX];omega) jr hp2 (by simp only [ji,hX];omega)
  rw [hn] at hrun
  refine zam ((n:Nat):Int) w4 hrun ?_ hcm4
  generalize hXX:(L.drop k).take n=X at *
  have hE':D++L.take (k+n)=(D++L.take k)++X:=by rw [<-hXX,List.append_assoc,<-List.take_add]
  have hp4:(H2.setIfInBounds p (.cells (setCells c2 (8+u) (byteCells X)) za5 (0,0)))[p]?=some (.cells (setCells c2 (8+u) (byteCells X)) za5 (0,0)):=qg hp2
  have hg:∀ i,(setCells c2 (8+u) (byteCells X))[i]?=if 8+u<=i/\i < 8+u+n then (byteCells X)[i-(8+u)]? else c2[i]?:=by
   intro i;rw [zcv (by simp only [ji];omega)];simp only [ji,hX]
  have hS4:Words (setCells c2 (8+u) (byteCells X)) 0 (Sha.blocks (D++L.take k) q) 8:=fun i hi=>by rw [hg,if_neg (by omega)];exact hS2 i hi
  have hB4:Bytes (setCells c2 (8+u) (byteCells X)) 8 (fun i=>Sha.nth (D++L.take (k+n)) (64 * q+i)) (u+n):=by
   intro i hi
   rw [hg,hE']
   by_cases hiu:i < u
   ·rw [if_neg (by omega),hB2 i hiu]
    simp only
    rw [zgp (D:=D++L.take k) (E:=X) (by omega)]
   ·rw [if_pos (by omega),zdi (by omega)]
    simp only
    rw [zym (D:=D++L.take k) (E:=X) (by omega)]
    have:8+i-(8+u)=64 * q+i-(D++L.take k).length:=by omega
    rw [this]
    rfl
  refine jl hw4 fun w5 hw5=>?_
  refine je (t:=((u:Nat):Int)) hw5 hp4 (by rw [hg,if_neg (by omega)];exact h72) ?_
  refine jd ((u+n:Nat):Int) (by omega) (by omega) (by omega) ?_
  have hsl5:∀ w,(Instr.sliceAt zi (.slice sa sl sc) (some (.int .i64 (n:Int))) none none).run P w=.ok (.slice (if sc=n then sa else sa.map (·.add (n * 1))) (sl-n) (sc-n)) w:=
   fun w=>za1 u22 i5 (.yes rfl) .no (by omega) (by omega)
  refine qp (s:=.slc) (if sc=n then sa else sa.map (·.add (n * 1)),sl-n,sc-n) (hsl5 _) ?_
  refine za9 hw5 hp4 (by simp;omega) fun w6 hw6=>?_
  refine⟨qp (s:=.slc) (if sc=n then sa else sa.map (·.add (n * 1)),sl-n,sc-n) (hsl5 _) rfl,?_⟩
  rw [set_set] at hw6
  have hp6:(H2.setIfInBounds p (.cells ((setCells c2 (8+u) (byteCells X)).setIfInBounds 72 (.int .i64 ((u+n:Nat):Int))) za5 (0,0)))[p]?=some (.cells ((setCells c2 (8+u) (byteCells X)).setIfInBounds 72 (.int .i64 ((u+n:Nat):Int))) za5 (0,0)):=qg hp2
  have ha6:zmw ((setCells c2 (8+u) (byteCells X)).setIfInBounds 72 (.int .i64 ((u+n:Nat):Int))):=(ha2.setCells jr).set rfl
  generalize hc6:(setCells c2 (8+u) (byteCells X)).setIfInBounds 72 (.int .i64 ((u+n:Nat):Int))=c6 at *
  have hsz6:c6.size=74:=by rw [<-hc6];simp;omega
  have h726:c6[72]?=some (.int .i64 ((u+n:Nat):Int)):=by rw [<-hc6];simp [hsz2]
  have hg6:∀ i,i≠72->c6[i]?=(setCells c2 (8+u) (byteCells X))[i]?:=fun i hi=>by rw [<-hc6,Array.getElem?_setIfInBounds_ne (Ne.symm hi)]
  have hS6:Words c6 0 (Sha.blocks (D++L.take k) q) 8:=fun i hi=>by rw [hg6 _ (by omega)];exact hS4 i hi
  have hB6:Bytes c6 8 (fun i=>Sha.nth (D++L.take (k+n)) (64 * q+i)) (u+n):=fun i hi=>by rw [hg6 _ (by omega)];exact hB4 i hi
  have h736:c6[73]?=some (.int .i64 ((D.length+L.length:Nat):Int)):=by rw [hg6 _ (by omega),hg,if_neg (by omega)];exact h73
  have hx6:Ext [p] H2 (H2.setIfInBounds p (.cells c6 za5 (0,0))):=Ext.set _ (by simp)
  have hE'l:(D++L.take (k+n)).length=D.length+k+n:=by simp;omega
  have hC6:Cells (H2.setIfInBounds p (.cells c6 za5 (0,0))) (if sc=n then sa else sa.map (·.add (n * 1))) (byteCells (L.drop (k+n))):=by
   have:=(hC.ext hx6 (fun x hx _=>by simpa using hnb x hx)).drop n sc (by simp;omega)
   rw [zju,List.drop_drop] at this
   rw [Nat.mul_one]
   exact this
  have hnb6:∀ x,(if sc=n then sa else sa.map (·.add (n * 1)))=some x->x.block≠p:=by
   intro x hx'
   split at hx'
   ·exact hnb x hx'
   ·cases sa with
    | none=>simp at hx'
    | some y=>
     simp only [Option.map_some,Option.some.injEq] at hx'
     subst hx'
     have:=hnb y rfl
     unfold Addr.add
     split <;> exact this
  refine je hw6 hp6 h726 ?_
  refine zax (fun h64=>?_) (fun hn64=>?_)
  ·have h64:u+n=64:=by omega
   refine qp (s:=.slc) (some ⟨p,8,none⟩,64,64) ?_ ?_
   ·rw [zdw u89 i5 .no .no (by omega) (by omega),if_neg (by omega),jo]
    rfl
   obtain⟨rc,rT,rfr,hr1,hr2⟩:=(hR.ext hx (by simp;omega)).ext hx6 (by simp;omega)
   refine zk (qip (l:=64) (lc:=64) hw6 hp6 hsz6 hS6 hp6 (by rw [<-h64];exact hB6) (by omega) hr1 hr2 h0) ?_
   rintro e w7 ⟨rfl,hx7,c7,hp7,hsz7,hS7,hold7⟩
   refine⟨(),rfl,?_⟩
   refine za9 rfl hp7 (by omega) fun w8 hw8=>?_
   refine⟨⟨k+n,_,by omega,by simp only;omega,by simp only;omega,hC6.ext (hx7.trans (Ext.set (M:=[p]) _ (by simp))) (fun x hx _=>by simpa using hnb6 x hx),fun _=>hnb6,hw8,(hx.trans hx6).trans (hx7.trans (Ext.set _ (by simp))),_,qg hp7,by simpa using hsz7,?_,?_,?_,?_,zmw.set ?_ rfl⟩,?_⟩
   ·have e1:(D++L.take (k+n)).length / 64=q+1:=by omega
    rw [e1]
    simp only [Sha.blocks]
    rw [show Sha.blocks (D++L.take (k+n)) q=Sha.blocks (D++L.take k) q from by rw [hE'];exact zk7 q (by omega)]
    intro i hi
    rw [Array.getElem?_setIfInBounds_ne (by omega)]
    exact hS7 i hi
   ·have e1:(D++L.take (k+n)).length % 64=0:=by omega
    rw [e1]
    intro i hi;omega
   ·have e1:(D++L.take (k+n)).length % 64=0:=by omega
    rw [e1]
    simp [hsz7]
   ·rw [Array.getElem?_setIfInBounds_ne (by omega),hold7 _ (by omega)]
    exact h736
   ·intro i v hv
    by_cases hi:i < 8
    ·rw [hS7.at i hi] at hv;cases hv;rfl
    ·rw [hold7 i (by omega)] at hv;exact ha6 i v hv
   ·simp only;omega
  ·have hlt64:u+n < 64:=by omega
   have e1:(D++L.take (k+n)).length / 64=q:=by omega
   have e2:(D++L.take (k+n)).length % 64=u+n:=by omega
   refine⟨⟨k+n,_,by omega,by simp only;omega,by simp only;omega,hC6,fun _=>hnb6,hw6,hx.trans hx6,_,hp6,hsz6,?_,?_,?_,h736,ha6⟩,?_⟩
   ·rw [e1,show Sha.blocks (D++L.take (k+n)) q=Sha.blocks (D++L.take k) q from by rw [hE'];exact zk7 q (by omega)]
    exact hS6
   ·rw [e1,e2];exact hB6
   ·rw [e2];exact h726
   ·simp only;omega
 ·have hkl:k=L.length:=by simp only at hle;omega
  subst hkl
  rw [List.take_length] at *
  refine⟨trivial,by rw [hw2];exact hx,?_⟩
  rw [hw2]
  exact⟨c2,hp2,hsz2,hS2,hB2,h72,by rw [List.length_append];exact h73,ha2⟩
def c91:Array Value:=((W32 Sha.init 8).toList++List.replicate 64 (Value.int .u8 0)++[Value.int .i64 0,Value.int .i64 0]).toArray
theorem z4p (w:World):(Instr.build zab #[(0,.int .u32 1779033703),(1,.int .u32 3144134277),(2,.int .u32 1013904242),(3,.int .u32 2773480762),(4,.int .u32 1359893119),(5,.int .u32 2600822924),(6,.int .u32 528734635),(7,.int .u32 1541459225)]).run P w=.ok (.agg (W32 Sha.init 8)) w:=by
 kernel_rfl
theorem qf3 (w:World):(Instr.build za5 #[(0,.agg (W32 Sha.init 8))]).run P w=.ok (.agg c91) w:=by kernel_rfl
theorem u65:P.underlying zab=some (.array 8 znk):=by kernel_rfl
theorem u64:P.underlying znk=some (.int .u32):=by kernel_rfl
theorem i64:(P.info? znk).map (·.size)=some 1:=by kernel_rfl
theorem u92:P.underlying zkq=some (.array 8 xg):=by kernel_rfl
theorem zv6:zc P zf=(List.replicate 32 (Value.int .u8 0)).toArray:=by kernel_rfl
theorem qgx:(zc P za5).size=74:=by kernel_rfl
theorem qj6:zc P zkq=(List.replicate 8 (Value.int .u8 0)).toArray:=by kernel_rfl
theorem qhh:P.cellsOf za5=74:=by kernel_rfl
theorem zoa:P.cellsOf zf=32:=by kernel_rfl
theorem qis (x:Int) (w:World):(Instr.buildSlice zi 1 #[(0,.int .u8 x)]).run P w=.ok (.slice (some ⟨w.heap.size,0,none⟩) 1 1) { w with heap:=w.heap.push (.cells #[.int .u8 x] xg) }:=by kernel_rfl
theorem new_c {w:World}{H:Heap}(hw:w.heap=H):qc P zqu #[] w fun e w'=>e=.returned (.pointer (some ⟨H.size,0,none⟩))/\w'.heap=H.push (.cells c91 za5)/\zwc w'.heap H.size [] 0:=by
 refine z6r ?_
 unfold z0f
 refine qp (s:=.any) _ (z4p w) ?_
 refine qp (s:=.any) _ (qf3 w) ?_
 refine jv hw fun w1 hw1=>?_
 refine⟨rfl,hw1,?_⟩
 rw [hw1]
 refine⟨c91,zn,rfl,?_,?_,rfl,rfl,?_⟩
 ·intro i hi
  match i,hi with
  | 0,_=>rfl
  | 1,_=>rfl
  | 2,_=>rfl
  | 3,_=>rfl
  | 4,_=>rfl
  | 5,_=>rfl
  | 6,_=>rfl
  | 7,_=>rfl
 ·intro i hi;simp at hi
 ·intro i v hv
  have:v∈c91.toList:=by
   have:=Array.mem_of_getElem? hv
   exact Array.mem_toList_iff.2 this
  simp only [c91,List.mem_append,List.mem_replicate,List.mem_cons] at this
  rcases this with (h | ⟨_,rfl⟩) | rfl | rfl | h
  ·exact zvf v h
  ·rfl
  ·rfl
  ·rfl
  ·cases h
theorem qkm {c:Array Value}{i:Nat}{v:Value}(hc:c[i]?=some v) (hi:i < 8) (w:World):(Instr.index zab (.agg c) (.int .i64 (i:Int))).run P w=.ok v w:=by
 have hag:(isAgg 64).run P w=.ok false w:=by simp [isAgg,qj u64]
 have h1:(i:Int) < ((8:Nat):Int):=by omega
 simp only [Instr.index,asIntOf,Sem.run_bind,Sem.run_pure,Result.andThen_ok,qj u65]
 rw [if_pos ⟨by omega,h1⟩]
 simp [zby i64,part,hag,hc]
set_option maxHeartbeats 4000000 in
theorem qgv {w:World}{H:Heap}{p:Nat}{D:List UInt8}(hw:w.heap=H) (hD:zwc H p D D.length) (hR:Rounds H) (hlen:D.length < 1152921504606846976) :
  qc P zj1 #[.pointer (some ⟨p,0,none⟩)] w fun e w'=>e=.returned (arr (Sha.sum D))/\Ext [] H w'.heap:=by
 refine zvc ?_
 unfold zn2
 refine jv hw fun w1 hw1=>?_
 refine zal ?_
 refine jm rfl ?_
 simp only [zy]
 have hH0:0 < H.size:=by obtain⟨_,_,_,h,_⟩:=hR;exact lt_of_get h
 obtain⟨c,hp,hsz,hS,hB,h72,h73,ha⟩:=hD
 have hpl:=lt_of_get hp
 refine qx hw1 (zeq hp) hsz ?_
 refine jv hw1 fun w2 hw2=>?_
 refine zaz (qhh.trans (by simpa [Value.cells] using hsz.symm)) (by simp only [Value.cells];omega) ha.one hw2 zn (by rw [qgx];simp [Value.cells];omega) fun w3 hw3=>?_
 rw [show setCells (zc P za5) 0 (Value.cells (.agg c)).toList=c from by rw [zan (by rw [qgx];simpa [Value.cells] using hsz)];simp [Value.cells]] at hw3
 generalize hb3:(H.push (Obj.cells (zc P zf) zf)).size=b3 at *
 have hb3':b3=H.size+1:=by rw [<-hb3];simp
 generalize hH3:((H.push (Obj.cells (zc P zf) zf)).push (Obj.cells (zc P za5) za5)).setIfInBounds b3 (Obj.cells c za5 (0,0))=H3 at *
 have hx3:Ext [] H H3:=by rw [<-hH3];exact ((Ext.push _).push_own).set_own (.inl (by omega))
 have hp3:H3[b3]?=some (.cells c za5 (0,0)):=by rw [<-hH3];exact qg (by rw [<-hb3];exact zn)
 have h23:H3[H.size]?=some (.cells (zc P zf) zf (0,0)):=by rw [<-hH3];exact zfw (zeq zn) (by omega)
 have hD3:zwc H3 b3 D D.length:=⟨c,hp3,hsz,hS,hB,h72,h73,ha⟩
 have hR3:=hR.ext hx3 (by simp)
 refine je hw3 hp3 h73 ?_
 refine zfx (by omega) (by omega) ?_
 refine qd0 ((8 * D.length:Nat):Int) (by omega) (by omega) (by omega) ?_
 refine zam (s:=.slc) (some ⟨H3.size,0,none⟩,1,1) _ (by rw [qis 128 w3,hw3];rfl) ?_
 have hx4:Ext [] H3 (H3.push (Obj.cells #[Value.int .u8 128] xg)):=.push _
 have hb3l:=lt_of_get hp3
 refine zk (zyx (w:={ w3 with heap:=H3.push (Obj.cells #[Value.int .u8 128] xg) }) (L:=[128]) rfl (hD3.ext hx4 (by simp)) (zlr (H:=H3.push (Obj.cells #[Value.int .u8 128] xg)) zn (by simp) ?_) rfl (by simp) ?_ (hR3.ext hx4 (by simp)) (by omega) (by simp;omega)) ?_
 ·intro i hi
  obtain rfl:i=0:=by simp at hi;omega
  rfl
 ·intro _ x hx;cases hx;simp only;omega
 rintro e w5 ⟨rfl,hx5,hD5⟩
 refine⟨(),rfl,?_⟩
 have hx35:Ext [b3] H3 w5.heap:=(hx4.mono (by simp)).trans hx5
 clear hx5 hx4
 refine zni (fun m _ w=>∃ (j:Nat) (H':Heap),j+m=(119-D.length % 64) % 64/\w.heap=H'/\Ext [b3] H3 H'/\zwc H' b3 (D++[128]++List.replicate j 0) (D++[128]++List.replicate j 0).length)
  ((119-D.length % 64) % 64) ⟨0,_,by omega,rfl,hx35,by simpa using hD5⟩ ?_
 clear hx35 hD5
 rintro m _ w6 ⟨j,H6,hj,hw6,hx6,c6,hp6,hsz6,hS6,hB6,h726,h736,ha6⟩ K hK
 have hl6:(D++[128]++List.replicate j 0).length=D.length+1+j:=by simp only [List.length_append,List.length_singleton,List.length_replicate]
 rw [hl6] at h726 h736
 refine je hw6 hp6 h726 ?_
 refine zay (fun hne=>?_) (fun h56=>?_)
 ·have hjlt:j < (119-D.length % 64) % 64:=by omega
  have hx7:Ext [b3] H6 (H6.push (Obj.cells #[Value.int .u8 0] xg)):=.push _
  have hb3l6:=lt_of_get hp6
  refine zam (s:=.slc) (some ⟨H6.size,0,none⟩,1,1) _ (by rw [qis 0 w6,hw6];rfl) ?_
  refine zk (zyx (w:={ w6 with heap:=H6.push (Obj.cells #[Value.int .u8 0] xg) }) (D:=D++[128]++List.replicate j 0) (L:=[0]) rfl ⟨c6,zeq hp6,hsz6,hS6,hB6,by rw [hl6];exact h726,by rw [hl6];exact h736,ha6⟩
   (zlr (H:=H6.push (Obj.cells #[Value.int .u8 0] xg)) zn (by simp) ?_) rfl (by simp) ?_ ((hR3.ext hx6 (by simp;omega)).ext hx7 (by simp;omega)) (by omega) (by rw [hl6];simp;omega)) ?_
  ·intro i hi
   obtain rfl:i=0:=by simp at hi;omega
   rfl
  ·intro _ x hx;cases hx;simp only;omega
  rintro e w8 ⟨rfl,hx8,hD8⟩
  refine⟨(),rfl,?_⟩
  have hrep:D++[128]++List.replicate j 0++[0]=D++[128]++List.replicate (j+1) 0:=by
   rw [List.append_assoc,<-List.replicate_succ']
  rw [hrep] at hD8
  exact hK (m-1) _ _ (by omega) ⟨j+1,_,by omega,rfl,hx6.trans (hx7.trans hx8),hD8⟩
 have hjz:j=(119-D.length % 64) % 64:=by omega
 subst hjz
 refine jv hw6 fun w7 hw7=>?_
 have hb3l6:=lt_of_get hp6
 refine jg (fun s w=>∃ (i:Nat) (H':Heap) (c5:Array Value),s=(i:Int)/\i<=8/\w.heap=H'/\Ext [] H6 H'/\H'[H6.size]?=some (.cells c5 zkq (0,0))/\c5.size=8/\Bytes c5 0 (fun i=>UInt8.ofNat (8 * D.length / 2 ^ (56-8 * i))) i)
  (fun s _=>(8-s).toNat) ⟨0,_,_,rfl,by omega,hw7,.push _,zn,by rw [qj6];simp,fun i hi=>by omega⟩ ?_
 rintro _ w8 ⟨i,H8,c5,rfl,hi,hw8,hx8,hp8,hsz8,hB8⟩
 refine zq (fun hlt=>?_) (fun hge=>?_)
 ·have hlt:i < 8:=by omega
  refine zfy ((8 * i:Nat):Int) (by omega) (by omega) (by omega) ?_
  refine zb0 ((56-8 * i:Nat):Int) (by omega) (by omega) (by omega) ?_
  refine qgu (56-8 * i) rfl (by omega) ?_
  refine cv8 ?_
  refine zen i rfl (by omega) ?_
  refine za9 hw8 hp8 (by omega) fun w9 hw9=>?_
  refine jd ((i+1:Nat):Int) (by omega) (by omega) (by omega) ?_
  refine⟨⟨i+1,_,_,rfl,by omega,hw9,hx8.set_own (.inl (Nat.le_refl _)),qg hp8,by simpa using hsz8,hB8.snoc (by omega) rfl⟩,by omega⟩
 have hi8:i=8:=by omega
 subst hi8
 refine qp (s:=.slc) (some ⟨H6.size,0,none⟩,8,8) (by rw [zdw u92 i5 .no .no (by omega) (by omega),if_neg (by omega),jo];rfl) ?_
 have hl6':(D++[128]++List.replicate ((119-D.length % 64) % 64) (0:UInt8)).length=D.length+1+(119-D.length % 64) % 64:=by simp only [List.length_append,List.length_singleton,List.length_replicate]
 refine zk (zyx (D:=D++[128]++List.replicate ((119-D.length % 64) % 64) 0) (L:=Sha.be8 (D.length * 8)) hw8 ⟨c6,hx8.get hp6 (by simp),hsz6,hS6,hB6,by rw [hl6];exact h726,by rw [hl6];exact h736,ha6⟩
  (zlr hp8 (by simp [Sha.be8];omega) ?_) (by simp [Sha.be8]) (by omega) ?_ ((hR3.ext hx6 (by simp;omega)).ext hx8 (by simp)) (by omega) (by rw [hl6];simp [Sha.be8];omega)) ?_
 ·intro i hi
  have hi:i < 8:=by simpa [Sha.be8] using hi
  rw [hB8 i hi]
  simp [Sha.be8,hi,Nat.mul_comm]
 ·intro _ x hx;cases hx;simp only;omega
 rintro e w9 ⟨rfl,hx9,hD9⟩
 refine⟨(),rfl,?_⟩
 have hpad:D++[128]++List.replicate ((119-D.length % 64) % 64) 0++Sha.be8 (D.length * 8)=Sha.pad D:=rfl
 rw [hpad] at hD9
 obtain⟨c9,hp9,hsz9,hS9,_⟩:=hD9
 refine jv rfl fun w10 hw10=>?_
 refine zf9 hw10 (zeq hp9) (by omega) ?_
 rw [hS9.extract (by omega)]
 generalize hs:Sha.blocks (Sha.pad D) ((Sha.pad D).length / 64)=s at *
 have hx39:Ext [b3] H3 w9.heap:=hx6.trans ((hx8.mono (by simp)).trans hx9)
 refine jg (fun s' w=>∃ (i:Nat) (H':Heap) (c7:Array Value),s'=(i:Int)/\i<=8/\w.heap=H'/\Ext [] w9.heap H'/\H'[w9.heap.size]?=some (.cells c7 zf (0,0))/\c7.size=32/\Bytes c7 0 (Sha.out s) (4 * i))
  (fun s _=>(8-s).toNat) ⟨0,_,_,rfl,by omega,hw10,.push _,zn,by rw [zv6];simp,fun i hi=>by omega⟩ ?_
 rintro _ w11 ⟨i,H11,c7,rfl,hi,hw11,hx11,hp11,hsz11,hB11⟩
 refine zq (fun hlt=>?_) (fun hge=>?_)
 ·have hlt:i < 8:=by omega
  refine qp (s:=.int .u32) _ (qkm (zkx.at i hlt) hlt _) ?_
  refine zfy ((4 * i:Nat):Int) (by omega) (by omega) (by omega) ?_
  refine zfy ((4 * i:Nat):Int) (by omega) (by omega) (by omega) ?_
  refine jd ((4 * i+1:Nat):Int) (by omega) (by omega) (by omega) ?_
  refine zfy ((4 * i:Nat):Int) (by omega) (by omega) (by omega) ?_
  refine jd ((4 * i+2:Nat):Int) (by omega) (by omega) (by omega) ?_
  refine zfy ((4 * i:Nat):Int) (by omega) (by omega) (by omega) ?_
  refine jd ((4 * i+3:Nat):Int) (by omega) (by omega) (by omega) ?_
  refine qbo _ 24 rfl (by omega) ?_
  refine cvL _ ?_
  refine qbo _ 16 rfl (by omega) ?_
  refine cvL _ ?_
  refine qbo _ 8 rfl (by omega) ?_
  refine cvL _ ?_
  refine cvL _ ?_
  refine zen (4 * i) rfl (by omega) ?_
  refine za9 hw11 hp11 (by omega) fun w12 hw12=>?_
  refine zen (4 * i+1) rfl (by omega) ?_
  refine za9 hw12 (qg hp11) (by simp;omega) fun w13 hw13=>?_
  rw [set_set] at hw13
  refine zen (4 * i+2) rfl (by omega) ?_
  refine za9 hw13 (qg hp11) (by simp;omega) fun w14 hw14=>?_
  rw [set_set] at hw14
  refine zen (4 * i+3) rfl (by omega) ?_
  refine za9 hw14 (qg hp11) (by simp;omega) fun w15 hw15=>?_
  rw [set_set] at hw15
  refine jd ((i+1:Nat):Int) (by omega) (by omega) (by omega) ?_
  refine⟨⟨i+1,_,_,rfl,by omega,hw15,hx11.set_own (.inl (Nat.le_refl _)),qg hp11,by simp;omega,?_⟩,by omega⟩
  have o0:Sha.out s (4 * i)=lo8 (s i >>> 24):=by
   unfold Sha.out;rw [show 4 * i / 4=i from by omega,show 4 * i % 4=0 from by omega]
  have o1:Sha.out s (4 * i+1)=lo8 (s i >>> 16):=by
   unfold Sha.out;rw [show (4 * i+1) / 4=i from by omega,show (4 * i+1) % 4=1 from by omega]
  have o2:Sha.out s (4 * i+2)=lo8 (s i >>> 8):=by
   unfold Sha.out;rw [show (4 * i+2) / 4=i from by omega,show (4 * i+2) % 4=2 from by omega]
  have o3:Sha.out s (4 * i+3)=lo8 (s i):=by
   unfold Sha.out;rw [show (4 * i+3) / 4=i from by omega,show (4 * i+3) % 4=3 from by omega];simp
  exact ((((hB11.snoc (by omega) o0.symm).snoc (by simp;omega) o1.symm).snoc (by simp;omega) o2.symm).snoc (by simp;omega) o3.symm)
 have hi8:i=8:=by omega
 subst hi8
 refine qx hw11 hp11 hsz11 ?_
 have hc7:c7=B8 (Sha.out s) 32:=by
  have:=hB11.extract (by omega)
  rw [<-this]
  exact (Array.extract_eq_self_of_le (by omega)).symm
 subst hc7
 have h211:H11[H.size]?=some (.cells (zc P zf) zf (0,0)):=hx11.get (hx39.get h23 (by simp;omega)) (by simp)
 refine zaz (zoa.trans (by simp [Value.cells])) (by simp [Value.cells]) qem hw11 h211 (by rw [zv6];simp [Value.cells]) fun w12 hw12=>?_
 rw [show setCells (zc P zf) 0 (Value.cells (.agg (B8 (Sha.out s) 32))).toList=B8 (Sha.out s) 32 from by rw [zan (by rw [zv6];simp [Value.cells])];simp [Value.cells]] at hw12
 refine qx hw12 (qg h211) (by simp) ?_
 refine⟨?_,?_⟩
 ·unfold arr Sha.sum B8 byteCells
  rw [hs]
  simp
 ·rw [hw12]
  refine Ext.set_own ?_ (.inl (Nat.le_refl _))
  exact hx3.own (hx39.trans (hx11.mono (by simp))) (by simp;omega)
theorem zad {L:List UInt8}:(Sha.sum L).length=32:=by simp [Sha.sum]
theorem jy {L:List UInt8}:(arr L).cells.size=L.length:=by simp [arr,Value.cells,byteCells]
theorem z7t {w:World}{H:Heap}{a:Option Addr}{l lc:Nat}{L:List UInt8}(hw:w.heap=H) (hL:Cells H a (byteCells L)) (hl:l=L.length) (hc:l<=lc) (hR:Rounds H) (hlen:L.length < 1152921504606846976) :
  qc P zhu #[.slice a l lc] w fun e w'=>e=.returned (arr (Sha.sum L))/\Ext [] H w'.heap:=by
 refine z6a ?_
 unfold z1e
 refine jv hw fun w1 hw1=>?_
 have hps:(H.push (Obj.cells (zc P zf) zf (0,0))).size=H.size+1:=by simp
 have hx1:Ext [] H (H.push (.cells (zc P zf) zf)):=.push _
 refine zk (new_c hw1) ?_
 rintro e w2 ⟨rfl,hw2,hD2⟩
 refine⟨_,rfl,?_⟩
 have hx2:Ext [] H w2.heap:=by rw [hw2];exact hx1.push_own
 have h2:w2.heap[H.size]?=some (.cells (zc P zf) zf (0,0)):=by rw [hw2];exact zeq zn
 have hH0:0 < H.size:=by obtain⟨_,_,_,h,_⟩:=hR;exact lt_of_get h
 refine zk (zyx (D:=[]) (L:=L) rfl hD2 (hL.ext hx2 (by simp)) hl hc (fun hne x hx=>by obtain⟨y,hy,hlt⟩:=hL.lt (by simpa [byteCells] using hne);rw [hx] at hy;cases hy;omega) (hR.ext hx2 (by simp)) (by simp) (by simp;omega)) ?_
 rintro e w3 ⟨rfl,hx3,hD3⟩
 refine⟨(),rfl,?_⟩
 rw [List.nil_append] at hD3
 have hx23:Ext [] H w3.heap:=hx2.own hx3 (by simp)
 have h3:w3.heap[H.size]?=some (.cells (zc P zf) zf (0,0)):=hx3.get h2 (by simp)
 refine zk (qgv rfl hD3 (hR.ext hx23 (by simp)) hlen) ?_
 rintro e w4 ⟨rfl,hx4⟩
 refine⟨arr (Sha.sum L),rfl,?_⟩
 refine zaz (zoa.trans (by rw [jy,zad])) (by rw [jy,zad];omega) ?_ rfl (hx4.get h3 (by simp)) (by rw [zv6,jy,zad];simp) fun w5 hw5=>?_
 ·intro v hv
  simp only [arr,Value.cells] at hv
  exact jr v hv
 rw [show setCells (zc P zf) 0 (Value.cells (arr (Sha.sum L))).toList=(byteCells (Sha.sum L)).toArray from by rw [zan (by rw [zv6,Array.length_toList,jy,zad];simp)];simp [Value.cells,arr]] at hw5
 refine qx hw5 (qg (hx4.get h3 (by simp))) (by simp [byteCells,zad]) ?_
 exact⟨rfl,by rw [hw5];exact (hx23.own hx4 (by simp)).set_own (.inl (Nat.le_refl _))⟩
theorem qhl:P.cellsOf zaq=64:=by kernel_rfl
theorem z6n {w:World}{H:Heap}{t:Nat}(hw:w.heap=H) (ht:t < 64):qc P zj4 #[.int .i64 (t:Int)] w fun e w'=>e=.returned (.int .u32 ((Sha.K t).toNat:Int))/\Ext [] H w'.heap:=by
 refine zum ?_
 unfold znz
 refine qp (s:=.any) (.agg (W32 Sha.K 64)) (by kernel_rfl) ?_
 refine jv hw fun w1 hw1=>?_
 refine zaz (qhl.trans (by simp [Value.cells])) (by simp [Value.cells]) zvf hw1 zn (by rw [qic];simp [Value.cells]) fun w2 hw2=>?_
 rw [show setCells (zc P zaq) 0 (Value.cells (.agg (W32 Sha.K 64))).toList=W32 Sha.K 64 from by rw [zan (by rw [qic];simp [Value.cells])];simp [Value.cells]] at hw2
 refine zen t rfl ht ?_
 refine je hw2 (qg zn) (zkx.at t ht) ?_
 exact⟨rfl,by rw [hw2];exact (Ext.push _).set_own (.inl (Nat.le_refl _))⟩
theorem i5a:(P.info? xg).map (fun i=>(i.size,i.bytes,i.zero))=some (1,1,some (.int .u8 0)):=by kernel_rfl
theorem i5x:∃ i,P.info? xg=some i/\i.size=1/\i.bytes=1/\i.zero=some (.int .u8 0):=by
 have h:=i5a
 revert h
 cases P.info? xg with
 | none=>intro h;cases h
 | some i=>intro h;simp only [Option.map_some,Option.some.injEq,Prod.mk.injEq] at h;exact⟨i,rfl,h.1,h.2.1,h.2.2⟩
theorem zth {w:World}{H:Heap}{B:Nat}{x:Option Addr×Nat×Nat}{y:Value}{n:Nat}{vs us:List Value}(hw:w.heap=H) (hown:Mine H B xg 1 x vs) (hB:B<=H.size) (hsrc:Src P w y 1 n us) (h1:zcs us)
  (hroom:(2 * (x.2.1+n)+192)<=281474976710656){K:(Option Addr×Nat×Nat)->World->Prop}
  (hK:∀ x' w',Mine w'.heap B xg 1 x' (vs++us)->x'.2.1=x.2.1+n->Ext (jf x) H w'.heap->(∀ b,b∈jf x'->b∈jf x\/H.size<=b)->K x' w') :
  zas P (Builtin.append_ #[zi,zi] zi #[.slice x.1 x.2.1 x.2.2,y]) .slc w K:=by
 obtain⟨i,hi,hs,hb,hz⟩:=i5x
 obtain⟨x',w',h1,hcm,h2,h3,h4,h5⟩:=z5x (ty:=zi) u22 ⟨_,u22,by intro k h;cases h⟩ hi hs hz rfl (by omega) hw hown hB hsrc h1 (by rw [hb];omega)
 exact⟨x',w',h1,hcm,hK x' w' h2 h3 h4 h5⟩
theorem zu4 {w:World}{H0 H:Heap}{B:Nat}{x:Option Addr×Nat×Nat}{D:List UInt8}(b:UInt8){n:Int}(hn:n=(b.toNat:Int)) (hw:w.heap=H) (hx:Ext [] H0 H) (h0:H0.size<=B) (hown:Mine H B xg 1 x (byteCells D)) (hB:B<=H.size)
  (hl:x.2.1=D.length) (hroom:D.length < 140737488355000){K:(Option Addr×Nat×Nat)->World->Prop}
  (hK:∀ x' w',Mine w'.heap B xg 1 x' (byteCells (D++[b]))->x'.2.1=(D++[b]).length->Ext [] H0 w'.heap->B<=w'.heap.size->K x' w') :
  zas P (Instr.buildSlice zi 1 #[(0,.int .u8 n)]) .slc w fun t w_1=>zas P (Builtin.append_ #[zi,zi] zi #[.slice x.1 x.2.1 x.2.2,.slice t.1 t.2.1 t.2.2]) .slc w_1 K:=by
 subst hn hw
 refine zam (s:=.slc) (some ⟨w.heap.size,0,none⟩,1,1) _ (qis _ w) ?_
 have hx1:Ext [] w.heap (w.heap.push (Obj.cells #[Value.int .u8 (b.toNat:Int)] xg)):=.push _
 refine zth (w:={ w with heap:=w.heap.push (Obj.cells #[Value.int .u8 (b.toNat:Int)] xg) }) (us:=byteCells [b]) rfl (hown.ext hx1 (by simp)) (by simp;omega) (Src.slc rfl (zlr (L:=[b]) (H:=w.heap.push (Obj.cells #[Value.int .u8 (b.toNat:Int)] xg)) zn (by simp) ?_) (by simp [byteCells])) jr (by simp only;omega) ?_
 ·intro i hi
  obtain rfl:i=0:=by simp at hi;omega
  rfl
 intro x' w' h2 h3 h4 h5
 refine hK x' w' ?_ (by rw [h3,hl];simp) ((hx.trans hx1).own h4 fun c hc hlt=>?_) ?_
 ·simpa [byteCells] using h2
 ·have:=xu hown c hc;omega
 ·have:=h4.1;simp at this;omega
def pw (f:Nat->UInt8) (t:Nat):Nat->BitVec 32
 | 0=>0#32
 | j+1=>pw f t j <<< 8 ||| b32 (f (4 * t+j))
theorem qfo (f:Nat->UInt8) (t:Nat):pw f t 4=Sha.word f t:=by
 simp only [pw,Sha.word,BitVec.shiftLeft_or_distrib,<-BitVec.shiftLeft_add,BitVec.zero_shiftLeft,BitVec.zero_or,Nat.add_zero,Nat.reduceAdd]
def sh (V:Nat->BitVec 32) (j:Nat):Nat->BitVec 32:=fun i=>if i<=j then V i else V (i-1)
set_option maxHeartbeats 8000000 in
theorem znh {w:World}{H:Heap}{a:Option Addr}{l lc:Nat}{L:List UInt8}(hw:w.heap=H) (hL:Cells H a (byteCells L)) (hl:l=L.length) (hlen:L.length < 140737488351233) :
  qc P zhz #[.slice a l lc] w fun e w'=>e=.returned (arr (Sha.sum L))/\Ext [] H w'.heap:=by
 subst hl
 refine z6b ?_
 unfold zz8
 refine jv hw fun w1 hw1=>?_
 generalize hH1:H.push (Obj.cells (zc P zf) zf (0,0))=H1 at *
 have hs1:H1.size=H.size+1:=by rw [<-hH1];simp
 have hx1:Ext [] H H1:=by rw [<-hH1];exact .push _
 have h2:H1[H.size]?=some (.cells (zc P zf) zf (0,0)):=by rw [<-hH1];exact zn
 refine zam (s:=.slc) (some ⟨H1.size,0,none⟩,0,0) { w1 with heap:=H1.push (.cells #[] xg) } (by rw [<-hw1];kernel_rfl) ?_
 have hxp:Ext [] H1 (H1.push (.cells #[] xg)):=.push _
 have hO:Mine (H1.push (.cells #[] xg)) H1.size xg 1 (some ⟨H1.size,0,none⟩,0,0) []:=.inr ⟨H1.size,#[],rfl,Nat.le_refl _,zn,rfl,rfl,Nat.le_refl _,rfl⟩
 refine zth (w:={ w1 with heap:=H1.push (.cells #[] xg) }) rfl hO (by simp) (Src.slc rfl ((hL.ext hx1 (by simp)).ext hxp (by simp)) (by simp [byteCells])) jr (by simp only;omega) ?_
 intro x2 w2 hO2 hl2 hx2 hm2
 simp only [Nat.zero_add] at hl2
 rw [List.nil_append] at hO2
 have hx12:Ext [] H1 w2.heap:=hxp.own hx2 (by intro b hb;simp [jf] at hb;omega)
 refine zu4 128 rfl rfl hx12 (Nat.le_refl _) hO2 hx12.1 hl2 (by omega) ?_
 intro x3 w3 hO3 hl3 hx3 hB3
 refine zni (fun m (x:Option Addr×Nat×Nat) w=>∃ (j:Nat),j+m=(119-L.length % 64) % 64/\Mine w.heap H1.size xg 1 x (byteCells (L++[128]++List.replicate j 0))/\x.2.1=L.length+1+j/\Ext [] H1 w.heap/\H1.size<=w.heap.size)
  ((119-L.length % 64) % 64) ⟨0,by omega,by simpa using hO3,by simpa using hl3,hx3,hB3⟩ ?_
 clear hO3 hl3 hx3 hB3 hx12 hx2 hm2 hO2 hl2
 rintro m x4 w4 ⟨j,hj,hO4,hl4,hx4,hB4⟩ K hK
 have hlj:(L++[128]++List.replicate j (0:UInt8)).length=L.length+1+j:=by simp only [List.length_append,List.length_singleton,List.length_replicate]
 refine zp8 (L.length+1+j) 64 (by rw [hl4]) rfl (by omega) ?_
 refine zay (fun hne=>?_) (fun h56=>?_)
 ·have hjlt:j < (119-L.length % 64) % 64:=by omega
  refine zu4 0 rfl rfl hx4 (Nat.le_refl _) hO4 hB4 (by rw [hl4,hlj]) (by rw [hlj];omega) ?_
  intro x5 w5 hO5 hl5 hx5 hB5
  have hrep:L++[128]++List.replicate j 0++[0]=L++[128]++List.replicate (j+1) 0:=by
   rw [List.append_assoc,<-List.replicate_succ']
  rw [hrep] at hO5
  refine hK (m-1) _ _ (by omega) ⟨j+1,by omega,hO5,?_,hx5,hB5⟩
  rw [hl5,List.length_append,hlj];simp;omega
 have hjz:j=(119-L.length % 64) % 64:=by omega
 subst hjz
 clear hK K h56 hj
 refine zfx (by omega) (by omega) ?_
 refine qd0 ((8 * L.length:Nat):Int) (by omega) (by omega) (by omega) ?_
 generalize hD:L++[128]++List.replicate ((119-L.length % 64) % 64) (0:UInt8)=D at *
 refine jg (fun (s:(Option Addr×Nat×Nat)×Int) w=>∃ (i:Nat),s.2=(i:Int)/\i<=8/\Mine w.heap H1.size xg 1 s.1 (byteCells (D++(Sha.be8 (L.length * 8)).take i))/\s.1.2.1=D.length+i/\Ext [] H1 w.heap/\H1.size<=w.heap.size)
  (fun s _=>(8-s.2).toNat) ⟨0,rfl,by omega,by simpa using hO4,by rw [hl4,hlj];rfl,hx4,hB4⟩ ?_
 clear hO4 hl4 hx4 hB4
 rintro ⟨x5,_⟩ w5 ⟨i,rfl,hi,hO5,hl5,hx5,hB5⟩
 have hli:(D++(Sha.be8 (L.length * 8)).take i).length=D.length+i:=by simp [Sha.be8];omega
 refine zq (fun hlt=>?_) (fun hge=>?_)
 ·have hlt:i < 8:=by simp only at hlt;omega
  refine zfy ((8 * i:Nat):Int) (by simp only;omega) (by omega) (by omega) ?_
  refine zb0 ((56-8 * i:Nat):Int) (by omega) (by omega) (by omega) ?_
  refine zfx (by omega) (by omega) ?_
  refine qgu (56-8 * i) rfl (by omega) ?_
  refine cv8 ?_
  refine zu4 (UInt8.ofNat (8 * L.length / 2 ^ (56-8 * i))) rfl rfl hx5 (Nat.le_refl _) hO5 hB5 (by rw [hli];exact hl5) (by rw [hli];omega) ?_
  intro x6 w6 hO6 hl6 hx6 hB6
  have ht:(Sha.be8 (L.length * 8)).take i++[UInt8.ofNat (8 * L.length / 2 ^ (56-8 * i))]=(Sha.be8 (L.length * 8)).take (i+1):=by
   rw [List.take_add_one,show (Sha.be8 (L.length * 8))[i]?=some (UInt8.ofNat (8 * L.length / 2 ^ (56-8 * i))) from by simp [Sha.be8,hlt,Nat.mul_comm]]
   rfl
  rw [List.append_assoc,ht] at hO6
  refine jd ((i+1:Nat):Int) (by simp only;omega) (by omega) (by omega) ?_
  refine⟨⟨i+1,rfl,by omega,hO6,?_,hx6,hB6⟩,by simp only;omega⟩
  rw [hl6,List.length_append,hli];simp;omega
 have hi8:i=8:=by simp only at hge;omega
 subst hi8
 clear hge hi
 have hpad:D++(Sha.be8 (L.length * 8)).take 8=Sha.pad L:=by
  rw [List.take_of_length_le (by simp [Sha.be8])]
  rw [<-hD];rfl
 rw [hpad] at hO5 hli
 simp only at hl5
 generalize hM:Sha.pad L=M at *
 have hM64:M.length % 64=0:=by rw [hli];omega
 have hlM:M.length < 140737488351233+200:=by rw [hli];omega
 obtain⟨xa,xl,xc⟩:=x5
 obtain⟨bb,o,cm,Tm,frm,hxa,hbm,hcm,hbs⟩:=hO5.cells.bytes (by intro h;rw [h] at hli;simp at hli)
 simp only at hl5 hxa
 obtain rfl:xl=M.length:=by omega
 subst hxa
 clear hO5
 generalize hHp:w5.heap=Hp at *
 have h2p:=hx5.get h2 (by simp)
 have hxp0:Ext [] H Hp:=hx1.trans hx5
 have hs2:H.size < Hp.size:=lt_of_get h2p
 have hbmp:=lt_of_get hbm
 clear hx5 hB5 hO hxp
 refine qp (s:=.any) _ (z4p w5) ?_
 refine jv hHp fun w6 hw6=>?_
 refine zaz (z5h.trans (by simp [Value.cells])) (by simp [Value.cells]) zvf hw6 zn (by rw [qgc];simp [Value.cells]) fun w7 hw7=>?_
 rw [show setCells (zc P zab) 0 (Value.cells (.agg (W32 Sha.init 8))).toList=W32 Sha.init 8 from by rw [zan (by rw [qgc];simp [Value.cells])];simp [Value.cells]] at hw7
 refine jv hw7 fun w8 hw8=>?_
 generalize hb7:((Hp.push (Obj.cells (zc P zab) zab (0,0))).setIfInBounds Hp.size (.cells (W32 Sha.init 8) zab (0,0))).size=b7 at *
 have hb7':b7=Hp.size+1:=by rw [<-hb7];simp
 generalize hH8:((Hp.push (Obj.cells (zc P zab) zab (0,0))).setIfInBounds Hp.size (.cells (W32 Sha.init 8) zab (0,0))).push (Obj.cells (zc P zaq) zaq (0,0))=H8 at *
 have hx8:Ext [] Hp H8:=by rw [<-hH8];exact ((Ext.push _).set_own (.inl (Nat.le_refl _))).push_own
 have h6:H8[Hp.size]?=some (.cells (W32 Sha.init 8) zab (0,0)):=by rw [<-hH8];exact zeq (qg zn)
 have h7:H8[b7]?=some (.cells (zc P zaq) zaq (0,0)):=by rw [<-hH8,<-hb7];exact zn
 refine jg (fun s w=>∃ (k:Nat) (H':Heap) (c6 c7:Array Value),s=((64 * k:Nat):Int)/\k<=M.length / 64/\w.heap=H'/\Ext [] Hp H'/\H'[Hp.size]?=some (.cells c6 zab (0,0))/\c6.size=8/\Words c6 0 (Sha.blocks M k) 8 /\
   H'[b7]?=some (.cells c7 zaq (0,0))/\c7.size=64)
  (fun s _=>((M.length:Int)-s).toNat) ⟨0,_,_,_,rfl,by omega,hw8,hx8,h6,by simp,zkx,h7,by rw [qic];simp⟩ ?_
 clear hx8 h6 h7 hw8 hH8 hw7 hw6 hb7
 rintro _ w9 ⟨k,H9,c6,c7,rfl,hk,hw9,hx9,h6,hs6,hV6,h7,hs7⟩
 refine zq (fun hlt=>?_) (fun hge=>?_)
 ·have hk:64 * k+64<=M.length:=by simp only at hlt;omega
  clear hlt
  generalize hf:(fun j=>Sha.nth M (64 * k+j))=f
  have hfa:∀ j,Sha.nth M (64 * k+j)=f j:=fun j=>by rw [<-hf]
  refine jg (fun s w=>∃ (t:Nat) (H':Heap) (c7:Array Value),s=(t:Int)/\t<=64/\w.heap=H'/\Ext [b7] H9 H'/\H'[b7]?=some (.cells c7 zaq (0,0))/\c7.size=64/\Words c7 0 (Sha.W (Sha.word f)) t)
   (fun s _=>(64-s).toNat) ⟨0,_,_,rfl,by omega,hw9,.refl _ _,h7,hs7,fun i hi=>by omega⟩ ?_
  clear h7 hs7 hw9 c7
  rintro _ w10 ⟨t,H10,c7,rfl,ht,hw10,hx10,h7,hs7,hW⟩
  refine zq (fun hlt=>?_) (fun hge=>?_)
  ·have hlt:t < 64:=by omega
   refine zal ?_
   refine zal ?_
   refine zq (fun hlt16=>?_) (fun hge16=>?_)
   ·have hlt16:t < 16:=by omega
    refine zen t rfl (by omega) ?_
    refine za9 hw10 h7 (by omega) fun w11 hw11=>?_
    refine jg (fun s w=>∃ (j:Nat) (H':Heap) (c7:Array Value),s=(j:Int)/\j<=4/\w.heap=H'/\Ext [b7] H9 H'/\H'[b7]?=some (.cells c7 zaq (0,0))/\c7.size=64/\Words c7 0 (Sha.W (Sha.word f)) t/\c7[t]?=some (.int .u32 ((pw f t j).toNat:Int)))
     (fun s _=>(4-s).toNat) ⟨0,_,_,rfl,by omega,hw11,hx10.set_own (.inr (by simp)),qg h7,by simpa using hs7,(hW.put t (by omega) 0).congr (fun i hi=>by simp only [if_neg (show ¬i=t by omega)]),by simp [pw,show t < c7.size by omega]⟩ ?_
    clear hw11 hw10 hx10 h7 hs7 hW c7
    rintro _ w12 ⟨j,H12,c7,rfl,hj,hw12,hx12,h7,hs7,hW,hpw⟩
    refine zq (fun hltj=>?_) (fun hgej=>?_)
    ·have hltj:j < 4:=by omega
     refine jl hw12 fun w13 hw13=>?_
     refine zen t rfl (by omega) ?_
     refine zfy ((4 * t:Nat):Int) (by omega) (by omega) (by omega) ?_
     refine jd ((64 * k+4 * t:Nat):Int) (by omega) (by omega) (by omega) ?_
     refine jd ((64 * k+4 * t+j:Nat):Int) (by omega) (by omega) (by omega) ?_
     refine zkt (64 * k+4 * t+j) rfl (by simp only;omega) ?_
     refine je hw13 h7 hpw ?_
     refine qgk _ 8 rfl (by omega) ?_
     refine je hw13 ((hx12.get (hx9.get hbm (by simp)) (by simp;omega))) (hbs (64 * k+4 * t+j) (by omega)) ?_
     refine cvB ?_
     refine orW _ _ ?_
     refine zen t rfl (by omega) ?_
     refine za9 hw13 h7 (by omega) fun w14 hw14=>?_
     refine jd ((j+1:Nat):Int) (by omega) (by omega) (by omega) ?_
     refine⟨⟨j+1,_,_,rfl,by omega,hw14,hx12.set_own (.inr (by simp)),qg h7,by simpa using hs7,(hW.put t (by omega) _).congr (fun i hi=>by simp only [if_neg (show ¬i=t by omega)]),?_⟩,by omega⟩
     have hfj:f (4 * t+j)=M.getD (64 * k+4 * t+j) 0:=by rw [<-hfa,Nat.add_assoc];rfl
     rw [Array.getElem?_setIfInBounds_self_of_lt (by omega)]
     simp only [pw,hfj]
    have hj4:j=4:=by omega
    subst hj4
    refine jd ((t+1:Nat):Int) (by omega) (by omega) (by omega) ?_
    refine⟨⟨t+1,_,_,rfl,by omega,hw12,hx12,h7,hs7,?_⟩,by omega⟩
    intro i hi
    by_cases hit:i < t
    ·exact hW i hit
    ·obtain rfl:i=t:=by omega
     rw [Nat.zero_add,hpw,qfo,Sha.W_lt hlt16]
   ·refine zb0 ((t-2:Nat):Int) (by omega) (by omega) (by omega) ?_
    refine zen (t-2) rfl (by omega) ?_
    refine je hw10 h7 (hW.at (t-2) (by omega)) ?_
    refine zb0 ((t-15:Nat):Int) (by omega) (by omega) (by omega) ?_
    refine zen (t-15) rfl (by omega) ?_
    refine je hw10 h7 (hW.at (t-15) (by omega)) ?_
    refine jl hw10 fun w11 hw11=>?_
    refine qbo _ 10 rfl (by omega) ?_
    refine zb0 ((t-7:Nat):Int) (by omega) (by omega) (by omega) ?_
    refine zen (t-7) rfl (by omega) ?_
    refine qbo _ 3 rfl (by omega) ?_
    refine zb0 ((t-16:Nat):Int) (by omega) (by omega) (by omega) ?_
    refine zen (t-16) rfl (by omega) ?_
    refine zbs (l:=[.int .u32]) _ (zog _ 17 rfl (by omega) (by omega) _) ?_
    refine zbs (l:=[.int .u32]) _ (zog _ 19 rfl (by omega) (by omega) _) ?_
    refine zv4 _ _ ?_
    refine zv4 _ _ ?_
    refine je hw11 h7 (hW.at (t-7) (by omega)) ?_
    refine zv7 _ _ ?_
    refine zbs (l:=[.int .u32]) _ (zog _ 7 rfl (by omega) (by omega) _) ?_
    refine zbs (l:=[.int .u32]) _ (zog _ 18 rfl (by omega) (by omega) _) ?_
    refine zv4 _ _ ?_
    refine zv4 _ _ ?_
    refine zv7 _ _ ?_
    refine je hw11 h7 (hW.at (t-16) (by omega)) ?_
    refine zv7 _ _ ?_
    refine zen t rfl (by omega) ?_
    refine za9 hw11 h7 (by omega) fun w12 hw12=>?_
    refine jd ((t+1:Nat):Int) (by omega) (by omega) (by omega) ?_
    refine⟨⟨t+1,_,_,rfl,by omega,hw12,hx10.set_own (.inr (by simp)),qg h7,by simpa using hs7,?_⟩,by omega⟩
    exact hW.snoc (by omega) (by rw [Sha.W_ge (show 16<=t by omega)])
  have ht64:t=64:=by omega
  subst ht64
  clear hge ht
  have h6':=hx10.get h6 (by simp;omega)
  refine zf9 hw10 h6' (by omega) ?_
  rw [hV6.extract (by omega)]
  refine jv hw10 fun w11 hw11=>?_
  refine zaz (z5h.trans (by simp [Value.cells])) (by simp [Value.cells]) zvf hw11 zn (by rw [qgc];simp [Value.cells]) fun w12 hw12=>?_
  rw [show setCells (zc P zab) 0 (Value.cells (.agg (W32 (Sha.blocks M k) 8))).toList=W32 (Sha.blocks M k) 8 from by rw [zan (by rw [qgc];simp [Value.cells])];simp [Value.cells]] at hw12
  have hb7l:=lt_of_get h7
  generalize hs:Sha.blocks M k=s at *
  refine jg (fun s' w=>∃ (t:Nat) (H':Heap) (c8:Array Value),s'=(t:Int)/\t<=64/\w.heap=H'/\Ext [] H10 H'/\H'[H10.size]?=some (.cells c8 zab (0,0))/\c8.size=8/\Words c8 0 (Sha.rnd (Sha.W (Sha.word f)) s t) 8)
   (fun s _=>(64-s).toNat) ⟨0,_,_,rfl,by omega,hw12,(Ext.push _).set_own (.inl (Nat.le_refl _)),qg zn,by simp,zkx⟩ ?_
  clear hw12 hw11
  rintro _ w13 ⟨t,H13,c8,rfl,ht,hw13,hx13,hc8,hs8,hV⟩
  refine zq (fun hlt=>?_) (fun hge=>?_)
  ·have hlt:t < 64:=by omega
   have h7':=hx13.get h7 (by simp)
   generalize hVs:Sha.rnd (Sha.W (Sha.word f)) s t=V at *
   refine je hw13 hc8 (hV.at 4 (by omega)) ?_
   refine je hw13 hc8 (hV.at 0 (by omega)) ?_
   refine jl hw13 fun w14 hw14=>?_
   refine qdt _ ?_
   refine zen t rfl (by omega) ?_
   refine je hw14 hc8 (hV.at 7 (by omega)) ?_
   refine zbs (l:=[.int .u32]) _ (zog _ 6 rfl (by omega) (by omega) _) ?_
   refine zbs (l:=[.int .u32]) _ (zog _ 11 rfl (by omega) (by omega) _) ?_
   refine zv4 _ _ ?_
   refine zbs (l:=[.int .u32]) _ (zog _ 25 rfl (by omega) (by omega) _) ?_
   refine zv4 _ _ ?_
   refine zv7 _ _ ?_
   refine je hw14 hc8 (hV.at 5 (by omega)) ?_
   refine qbm _ _ ?_
   refine je hw14 hc8 (hV.at 6 (by omega)) ?_
   refine qbm _ _ ?_
   refine zv4 _ _ ?_
   refine zv7 _ _ ?_
   refine je hw14 h7' (hW.at t (by omega)) ?_
   refine zk (l:=[.int .u32]) (z6n hw14 hlt) ?_
   rintro e w15 ⟨rfl,hx15⟩
   refine⟨((Sha.K t).toNat:Int),rfl,?_⟩
   generalize hH15:w15.heap=H15 at *
   have hc15:=hx15.get hc8 (by simp)
   refine⟨je hH15 (hx15.get h7' (by simp)) (hW.at t (by omega)) rfl,je hH15 hc15 (hV.at 6 (by omega)) rfl,je hH15 hc15 (hV.at 5 (by omega)) rfl,je hH15 hc15 (hV.at 7 (by omega)) rfl,?_⟩
   refine zv7 _ _ ?_
   refine zv7 _ _ ?_
   refine jl hH15 fun w16 hw16=>?_
   refine zbs (l:=[.int .u32]) _ (zog _ 2 rfl (by omega) (by omega) _) ?_
   refine zbs (l:=[.int .u32]) _ (zog _ 13 rfl (by omega) (by omega) _) ?_
   refine zv4 _ _ ?_
   refine zbs (l:=[.int .u32]) _ (zog _ 22 rfl (by omega) (by omega) _) ?_
   refine zv4 _ _ ?_
   refine je hw16 hc15 (hV.at 1 (by omega)) ?_
   refine qbm _ _ ?_
   refine je hw16 hc15 (hV.at 2 (by omega)) ?_
   refine qbm _ _ ?_
   refine zv4 _ _ ?_
   refine je hw16 hc15 (hV.at 1 (by omega)) ?_
   refine je hw16 hc15 (hV.at 2 (by omega)) ?_
   refine qbm _ _ ?_
   refine zv4 _ _ ?_
   refine zv7 _ _ ?_
   refine jg (fun s' w=>∃ (j:Nat) (H':Heap) (c8:Array Value),s'=(j:Int)/\j<=7/\w.heap=H'/\Ext [] H10 H'/\H'[H10.size]?=some (.cells c8 zab (0,0))/\c8.size=8/\Words c8 0 (sh V j) 8)
    (fun s _=>s.toNat) ⟨7,_,_,rfl,by omega,hw16,hx13.trans hx15,hc15,hs8,hV.congr fun i hi=>by simp only [sh,if_pos (show i<=7 by omega)]⟩ ?_
   clear hc15 hw16 hx15 hx13 hc8 hs8 hV hH15 hw14 hw13 h7' c8
   rintro _ w17 ⟨j,H17,c8,rfl,hj,hw17,hx17,hc8,hs8,hV⟩
   refine zq (fun hltj=>?_) (fun hgej=>?_)
   ·have hltj:0 < j:=by omega
    refine zb0 ((j-1:Nat):Int) (by omega) (by omega) (by omega) ?_
    refine zen (j-1) rfl (by omega) ?_
    refine je hw17 hc8 (hV.at (j-1) (by omega)) ?_
    refine zen j rfl (by omega) ?_
    refine za9 hw17 hc8 (by omega) fun w18 hw18=>?_
    refine zb0 ((j-1:Nat):Int) (by omega) (by omega) (by omega) ?_
    refine⟨⟨j-1,_,_,rfl,by omega,hw18,hx17.set_own (.inl (Nat.le_refl _)),qg hc8,by simpa using hs8,(hV.put j (by omega) _).congr fun i hi=>?_⟩,by omega⟩
    simp only [sh]
    by_cases e:i=j
    ·subst e;simp only [if_true,if_pos (show i-1<=i by omega),if_neg (show ¬i<=i-1 by omega)]
    ·simp only [if_neg e]
     by_cases e2:i<=j
     ·rw [if_pos e2,if_pos (by omega)]
     ·rw [if_neg e2,if_neg (by omega)]
   have hj0:j=0:=by omega
   subst hj0
   refine je hw17 hc8 (hV.at 4 (by omega)) ?_
   refine zv7 _ _ ?_
   refine za9 hw17 hc8 (by omega) fun w18 hw18=>?_
   refine zv7 _ _ ?_
   refine za9 hw18 (qg hc8) (by simp;omega) fun w19 hw19=>?_
   rw [set_set] at hw19
   refine jd ((t+1:Nat):Int) (by omega) (by omega) (by omega) ?_
   refine⟨⟨t+1,_,_,rfl,by omega,hw19,hx17.set_own (.inl (Nat.le_refl _)),qg hc8,by simpa using hs8,((hV.put 4 (by omega) _).put 0 (by simp;omega) _).congr fun i hi=>?_⟩,by omega⟩
   simp only [Sha.rnd,hVs]
   match i,hi with
   | 0,_=>rfl
   | 1,_=>rfl
   | 2,_=>rfl
   | 3,_=>rfl
   | 4,_=>rfl
   | 5,_=>rfl
   | 6,_=>rfl
   | 7,_=>rfl
  have ht64:t=64:=by omega
  subst ht64
  clear hge ht
  have h613:=hx13.get h6' (by simp)
  have hne:Hp.size≠H10.size:=by have:=lt_of_get h6';omega
  have hx913:Ext [] Hp H13:=hx9.own (hx10.trans (hx13.mono (by simp))) (by simp;omega)
  have h713:=hx13.get h7 (by simp)
  refine jg (fun s' w=>∃ (t:Nat) (H':Heap) (c':Array Value),s'=(t:Int)/\t<=8/\w.heap=H'/\Ext [] Hp H'/\H'[Hp.size]?=some (.cells c' zab (0,0))/\c'.size=8/\H'[H10.size]?=some (.cells c8 zab (0,0)) /\
    Words c' 0 (Sha.comp s (Sha.word f)) t/\(∀ i,t<=i->c'[i]?=c6[i]?)/\H'[b7]?=some (.cells c7 zaq (0,0)))
   (fun s _=>(8-s).toNat) ⟨0,_,_,rfl,by omega,hw13,hx913,h613,hs6,hc8,fun i hi=>by omega,fun i _=>rfl,h713⟩ ?_
  rintro _ w14 ⟨t,H14,c',rfl,ht,hw14,hx14,hH14,hsz14,hc84,hV14,hold,h714⟩
  refine zq (fun hlt=>?_) (fun hge=>?_)
  ·have hlt:t < 8:=by omega
   refine jl hw14 fun w15 hw15=>?_
   refine zen t rfl (by omega) ?_
   refine zen t rfl (by omega) ?_
   refine je hw15 hH14 ((hold t (Nat.le_refl _)).trans (hV6.at t (by omega))) ?_
   refine je hw15 hc84 (hV.at t (by omega)) ?_
   refine zv7 _ _ ?_
   refine zen t rfl (by omega) ?_
   refine za9 hw15 hH14 (by omega) fun w16 hw16=>?_
   refine jd ((t+1:Nat):Int) (by omega) (by omega) (by omega) ?_
   refine⟨⟨t+1,_,_,rfl,by omega,hw16,hx14.set_own (.inl (Nat.le_refl _)),qg hH14,by simpa using hsz14,zfw hc84 (Ne.symm hne),hV14.snoc (by omega) rfl,?_,zfw h714 (by omega)⟩,by omega⟩
   intro i hi
   rw [Array.getElem?_setIfInBounds_ne (by omega)]
   exact hold i (by omega)
  have ht8:t=8:=by omega
  subst ht8
  refine jd ((64 * (k+1):Nat):Int) (by omega) (by omega) (by omega) ?_
  refine⟨⟨k+1,_,_,_,rfl,by omega,hw14,hx14,hH14,hsz14,?_,h714,hs7⟩,by omega⟩
  simp only [Sha.blocks,hs,hf]
  exact hV14
 have hkM:k=M.length / 64:=by simp only at hge;omega
 subst hkM
 refine jv hw9 fun w10 hw10=>?_
 generalize hs:Sha.blocks M (M.length / 64)=s at *
 refine jg (fun s' w=>∃ (i:Nat) (H':Heap) (c7:Array Value),s'=(i:Int)/\i<=32/\w.heap=H'/\Ext [] H9 H'/\H'[H9.size]?=some (.cells c7 zf (0,0))/\c7.size=32/\Bytes c7 0 (Sha.out s) i)
  (fun s _=>(32-s).toNat) ⟨0,_,_,rfl,by omega,hw10,.push _,zn,by rw [zv6];simp,fun i hi=>by omega⟩ ?_
 rintro _ w11 ⟨i,H11,c9,rfl,hi,hw11,hx11,hp11,hsz11,hB11⟩
 refine zq (fun hlt=>?_) (fun hge=>?_)
 ·have hlt:i < 32:=by omega
  refine z5t i 4 rfl rfl (by omega) (by omega) ?_
  refine zen (i / 4) rfl (by omega) ?_
  refine je hw11 (hx11.get h6 (by simp)) (hV6.at (i / 4) (by omega)) ?_
  refine zp8 i 4 rfl rfl (by omega) ?_
  refine zfy ((8 * (i % 4):Nat):Int) (by omega) (by omega) (by omega) ?_
  refine zb0 ((24-8 * (i % 4):Nat):Int) (by omega) (by omega) (by omega) ?_
  refine zfx (by omega) (by omega) ?_
  refine qbo _ (24-8 * (i % 4)) rfl (by omega) ?_
  refine cvL _ ?_
  refine zen i rfl (by omega) ?_
  refine za9 hw11 hp11 (by omega) fun w12 hw12=>?_
  refine jd ((i+1:Nat):Int) (by omega) (by omega) (by omega) ?_
  exact⟨⟨i+1,_,_,rfl,by omega,hw12,hx11.set_own (.inl (Nat.le_refl _)),qg hp11,by simpa using hsz11,hB11.snoc (by omega) rfl⟩,by omega⟩
 have hi32:i=32:=by omega
 subst hi32
 refine qx hw11 hp11 hsz11 ?_
 have hc7:c9=B8 (Sha.out s) 32:=by
  have:=hB11.extract (by omega)
  rw [<-this]
  exact (Array.extract_eq_self_of_le (by omega)).symm
 subst hc7
 have h211:H11[H.size]?=some (.cells (zc P zf) zf (0,0)):=hx11.get (hx9.get h2p (by simp)) (by simp)
 refine zaz (zoa.trans (by simp [Value.cells])) (by simp [Value.cells]) qem hw11 h211 (by rw [zv6];simp [Value.cells]) fun w12 hw12=>?_
 rw [show setCells (zc P zf) 0 (Value.cells (.agg (B8 (Sha.out s) 32))).toList=B8 (Sha.out s) 32 from by rw [zan (by rw [zv6];simp [Value.cells])];simp [Value.cells]] at hw12
 refine qx hw12 (qg h211) (by simp) ?_
 refine⟨?_,?_⟩
 ·unfold arr Sha.sum B8 byteCells
  rw [hM,hs]
  simp
 ·rw [hw12]
  exact ((hxp0.trans hx9).trans hx11).set_own (.inl (Nat.le_refl _))
theorem u27:P.underlying zf=some (.array 32 xg):=by kernel_rfl
theorem u5:P.underlying xg=some (.int .u8):=by kernel_rfl
theorem c5:P.cellsOf xg=1:=by kernel_rfl
theorem g27:P.eqGuardType P.depth zf=false:=by kernel_rfl
theorem u57:P.underlying ku=some (.map zf zi):=by kernel_rfl
theorem z22 (w:World):(zeroValue zi).run P w=.ok (.slice none 0 0) w:=by kernel_rfl
theorem K27:KeyOk P zf (List UInt8) (fun L=>L.length=32) arr:=.arr u27 u5 c5
theorem b27 (w:World):(Instr.build zf #[]).run P w=.ok (arr (List.replicate 32 0)) w:=by kernel_rfl
theorem b59 (a:Int) (m:Option Nat) (w:World):(Instr.build zgj #[(0,.int .i64 a),(2,.map m)]).run P w=.ok (.agg #[.int .i64 a,.int .i64 0,.map m]) w:=by kernel_rfl
abbrev BV:=(Option Addr×Nat×Nat)×List UInt8
abbrev SM:=ML (List UInt8) BV
def bv (x:BV):Value:=zbv x.1
def total (r:SM):Nat:=(r.map fun x=>x.2.1.2.length).sum
def zaa (r:SM) (k:List UInt8):Option (List UInt8):=(zbx r k).map (·.2)
def z1z (H:Heap) (fp:List Nat) (r:SM):Prop:=∀ x∈r,Mine H 0 xg 1 x.2.1.1 (byteCells x.2.1.2)/\∀ b∈jf x.2.1.1,b∈fp
def Apart (r:SM):Prop:=∀ x∈r,∀ y∈r,x.1≠y.1->∀ b∈jf x.2.1.1,b∉jf y.2.1.1
def Store (H:Heap) (fp:List Nat) (p:Nat) (q:Int) (r:SM) (c:Nat):Prop:=
 ∃ m,H[p]?=some (.cells #[.int .i64 q,.int .i64 (total r:Int),.map (some m)] zgj (0,0))/\H[m]?=some (.map (ents arr (vl bv r)) c)/\MOk (fun L=>L.length=32) r c/\p∈fp/\m∈fp/\z1z H fp r/\Apart r
theorem z1z.ext {M fp:List Nat}{H H':Heap}{r:SM}(h:z1z H fp r) (hx:Ext M H H') (hM:∀ b∈fp,b∉M):z1z H' fp r:=
 fun x hxr=>⟨(h x hxr).1.ext hx fun b hb=>hM b ((h x hxr).2 b hb),(h x hxr).2⟩
theorem Store.ext {M fp:List Nat}{H H':Heap}{p:Nat}{q:Int}{r:SM}{c:Nat}(h:Store H fp p q r c) (hx:Ext M H H') (hM:∀ b∈fp,b∉M):Store H' fp p q r c:=by
 obtain⟨m,h1,h2,h3,h4,h5,h6,h7⟩:=h
 exact⟨m,hx.get h1 (hM p h4),hx.get h2 (hM m h5),h3,h4,h5,h6.ext hx hM,h7⟩
theorem Store.lt {fp:List Nat}{H:Heap}{p:Nat}{q:Int}{r:SM}{c:Nat}(h:Store H fp p q r c):p < H.size:=by
 obtain⟨m,h1,_⟩:=h;exact lt_of_get h1
theorem zzb {w:World}{H:Heap}(q:Int) (hw:w.heap=H):qc P ziq #[.int .i64 q] w fun e w'=>∃ p fp,e=.returned (.pointer (some ⟨p,0,none⟩))/\Store w'.heap fp p (max q 0) [] 0/\Ext [] H w'.heap/\∀ b∈fp,H.size<=b/\b < w'.heap.size:=by
 refine z3q ?_
 unfold zxu
 refine qp (s:=.int .i64) (max q 0) ?_ ?_
 ·rw [run_max_int2]
  congr 2
  show (if (0:Int) > q then 0 else q)=max q 0
  split <;> omega
 refine zam (s:=.map) (some H.size) _ (zmr hw) ?_
 refine qp (s:=.any) _ (b59 _ _ _) ?_
 refine jv (H:=H.push (.map #[] 0)) rfl fun w2 hw2=>?_
 refine⟨(H.push (.map #[] 0)).size,[(H.push (.map #[] 0)).size,H.size],rfl,⟨H.size,?_,?_,.nil,by simp,by simp,(by intro x hx;cases hx),(by intro x hx;cases hx)⟩,?_,by rw [hw2];simp;omega⟩
 ·rw [hw2];exact zn
 ·rw [hw2];exact zeq zn
 ·rw [hw2];exact (Ext.push _).push_own
theorem qan {w:World}{H:Heap}{a:Option Addr}{l lc:Nat}{L:List UInt8}(hw:w.heap=H) (hL:Cells H a (byteCells L)) (hl:l=L.length) (hlen:L.length < 140000000000000) :
  qc P zci #[.slice a l lc] w fun e w'=>∃ x,e=.returned (zbv x)/\Mine w'.heap H.size xg 1 x (byteCells L)/\Ext [] H w'.heap:=by
 subst hl
 refine ziz ?_
 unfold zfu
 cases a with
 | none=>
  refine zah rfl ?_
  have:byteCells L=[]:=by rcases hL with h | ⟨b,o,c,T,fr,h,_⟩;exact h;cases h
  exact⟨(none,0,0),rfl,.inl ⟨rfl,this⟩,by rw [hw];exact .refl _ _⟩
 | some a=>
  refine jm rfl ?_
  refine zam (s:=.slc) (some ⟨H.size,0,none⟩,0,0) { w with heap:=H.push (.cells #[] xg) } (by rw [<-hw];kernel_rfl) ?_
  have hxp:Ext [] H (H.push (.cells #[] xg)):=.push _
  have hO:Mine (H.push (.cells #[] xg)) H.size xg 1 (some ⟨H.size,0,none⟩,0,0) []:=.inr ⟨H.size,#[],rfl,Nat.le_refl _,zn,rfl,rfl,Nat.le_refl _,rfl⟩
  refine zth (w:={ w with heap:=H.push (.cells #[] xg) }) rfl hO (by simp) (Src.slc rfl (hL.ext hxp (by simp)) (by simp [byteCells])) jr (by simp only;omega) ?_
  intro x2 w2 hO2 hl2 hx2 hm2
  rw [List.nil_append] at hO2
  exact⟨x2,rfl,hO2,hxp.own hx2 (by intro b hb;simp [jf] at hb;omega)⟩
theorem qe8 {w:World}{H:Heap}{fp:List Nat}{p:Nat}{q:Int}{r:SM}{c:Nat}(hw:w.heap=H) (hS:Store H fp p q r c):qc P zg3 #[.pointer (some ⟨p,0,none⟩)] w fun e w'=>e=.returned (.int .i64 (r.length:Int))/\w'=w:=by
 obtain⟨m,h1,h2,_⟩:=hS
 refine zo3 ?_
 unfold zjq
 refine jm rfl ?_
 simp only [zy]
 refine je (t:=some m) hw h1 rfl ?_
 refine qp (s:=.int .i64) _ (qag u57 hw h2) ?_
 exact⟨rfl,trivial⟩
theorem z2z {w:World}{H:Heap}{fp:List Nat}{p:Nat}{q:Int}{r:SM}{c:Nat}(hw:w.heap=H) (hS:Store H fp p q r c):qc P zg0 #[.pointer (some ⟨p,0,none⟩)] w fun e w'=>e=.returned (.int .i64 (total r:Int))/\w'=w:=by
 obtain⟨m,h1,h2,_⟩:=hS
 refine zo6 ?_
 unfold zjr
 refine jm rfl ?_
 simp only [zy]
 exact je (t:=(total r:Int)) hw h1 rfl ⟨rfl,trivial⟩
theorem zt4 {r:SM}{c:Nat}(h:MOk (fun L=>L.length=32) r c){k:List UInt8}{v:BV}(hg:zbx r k=some v):∃ b,(k,v,b)∈r/\k.length=32:=by
 obtain⟨b,hb⟩:=zct hg
 exact⟨b,hb,h.fine _ hb⟩
def got (o:Option (List UInt8)) (k:List UInt8):Int:=match o with | none=>50 | some L=>if Sha.sum L=k then 0 else 51
theorem qdd {w:World}{H:Heap}{fp:List Nat}{p:Nat}{q:Int}{r:SM}{c:Nat}{k:List UInt8}(hw:w.heap=H) (hS:Store H fp p q r c) (hk:k.length=32) (hR:Rounds H) (hlen:∀ L,zaa r k=some L->L.length < 1099511627776) :
  qc P zex #[.pointer (some ⟨p,0,none⟩),arr k] w fun e w'=>∃ x,e=.returned (.tuple #[zbv x,.int .i64 (got (zaa r k) k)])/\Ext [] H w'.heap /\
   (got (zaa r k) k=0->∃ L,zaa r k=some L/\Mine w'.heap H.size xg 1 x (byteCells L))/\(got (zaa r k) k≠0->x=(none,0,0)):=by
 obtain⟨m,h1,h2,h3,h4,h5,h6,h7⟩:=hS
 refine zrq ?_
 unfold zlt
 refine jv hw fun w1 hw1=>?_
 have hx1:Ext [] H (H.push (.cells (Value.cells (arr k)) zf (0,0))):=.push _
 generalize hH1:H.push (.cells (Value.cells (arr k)) zf (0,0))=H1 at *
 have hk1:H1[H.size]?=some (.cells (byteCells k).toArray zf (0,0)):=by rw [<-hH1];exact zn
 refine jm rfl ?_
 refine jl hw1 fun w2 hw2=>?_
 simp only [zy]
 refine je (t:=some m) hw2 (hx1.get h1 (by simp)) rfl ?_
 refine qx hw2 hk1 (by simp [byteCells,hk]) ?_
 cases hg:zbx r k with
 | none=>
  have hv:zaa r k=none:=by simp [zaa,hg]
  rw [hv]
  refine zhh (l:=[.slc,.bool]) ((none,0,0),false) (by refine (zfl K27 u57 z22 hw2 (hx1.get h2 (by simp)) h3 hk).trans ?_;rw [hg];rfl) ?_
  refine zah rfl ?_
  exact⟨(none,0,0),rfl,by rw [hw2];exact hx1,(by intro h;simp [got] at h),fun _=>rfl⟩
 | some v=>
  have hv:zaa r k=some v.2:=by simp [zaa,hg]
  obtain⟨b,hb,_⟩:=zt4 h3 hg
  obtain⟨hO,hOf⟩:=h6 _ hb
  have hO:Mine H 0 xg 1 v.1 (byteCells v.2):=hO
  have hlv:=hlen _ hv
  rw [hv]
  refine zhh (l:=[.slc,.bool]) (v.1,true) (by refine (zfl K27 u57 z22 hw2 (hx1.get h2 (by simp)) h3 hk).trans ?_;rw [hg];rfl) ?_
  refine jm rfl ?_
  refine jl hw2 fun w3 hw3=>?_
  refine qx hw3 hk1 (by simp [byteCells,hk]) ?_
  have hO1:=hO.ext hx1 (by simp)
  have hlen1:=hO.len
  have hle:v.1.2.1<=v.1.2.2:=by
   rcases hO with⟨h,_⟩ | ⟨_,_,_,_,_,_,_,h,_⟩
   ·rw [h];exact Nat.le_refl _
   ·exact h
  refine zk (z7t hw3 hO1.cells (by rw [<-ji,hlen1,Nat.mul_one]) hle (hR.ext hx1 (by simp)) (by omega)) ?_
  rintro e w4 ⟨rfl,hx4⟩
  refine⟨arr (Sha.sum v.2),rfl,?_⟩
  refine⟨qx rfl (hx4.get hk1 (by simp)) (by simp [byteCells,hk]) rfl,?_⟩
  refine qp (s:=.bool) _ (ztr u27 u5 c5 g27 zad hk) ?_
  by_cases hs:Sha.sum v.2=k
  ·refine jm (by simp [hs]) ?_
   refine zk (qan rfl (hO1.ext hx4 (by simp)).cells (by rw [<-ji,hlen1,Nat.mul_one]) (by omega)) ?_
   rintro e w5 ⟨x,rfl,hxO,hx5⟩
   refine⟨x,rfl,?_⟩
   have hgot:got (some v.2) k=0:=by simp [got,hs]
   refine⟨x,by rw [hgot];rfl,(hx1.trans hx4).trans hx5,fun _=>⟨_,rfl,hxO.mono (hx1.trans hx4).1⟩,fun h=>absurd hgot h⟩
  ·refine zah (by simp [hs]) ?_
   have hgot:got (some v.2) k=51:=by simp [got,hs]
   exact⟨(none,0,0),by rw [hgot];rfl,hx1.trans hx4,(fun h=>by rw [hgot] at h;cases h),fun _=>rfl⟩
theorem z1g {r:SM}{c:Nat}(h:MOk (fun L=>L.length=32) r c){k:List UInt8}{v:BV}(hg:zbx r k=some v):total (zl7 r k)+v.2.length=total r:=by
 have hk:=h.keys
 clear h
 induction r with
 | nil=>simp [zbx] at hg
 | cons x r ih=>
  simp only [List.map_cons,List.nodup_cons] at hk
  by_cases e:x.1=k
  ·rw [zb4 e,Option.some.injEq] at hg
   rw [zmy e,zpd fun y hy h=>hk.1 (by rw [e,<-h];exact List.mem_map.2 ⟨y,hy,rfl⟩),<-hg]
   simp [total,Nat.add_comm]
  ·rw [zb3 e] at hg
   have:=ih hg hk.2
   rw [zmx e]
   simp only [total,List.map_cons,List.sum_cons] at this |-
   omega
theorem zy4 {r:SM}{k:List UInt8}{x:List UInt8×BV×Nat}(h:x∈zl7 r k):x∈r:=(List.mem_filter.1 h).1
theorem zx6 {r:SM}{k k':List UInt8}:zaa (zl7 r k) k'=if k'=k then none else zaa r k':=by
 unfold zaa;rw [qdv];split <;> rfl
theorem qgy {w:World}{H:Heap}{fp:List Nat}{p:Nat}{q:Int}{r:SM}{c:Nat}{k:List UInt8}(hw:w.heap=H) (hS:Store H fp p q r c) (hk:k.length=32) (ht:total r < 1125899906842624) :
  qc P zhg #[.pointer (some ⟨p,0,none⟩),arr k] w fun e w'=>e=.returned (.int .i64 (if (zaa r k).isSome then 0 else 50))/\Store w'.heap fp p q (zl7 r k) c/\Ext fp H w'.heap:=by
 have hS0:=hS
 obtain⟨m,h1,h2,h3,h4,h5,h6,h7⟩:=hS
 refine zpi ?_
 unfold zks
 refine jv hw fun w1 hw1=>?_
 have hx1:Ext [] H (H.push (.cells (Value.cells (arr k)) zf (0,0))):=.push _
 generalize hH1:H.push (.cells (Value.cells (arr k)) zf (0,0))=H1 at *
 have hk1:H1[H.size]?=some (.cells (byteCells k).toArray zf (0,0)):=by rw [<-hH1];exact zn
 refine jm rfl ?_
 refine jl hw1 fun w2 hw2=>?_
 simp only [zy]
 refine je (t:=some m) hw2 (hx1.get h1 (by simp)) rfl ?_
 refine qx hw2 hk1 (by simp [byteCells,hk]) ?_
 cases hg:zbx r k with
 | none=>
  have hv:zaa r k=none:=by simp [zaa,hg]
  rw [hv]
  refine zhh (l:=[.slc,.bool]) ((none,0,0),false) (by refine (zfl K27 u57 z22 hw2 (hx1.get h2 (by simp)) h3 hk).trans ?_;rw [hg];rfl) ?_
  refine zah rfl ?_
  have:zl7 r k=r:=zpd (zmm hg)
  exact⟨rfl,by rw [hw2,this];exact hS0.ext hx1 (by simp),by rw [hw2];exact hx1.mono (by simp)⟩
 | some v=>
  have hv:zaa r k=some v.2:=by simp [zaa,hg]
  obtain⟨b,hb,_⟩:=zt4 h3 hg
  obtain⟨hO,hOf⟩:=h6 _ hb
  have hO:Mine H 0 xg 1 v.1 (byteCells v.2):=hO
  have htd:=z1g h3 hg
  have hvl:v.2.length=v.1.2.1:=by have:=hO.len;rw [ji] at this;omega
  rw [hv]
  refine zhh (l:=[.slc,.bool]) (v.1,true) (by refine (zfl K27 u57 z22 hw2 (hx1.get h2 (by simp)) h3 hk).trans ?_;rw [hg];rfl) ?_
  refine jm rfl ?_
  have hp1:=hx1.get h1 (by simp)
  refine je (t:=(total r:Int)) hw2 hp1 rfl ?_
  refine zb0 ((total (zl7 r k):Nat):Int) (by simp only;omega) (by omega) (by omega) ?_
  refine za9 hw2 hp1 (by simp) fun w3 hw3=>?_
  refine jl hw3 fun w4 hw4=>?_
  have hpH:p < H.size:=lt_of_get h1
  have hpm:p≠m:=by
   intro e;rw [e] at h1;rw [h1] at h2;cases h2
  have hp3:w3.heap[p]?=some (.cells #[Value.int .i64 q,.int .i64 (total (zl7 r k):Int),.map (some m)] zgj (0,0)):=by rw [hw3];exact qg hp1
  have hm3:w3.heap[m]?=some (.map (ents arr (vl bv r)) c):=by rw [hw3];exact zfw (hx1.get h2 (by simp)) (Ne.symm hpm)
  have hk3:w3.heap[H.size]?=some (.cells (byteCells k).toArray zf (0,0)):=by rw [hw3];exact zfw hk1 (show H.size≠p by omega)
  have hx3:Ext [p] H w3.heap:=by rw [hw3];exact (hx1.mono (by simp)).trans (Ext.set _ (by simp))
  rw [<-hw3] at hw4
  generalize w3.heap=H3 at *
  refine je (t:=some m) hw4 hp3 rfl ?_
  refine qx hw4 hk3 (by simp [byteCells,hk]) ?_
  refine zam (s:=.any) _ _ (qcz K27 u57 hw4 hm3 h3 hk) ?_
  have hx5:Ext [p,m] H (H3.setIfInBounds m (.map (ents arr (vl bv (zl7 r k))) c)):=(hx3.mono (by simp)).trans (Ext.set _ (by simp))
  refine⟨rfl,⟨m,zfw hp3 hpm,qg hm3,h3.del k,h4,h5,?_,?_⟩,hx5.mono (by simp [h4,h5])⟩
  ·intro x hx
   obtain⟨hO',hf'⟩:=h6 x (zy4 hx)
   refine⟨hO'.ext hx5 ?_,hf'⟩
   intro b hb
   rcases hO' with⟨h,_⟩ | ⟨bb,cc,h,_,hbb,_⟩
   ·simp [jf,h] at hb
   ·simp only [jf,h,List.mem_singleton] at hb
    subst hb
    simp only [List.mem_cons,List.not_mem_nil,or_false,not_or]
    exact⟨fun e=>(by rw [e,h1] at hbb;cases hbb),fun e=>(by rw [e,h2] at hbb;cases hbb)⟩
  ·intro x hx y hy
   exact h7 x (zy4 hx) y (zy4 hy)
def spoilt (L:List UInt8) (at_:Int) (t:UInt8):List UInt8:=L.set at_.toNat (L.getD at_.toNat 0 ^^^ t)
def zcp (o:Option (List UInt8)) (at_:Int) (t:UInt8):Int:=match o with | none=>50 | some L=>if at_ < 0\/(L.length:Int)<=at_\/t=0 then 1 else 0
theorem qfg {w:World}{H:Heap}{fp:List Nat}{p:Nat}{q:Int}{r:SM}{c:Nat}{k:List UInt8}{at_:Int}{t:UInt8}(hw:w.heap=H) (hS:Store H fp p q r c) (hk:k.length=32) :
  qc P zg4 #[.pointer (some ⟨p,0,none⟩),arr k,.int .i64 at_,.int .u8 (t.toNat:Int)] w fun e w'=>e=.returned (.int .i64 (zcp (zaa r k) at_ t))/\∃ r',Store w'.heap fp p q r' c/\Ext fp H w'.heap /\
   total r'=total r/\r'.length=r.length/\∀ k',zaa r' k'=if zcp (zaa r k) at_ t=0/\k'=k then (zaa r k).map fun L=>spoilt L at_ t else zaa r k':=by
 have hS0:=hS
 obtain⟨m,h1,h2,h3,h4,h5,h6,h7⟩:=hS
 refine zor ?_
 unfold zji
 refine jv hw fun w1 hw1=>?_
 have hx1:Ext [] H (H.push (.cells (Value.cells (arr k)) zf (0,0))):=.push _
 generalize hH1:H.push (.cells (Value.cells (arr k)) zf (0,0))=H1 at *
 have hk1:H1[H.size]?=some (.cells (byteCells k).toArray zf (0,0)):=by rw [<-hH1];exact zn
 refine jm rfl ?_
 refine jl hw1 fun w2 hw2=>?_
 simp only [zy]
 refine je (t:=some m) hw2 (hx1.get h1 (by simp)) rfl ?_
 refine qx hw2 hk1 (by simp [byteCells,hk]) ?_
 have keep:∀ (C:Int),C≠0->zcp (zaa r k) at_ t=C->(Ending.returned (.int .i64 C)=Ending.returned (.int .i64 (zcp (zaa r k) at_ t))/\∃ r',Store w2.heap fp p q r' c/\Ext fp H w2.heap /\
   total r'=total r/\r'.length=r.length/\∀ k',zaa r' k'=if zcp (zaa r k) at_ t=0/\k'=k then (zaa r k).map fun L=>spoilt L at_ t else zaa r k'):=by
  intro C hC hs
  refine⟨by rw [hs],r,by rw [hw2];exact hS0.ext hx1 (by simp),by rw [hw2];exact hx1.mono (by simp),rfl,rfl,fun k'=>?_⟩
  rw [if_neg (by rw [hs];exact fun h=>hC h.1)]
 cases hg:zbx r k with
 | none=>
  have hv:zaa r k=none:=by simp [zaa,hg]
  refine zhh (l:=[.slc,.bool]) ((none,0,0),false) (by refine (zfl K27 u57 z22 hw2 (hx1.get h2 (by simp)) h3 hk).trans ?_;rw [hg];rfl) ?_
  refine zah rfl ?_
  exact keep 50 (by omega) (by rw [hv];rfl)
 | some v=>
  have hv:zaa r k=some v.2:=by simp [zaa,hg]
  obtain⟨b,hb,_⟩:=zt4 h3 hg
  obtain⟨hO,hOf⟩:=h6 _ hb
  have hO:Mine H 0 xg 1 v.1 (byteCells v.2):=hO
  have hvl:v.2.length=v.1.2.1:=by have:=hO.len;rw [ji] at this;omega
  refine zhh (l:=[.slc,.bool]) (v.1,true) (by refine (zfl K27 u57 z22 hw2 (hx1.get h2 (by simp)) h3 hk).trans ?_;rw [hg];rfl) ?_
  refine jm rfl ?_
  have one:∀ h:at_ < 0\/(v.2.length:Int)<=at_\/t=0,zcp (zaa r k) at_ t=1:=by intro h;rw [hv];simp only [zcp,if_pos h]
  refine zal ?_
  refine zq (fun h=>keep 1 (by omega) (one (.inl h))) (fun ha0=>?_)
  refine zq (fun h=>keep 1 (by omega) (one (.inr (.inl (by simp only at h;omega))))) (fun hal=>?_)
  refine zax (fun h=>keep 1 (by omega) (one (.inr (.inr (UInt8.toNat_inj.1 (by simpa using h)))))) (fun ht=>?_)
  obtain⟨i,rfl⟩:∃ i:Nat,at_=(i:Int):=⟨at_.toNat,by omega⟩
  have hil:i < v.2.length:=by simp only at hal;omega
  have hs0:zcp (zaa r k) (i:Int) t=0:=by
   rw [hv]
   simp only [zcp]
   rw [if_neg]
   rintro (h | h | h)
   ·omega
   ·omega
   ·subst h;exact ht rfl
  obtain⟨bb,cc,hxa,hbb,hic,hci,hput⟩:=(hO.ext hx1 (by simp)).put (i:=i) (by simpa using hil) (.int .u8 ((v.2.getD i 0 ^^^ t).toNat:Int))
  have hva:v.1.1=some ⟨bb,0,none⟩:=hxa
  simp only
  rw [hva]
  refine zkt i rfl (by omega) ?_
  rw [Nat.zero_add]
  refine je (t:=((v.2.getD i 0).toNat:Int)) hw2 hbb (by rw [hci,zdi hil];rfl) ?_
  refine qjz _ _ ?_
  refine zkt i rfl (by omega) ?_
  rw [Nat.zero_add]
  refine za9 hw2 hbb hic fun w3 hw3=>?_
  rw [<-hw3] at hput
  have hbf:bb∈fp:=hOf bb (by simp only [jf];rw [hva];simp)
  have hx3:Ext [bb] H w3.heap:=by rw [hw3];exact (hx1.mono (by simp)).trans (Ext.set _ (by simp))
  have hbl:bb < H.size:=by
   rcases hO with⟨h,_⟩ | ⟨b2,c2,h,_,hb2,_⟩
   ·rw [h] at hva;cases hva
   ·rw [hva] at h;cases h;exact lt_of_get hb2
  have hbb0:H[bb]?=some (.cells cc xg (0,0)):=by
   have:=hx1.2 bb hbl (by simp)
   rw [<-this,hbb]
  have hmd:(zbx r k).isSome=true:=by rw [hg];rfl
  have hvb:vl bv (zje r k (v.1,spoilt v.2 (i:Int) t) c)=vl bv r:=by
   rw [zfz hmd]
   simp only [vl,List.map_map]
   apply List.map_congr_left
   intro x hx
   simp only [Function.comp]
   by_cases e:x.1=k
   ·have:=zev h3.keys (k:=x.1) (v:=x.2.1) (c:=x.2.2) hx
    rw [e,hg] at this
    simp only [if_pos e]
    cases this
    rfl
   ·simp only [if_neg e]
  have hmemr:∀ x∈zje r k (v.1,spoilt v.2 (i:Int) t) c,(x.1=k/\x.2.1=(v.1,spoilt v.2 (i:Int) t))\/(x.1≠k/\x∈r):=by
   intro x hx
   rw [zfz hmd] at hx
   obtain⟨y,hy,rfl⟩:=List.mem_map.1 hx
   by_cases e:y.1=k
   ·rw [if_pos e];exact .inl ⟨e,rfl⟩
   ·rw [if_neg e];exact .inr ⟨e,hy⟩
  have hok:=h3.upd (k:=k) hk (v.1,spoilt v.2 (i:Int) t)
  rw [show zn1 r k c=c from by simp [zn1,hg]] at hok
  have hlen:(spoilt v.2 (i:Int) t).length=v.2.length:=by simp [spoilt]
  have hsp:byteCells (spoilt v.2 (i:Int) t)=(byteCells v.2).set i (.int .u8 ((v.2.getD i 0 ^^^ t).toNat:Int)):=by
   simp only [spoilt,byteCells,Int.toNat_natCast,List.map_set]
  refine⟨by rw [hs0],zje r k (v.1,spoilt v.2 (i:Int) t) c,?_,hx3.mono (by simpa using hbf),?_,?_,?_⟩
  ·have htot:total (zje r k (v.1,spoilt v.2 (i:Int) t) c)=total r:=by
    rw [zfz hmd]
    simp only [total,List.map_map]
    congr 1
    apply List.map_congr_left
    intro x hx
    simp only [Function.comp]
    by_cases e:x.1=k
    ·have:=zev h3.keys (k:=x.1) (v:=x.2.1) (c:=x.2.2) hx
     rw [e,hg] at this
     simp only [if_pos e]
     cases this
     exact hlen
    ·simp only [if_neg e]
   refine⟨m,?_,?_,hok,h4,h5,?_,?_⟩
   ·rw [htot]
    exact hx3.get h1 (by simp only [List.mem_singleton];intro e;rw [<-e,h1] at hbb0;cases hbb0)
   ·rw [hvb]
    exact hx3.get h2 (by simp only [List.mem_singleton];intro e;rw [<-e,h2] at hbb0;cases hbb0)
   ·intro x hx
    rcases hmemr x hx with⟨e,hx2⟩ | ⟨e,hx2⟩
    ·rw [hx2]
     refine⟨?_,hOf⟩
     rw [hsp];exact hput
    ·refine⟨(h6 x hx2).1.ext hx3 fun b' hb'=>?_,(h6 x hx2).2⟩
     simp only [List.mem_singleton]
     intro e'
     exact h7 x hx2 _ hb e b' hb' (by simp only [jf];rw [hva];simp [e'])
   ·intro x hx y hy hne
    have sl:∀ z∈zje r k (v.1,spoilt v.2 (i:Int) t) c,∃ z'∈r,z'.1=z.1/\z'.2.1.1=z.2.1.1:=by
     intro z hz
     rcases hmemr z hz with⟨e,hz2⟩ | ⟨e,hz2⟩
     ·exact⟨_,hb,e.symm,by rw [hz2]⟩
     ·exact⟨z,hz2,rfl,rfl⟩
    obtain⟨x',hx',ex1,ex2⟩:=sl x hx
    obtain⟨y',hy',ey1,ey2⟩:=sl y hy
    rw [<-ex2,<-ey2]
    exact h7 x' hx' y' hy' (by rw [ex1,ey1];exact hne)
  ·rw [zfz hmd]
   simp only [total,List.map_map]
   congr 1
   apply List.map_congr_left
   intro x hx
   simp only [Function.comp]
   by_cases e:x.1=k
   ·have:=zev h3.keys (k:=x.1) (v:=x.2.1) (c:=x.2.2) hx
    rw [e,hg] at this
    simp only [if_pos e]
    cases this
    exact hlen
   ·simp only [if_neg e]
  ·rw [zfz hmd];simp
  ·intro k'
   rw [hs0]
   simp only [zaa,znl,true_and]
   by_cases e:k'=k
   ·subst e;simp [hg]
   ·simp [e]
abbrev BL:=List (List UInt8×List UInt8)
def zoh (F:BL) (k:List UInt8):Option (List UInt8):=(F.find? fun x=>x.1==k).map (·.2)
def zrf (F:BL) (L:List UInt8):BL:=if (zoh F (Sha.sum L)).isSome then F else F++[(Sha.sum L,L)]
def fresh (Ls:List (List UInt8)):BL:=Ls.foldl zrf []
def extra (r:SM) (F:BL):Nat:=((F.filter fun x=>(zaa r x.1).isNone).map fun x=>x.2.length).sum
def zv3 (V:Option (List UInt8)) (o:Option (List UInt8)) (k:List UInt8):Option (List UInt8):=match o with
 | none=>V
 | some L=>match V with
  | none=>some L
  | some old=>if Sha.sum old=k then some old else some L
def long (Ls:List (List UInt8)):Prop:=∃ L∈Ls,4096 < L.length
def Rows (H:Heap) (a:Option Addr) (n:Nat) (Ls:List (List UInt8)):Prop:=n=Ls.length/\∀ i (h:i < Ls.length),∃ b o c T fr x,a=some ⟨b,o,none⟩/\H[b]?=some (.cells c T fr)/\c[o+i]?=some (zbv x)/\Cells H x.1 (byteCells Ls[i]) /\
 x.2.1=Ls[i].length/\x.2.1<=x.2.2
def view (fr:SM):BL:=fr.map fun x=>(x.1,x.2.1.2)
theorem zqn {fr:SM}{k:List UInt8}:zoh (view fr) k=zaa fr k:=by
 induction fr with
 | nil=>rfl
 | cons x l ih=>
  simp only [zoh,view,List.map_cons,List.find?_cons] at ih |-
  unfold zaa
  by_cases e:x.1=k
  ·rw [zb4 e];simp [e]
  ·rw [zb3 e]
   have:(x.1==k)=false:=by simp [e]
   simp only [this]
   exact ih
theorem zra {Ls:List (List UInt8)}{i:Nat}(h:i < Ls.length):fresh (Ls.take (i+1))=zrf (fresh (Ls.take i)) Ls[i]:=by
 unfold fresh
 rw [List.take_add_one,List.getElem?_eq_getElem h,Option.toList_some,List.foldl_append]
 rfl
theorem Store.mono {H:Heap}{fp fp':List Nat}{p:Nat}{q:Int}{r:SM}{c:Nat}(h:Store H fp p q r c) (hf:∀ b∈fp,b∈fp'):Store H fp' p q r c:=by
 obtain⟨m,h1,h2,h3,h4,h5,h6,h7⟩:=h
 exact⟨m,h1,h2,h3,hf p h4,hf m h5,fun x hx=>⟨(h6 x hx).1,fun b hb=>hf b ((h6 x hx).2 b hb)⟩,h7⟩
def qbl (r:SM) (k:List UInt8):Nat:=match zaa r k with | none=>0 | some L=>L.length
theorem z0v {r:SM}{c c':Nat}(h:MOk (fun L=>L.length=32) r c){k:List UInt8}{v:BV}:total (zje r k v c')+qbl r k=total r+v.2.length:=by
 unfold qbl zaa
 cases hg:zbx r k with
 | none=>
  rw [zkm hg]
  simp [total]
 | some v'=>
  rw [zfz (by rw [hg];rfl)]
  simp only [Option.map_some]
  have hk:=h.keys
  clear h
  induction r with
  | nil=>simp [zbx] at hg
  | cons x r ih=>
   simp only [List.map_cons,List.nodup_cons] at hk
   by_cases e:x.1=k
   ·rw [zb4 e,Option.some.injEq] at hg
    have:r.map (fun x=>if x.1=k then (x.1,v,x.2.2) else x)=r:=by
     rw [List.map_congr_left (g:=id),List.map_id]
     intro y hy
     rw [if_neg];rfl
     intro h;exact hk.1 (by rw [e,<-h];exact List.mem_map.2 ⟨y,hy,rfl⟩)
    rw [List.map_cons,if_pos e,this,<-hg]
    simp only [total,List.map_cons,List.sum_cons]
    omega
   ·rw [zb3 e] at hg
    have:=ih hg hk.2
    rw [List.map_cons,if_neg e]
    simp only [total,List.map_cons,List.sum_cons] at this |-
    omega
theorem qdr {r:SM}{k k':List UInt8}{v:BV}{c:Nat}:zaa (zje r k v c) k'=if k'=k then some v.2 else zaa r k':=by
 unfold zaa;rw [znl];split <;> rfl
def Ph1 (H:Heap) (r:SM) (Ls:List (List UInt8)) (i:Nat) (x:Int) (w:World):Prop:=
 ∃ (fr:SM) (cf:Nat),i<=Ls.length/\x=(extra r (view fr):Int)/\view fr=fresh (Ls.take i)/\Ext [] H w.heap/\w.heap[H.size]?=some (.map (ents arr (vl bv fr)) cf)/\MOk (fun L=>L.length=32) fr cf/\fr.length<=i /\
  (∀ x∈fr,Mine w.heap H.size xg 1 x.2.1.1 (byteCells x.2.1.2)/\x.2.1.2.length<=4096)/\Apart fr/\(∀ L∈Ls.take i,L.length<=4096)
theorem z5u {r:SM}{fr:SM}(h:∀ x∈fr,x.2.1.2.length<=4096):extra r (view fr)<=4096 * fr.length:=by
 induction fr with
 | nil=>simp [extra,view]
 | cons x l ih=>
  have h1:=ih fun y hy=>h y (by simp [hy])
  have h2:=h x (by simp)
  simp only [extra,view,List.map_cons,List.filter_cons] at h1 |-
  split
  ·simp only [List.map_cons,List.sum_cons,List.length_cons];omega
  ·simp only [List.length_cons];omega
def Ph3 (H:Heap) (fp:List Nat) (p:Nat) (q:Int) (r fr:SM) (cf it:Nat) (n:Nat) (w:World):Prop:=
 ∃ (seen:Array Nat) (r':SM) (c':Nat),Store w.heap (fp++fr.flatMap fun x=>jf x.2.1.1) p q r' c'/\Ext fp H w.heap/\w.heap[H.size]?=some (.map (ents arr (vl bv fr)) cf)/\w.heap[it]?=some (.mapIter (some H.size) cf seen cf)/\H.size<=it /\
  (∀ x∈fr,Mine w.heap H.size xg 1 x.2.1.1 (byteCells x.2.1.2))/\(∀ k,zaa r' k=if ∃ x∈fr,x.1=k/\x.2.2∈seen then zv3 (zaa r k) (zaa fr k) k else zaa r k) /\
  n=(fr.filter fun y=>!seen.contains y.2.2).length/\total r'+4096 * n<=total r+4096 * fr.length/\(∀ y∈r',(∀ b∈jf y.2.1.1,b∈fp)\/∃ z∈fr,z.1=y.1/\z.2.1=y.2.1)
def zkn (q:Int) (r:SM) (Ls:List (List UInt8)) (code:Int) (r':SM):Prop:=
 (long Ls->code=2/\r'=r)/\(¬long Ls->q < total r+extra r (fresh Ls)->code=3/\r'=r) /\
 (¬long Ls->¬q < total r+extra r (fresh Ls)->code=0/\∀ k,zaa r' k=zv3 (zaa r k) (zoh (fresh Ls) k) k)
set_option maxHeartbeats 8000000 in
theorem z4o {w:World}{H:Heap}{fp:List Nat}{p:Nat}{q:Int}{r:SM}{c:Nat}{a:Option Addr}{n nc:Nat}{Ls:List (List UInt8)}(hw:w.heap=H) (hS:Store H fp p q r c) (hfp:∀ b∈fp,b < H.size) (hR:Rounds H) (h0:0∉fp)
  (hL:Rows H a n Ls) (hb:total r+4096 * Ls.length < 1125899906842624) (hq:0<=q) (hq2:q<=9223372036854775807) (hlen:∀ k L,zaa r k=some L->L.length < 1099511627776) :
  qc P zeu #[.pointer (some ⟨p,0,none⟩),.slice a n nc] w fun e w'=>∃ code r' c' fp',e=.returned (.int .i64 code)/\Store w'.heap fp' p q r' c'/\Ext fp H w'.heap/\(∀ b∈fp',b < w'.heap.size)/\(∀ b∈fp',b∈fp\/H.size<=b)/\zkn q r Ls code r' /\
   total r'<=total r+4096 * Ls.length:=by
 obtain⟨rfl,hL⟩:=hL
 have hH0:0 < H.size:=by obtain⟨_,_,_,h,_⟩:=hR;exact lt_of_get h
 refine zns ?_
 unfold ziu
 refine jm rfl ?_
 refine zam (s:=.map) (some H.size) _ (zmr hw) ?_
 refine jg (fun (s:Int×Int) w=>∃ i:Nat,s.2=(i:Int)/\Ph1 H r Ls i s.1 w) (fun s _=>(Ls.length-s.2).toNat) ⟨0,rfl,[],0,by omega,rfl,rfl,.push _,zn,.nil,by simp,(by intro x hx;cases hx),(by intro x hx;cases hx),(by simp)⟩ ?_
 rintro ⟨x,_⟩ w2 ⟨i,rfl,fr,cf,hi,rfl,hF,hx2,hm2,hok,hfl,hown,hap,hsm⟩
 refine zq (fun hlt=>?_) (fun hge=>?_)
 ·have hlt:i < Ls.length:=by simp only at hlt;omega
  refine joinP_of (fun s w=>Ph1 H r Ls (i+1) s w) ?_ ?_
  rotate_left
  ·intro s2 w3 h3
   refine jd ((i+1:Nat):Int) (by simp only;omega) (by omega) (by omega) ?_
   exact⟨⟨i+1,rfl,h3⟩,by simp only;omega⟩
  obtain⟨ba,oa,ca,Ta,fra,xs,rfl,hba,hca,hxc,hxl,hxc2⟩:=hL i hlt
  refine zkt i rfl hlt ?_
  refine je (s:=.slc) (t:=xs) rfl (hx2.get hba (by simp)) hca ?_
  refine zq (fun hbig=>?_) (fun hsmall=>?_)
  ·-- too long
   have hlo:long Ls:=⟨Ls[i],List.getElem_mem hlt,by omega⟩
   exact⟨2,r,c,fp,rfl,hS.ext hx2 (by simp),hx2.mono (by simp),fun b hb=>Nat.lt_of_lt_of_le (hfp b hb) hx2.1,fun b hb=>.inl hb,⟨fun _=>⟨rfl,rfl⟩,fun h=>absurd hlo h,fun h=>absurd hlo h⟩,by omega⟩
  have hlen4:Ls[i].length<=4096:=by omega
  generalize hLi:Ls[i]=L at *
  generalize hH2:w2.heap=H2 at *
  have hxc':=hxc.ext hx2 (by simp)
  refine zk (z7t hH2 hxc' hxl hxc2 (hR.ext hx2 (by simp)) (by omega)) ?_
  rintro e w3 ⟨rfl,hx3⟩
  refine⟨arr (Sha.sum L),rfl,?_⟩
  generalize hH3:w3.heap=H3 at *
  have hx23:Ext [] H H3:=hx2.trans hx3
  refine jv hH3 fun w4 hw4=>?_
  refine zaz (zoa.trans (by rw [jy,zad])) (by rw [jy,zad];omega) jr hw4 zn (by rw [zv6,jy,zad];simp) fun w5 hw5=>?_
  rw [show setCells (zc P zf) 0 (Value.cells (arr (Sha.sum L))).toList=(byteCells (Sha.sum L)).toArray from by rw [zan (by rw [zv6,Array.length_toList,jy,zad];simp)];simp [Value.cells,arr]] at hw5
  have hx5:Ext [] H3 w5.heap:=by rw [hw5];exact (Ext.push _).set_own (.inl (Nat.le_refl _))
  have hk5:w5.heap[H3.size]?=some (.cells (byteCells (Sha.sum L)).toArray zf (0,0)):=by rw [hw5];exact qg zn
  generalize hH5:w5.heap=H5 at *
  have hx25:Ext [] H2 H5:=hx3.trans hx5
  have hm5:=hx25.get hm2 (by simp)
  refine qx hH5 hk5 (by simp [byteCells,zad]) ?_
  have hown5:∀ x∈fr,Mine H5 H.size xg 1 x.2.1.1 (byteCells x.2.1.2)/\x.2.1.2.length<=4096:=fun x hx=>⟨(hown x hx).1.ext hx25 (by simp),(hown x hx).2⟩
  cases hg:zbx fr (Sha.sum L) with
  | some v=>
   refine zhh (l:=[.slc,.bool]) (v.1,true) (by refine (zfl K27 u57 z22 hH5 hm5 hok zad).trans ?_;rw [hg];rfl) ?_
   refine zah rfl ?_
   refine⟨fr,cf,hlt,rfl,?_,?_,?_,hok,by omega,?_,hap,?_⟩
   ·rw [zra hlt,<-hF,hLi]
    unfold zrf
    rw [zqn,if_pos (by simp [zaa,hg])]
   ·rw [hH5];exact hx2.trans hx25
   ·rw [hH5];exact hm5
   ·rw [hH5];exact hown5
   ·intro M hM
    rw [List.take_add_one,List.mem_append] at hM
    rcases hM with hM | hM
    ·exact hsm M hM
    ·rw [List.getElem?_eq_getElem hlt] at hM;simp at hM;rw [hM,hLi];exact hlen4
  | none=>
   refine zhh (l:=[.slc,.bool]) ((none,0,0),false) (by refine (zfl K27 u57 z22 hH5 hm5 hok zad).trans ?_;rw [hg];rfl) ?_
   refine jm rfl ?_
   refine jl hH5 fun w6 hw6=>?_
   refine qx hw6 hk5 (by simp [byteCells,zad]) ?_
   refine zk (qan hw6 (hxc'.ext hx25 (by simp)) hxl (by omega)) ?_
   rintro e w7 ⟨y,rfl,hyO,hx7⟩
   refine⟨y,rfl,?_⟩
   generalize hH7:w7.heap=H7 at *
   refine⟨qx hH7 (hx7.get hk5 (by simp)) (by simp [byteCells,zad]) rfl,?_⟩
   have hm7:=hx7.get hm5 (by simp)
   refine zru _ (zm6 K27 u57 hH7 hm7 hok zad (y,L) rfl) ?_
   refine jl rfl fun w8 hw8=>?_
   simp only [zy]
   obtain⟨m,h1,h2,h3,h4,h5,h6,h7⟩:=hS
   have hx57:Ext [] H H7:=(hx2.trans hx25).trans hx7
   have hx8:Ext [] H (H7.setIfInBounds H.size (.map (ents arr (vl bv (zje fr (Sha.sum L) (y,L) cf))) (zn1 fr (Sha.sum L) cf))):=hx57.set_own (.inl (Nat.le_refl _))
   have hx78:Ext [H.size] H7 (H7.setIfInBounds H.size (.map (ents arr (vl bv (zje fr (Sha.sum L) (y,L) cf))) (zn1 fr (Sha.sum L) cf))):=Ext.set _ (by simp)
   have hk8:(H7.setIfInBounds H.size (.map (ents arr (vl bv (zje fr (Sha.sum L) (y,L) cf))) (zn1 fr (Sha.sum L) cf)))[H3.size]?=some (.cells (byteCells (Sha.sum L)).toArray zf (0,0)):=
    zfw (hx7.get hk5 (by simp)) (by have:=lt_of_get hm2;have:=hx3.1;omega)
   have hm8:(H7.setIfInBounds H.size (.map (ents arr (vl bv (zje fr (Sha.sum L) (y,L) cf))) (zn1 fr (Sha.sum L) cf)))[H.size]?=some (.map (ents arr (vl bv (zje fr (Sha.sum L) (y,L) cf))) (zn1 fr (Sha.sum L) cf)):=qg hm7
   generalize (H7.setIfInBounds H.size (.map (ents arr (vl bv (zje fr (Sha.sum L) (y,L) cf))) (zn1 fr (Sha.sum L) cf)))=H8 at *
   refine je (t:=some m) hw8 (hx8.get h1 (by simp)) rfl ?_
   refine qx hw8 hk8 (by simp [byteCells,zad]) ?_
   have hupd:zje fr (Sha.sum L) (y,L) cf=fr++[(Sha.sum L,(y,L),cf)]:=zkm hg
   have hvw:view (zje fr (Sha.sum L) (y,L) cf)=view fr++[(Sha.sum L,L)]:=by rw [hupd];simp [view]
   have hVw:view fr++[(Sha.sum L,L)]=fresh (Ls.take (i+1)):=by
    rw [zra hlt,<-hF,hLi]
    unfold zrf
    rw [zqn,if_neg (by simp [zaa,hg])]
   have fin:∀ (X:Int),X=(extra r (view fr++[(Sha.sum L,L)]):Int)->Ph1 H r Ls (i+1) X w8:=by
    intro X hX
    refine⟨zje fr (Sha.sum L) (y,L) cf,zn1 fr (Sha.sum L) cf,hlt,by rw [hvw];exact hX,by rw [hvw,hVw],by rw [hw8];exact hx8,by rw [hw8];exact hm8,hok.upd zad _,by rw [hupd];simp;omega,?_,?_,?_⟩
    ·intro z hz
     rw [hw8]
     rcases zmu hz with⟨hz1,hz2⟩ | ⟨_,hz2⟩
     ·rw [hz2]
      refine⟨(hyO.ext hx78 fun b hb=>?_).mono (hx2.trans hx25).1,hlen4⟩
      have:=xu hyO b hb
      have:=lt_of_get hm5
      simp;omega
     ·refine⟨((hown5 z hz2).1.ext hx7 (by simp)).ext hx78 fun b hb=>?_,(hown5 z hz2).2⟩
      rcases (hown5 z hz2).1 with⟨h,_⟩ | ⟨bb,cc,h,_,hbb,_⟩
      ·simp [jf,h] at hb
      ·simp only [jf,h,List.mem_singleton] at hb
       subst hb
       simp only [List.mem_singleton]
       intro e;rw [e,hm5] at hbb;cases hbb
    ·have far:∀ z∈fr,∀ b∈jf z.2.1.1,b < H5.size:=by
      intro z hz b hb
      rcases (hown5 z hz).1 with⟨h,_⟩ | ⟨bb,cc,h,_,hbb,_⟩
      ·simp [jf,h] at hb
      ·simp only [jf,h,List.mem_singleton] at hb
       subst hb;exact lt_of_get hbb
     intro z hz z' hz' hne b hb hb'
     rcases zmu hz with⟨hz1,hz2⟩ | ⟨hz1,hz2⟩ <;> rcases zmu hz' with⟨hz1',hz2'⟩ | ⟨hz1',hz2'⟩
     ·exact hne (hz1.trans hz1'.symm)
     ·rw [hz2] at hb
      have:=xu hyO b hb
      have:=far z' hz2' b hb'
      omega
     ·rw [hz2'] at hb'
      have:=xu hyO b hb'
      have:=far z hz2 b hb
      omega
     ·exact hap z hz2 z' hz2' hne b hb hb'
    ·intro M hM
     rw [List.take_add_one,List.mem_append] at hM
     rcases hM with hM | hM
     ·exact hsm M hM
     ·rw [List.getElem?_eq_getElem hlt] at hM;simp at hM;rw [hM,hLi];exact hlen4
   have hxl2:(xs.2.1:Int)=(L.length:Int):=by rw [hxl]
   cases hgr:zbx r (Sha.sum L) with
   | none=>
    refine zhh (l:=[.slc,.bool]) ((none,0,0),false) (by refine (zfl K27 u57 z22 hw8 (hx8.get h2 (by simp)) h3 zad).trans ?_;rw [hgr];rfl) ?_
    refine zah rfl ?_
    have hel:=z5u (r:=r) fun x hx=>(hown x hx).2
    refine jd ((extra r (view fr)+L.length:Nat):Int) (by omega) (by omega) (by omega) ?_
    refine fin _ ?_
    simp only [extra,List.filter_append,List.map_append,List.sum_append]
    have:(zaa r (Sha.sum L)).isNone=true:=by simp [zaa,hgr]
    simp [this]
   | some v=>
    refine zhh (l:=[.slc,.bool]) (v.1,true) (by refine (zfl K27 u57 z22 hw8 (hx8.get h2 (by simp)) h3 zad).trans ?_;rw [hgr];rfl) ?_
    refine jm rfl ?_
    refine fin _ ?_
    simp only [extra,List.filter_append,List.map_append,List.sum_append]
    have:(zaa r (Sha.sum L)).isNone=false:=by simp [zaa,hgr]
    simp [this]
 have hiL:i=Ls.length:=by simp only at hge;omega
 subst hiL
 rw [List.take_length] at hF hsm
 have hnl:¬long Ls:=fun ⟨L,hL',h⟩=>by have:=hsm L hL';omega
 have hex:=z5u (r:=r) (fr:=fr) fun x hx=>(hown x hx).2
 have hS0:=hS
 obtain⟨m,h1,h2,h3,h4,h5,h6,h7⟩:=hS
 refine jl rfl fun w3 hw3=>?_
 generalize hH2:w2.heap=H2 at *
 simp only [zy]
 refine je (t:=q) hw3 (hx2.get h1 (by simp)) rfl ?_
 refine je (t:=(total r:Int)) hw3 (hx2.get h1 (by simp)) rfl ?_
 refine zb0 (q-total r) rfl (by omega) (by omega) ?_
 refine zq (fun hbig=>?_) (fun hfit=>?_)
 ·have hbig:q < total r+extra r (fresh Ls):=by rw [<-hF];omega
  exact⟨3,r,c,fp,rfl,by rw [hw3];exact hS0.ext hx2 (by simp),by rw [hw3];exact hx2.mono (by simp),fun b hb=>by rw [hw3];exact Nat.lt_of_lt_of_le (hfp b hb) hx2.1,fun b hb=>.inl hb,⟨fun h=>absurd h hnl,fun _ _=>⟨rfl,rfl⟩,fun _ h=>absurd hbig h⟩,by omega⟩
 have hfit:¬q < total r+extra r (fresh Ls):=by rw [<-hF];omega
 have hHH:H.size < H2.size:=lt_of_get hm2
 refine zam (s:=.ptr) (some ⟨H2.size,0,none⟩) _ (z8o u57 hw3 hm2) ?_
 have hxr:Ext [] H2 (H2.push (.mapIter (some H.size) cf #[] cf)):=.push _
 refine zni (fun n _ w=>Ph3 H fp p q r fr cf H2.size n w) fr.length
  ⟨#[],r,c,((hS0.ext hx2 (by simp)).ext hxr (by simp)).mono fun b hb=>List.mem_append.2 (.inl hb),(hx2.trans hxr).mono (by simp),hxr.get hm2 (by simp),zn,Nat.le_of_lt hHH,fun x hx=>(hown x hx).1.ext hxr (by simp),?_,?_,by omega,fun y hy=>.inl (h6 y hy).2⟩ ?_
 ·intro k
  rw [if_neg]
  rintro ⟨x,_,_,h⟩
  simp at h
 ·rw [List.filter_eq_self.2]
  intro y _;simp
 rintro n _ w4 ⟨seen,r',c',hS4,hx4,hm4,hit4,hitl,hown4,hview,hn,htot,hsrc⟩ K hK
 have hFB:∀ b∈fp++fr.flatMap (fun x=>jf x.2.1.1),b < w4.heap.size/\b≠H.size/\b≠H2.size/\(b∈fp\/H.size<=b):=by
  intro b hb
  rcases List.mem_append.1 hb with hb | hb
  ·have:=hfp b hb
   have:=hx4.1
   exact⟨by omega,by omega,by omega,.inl hb⟩
  ·obtain⟨x,hx,hb⟩:=List.mem_flatMap.1 hb
   rcases hown4 x hx with⟨h,_⟩ | ⟨bb,cc,h,hge',hbb,_⟩
   ·simp [jf,h] at hb
   ·simp only [jf,h,List.mem_singleton] at hb
    subst hb
    exact⟨lt_of_get hbb,fun e=>(by rw [e,hm4] at hbb;cases hbb),fun e=>(by rw [e,hit4] at hbb;cases hbb),.inr hge'⟩
 have hfrlen:fr.length<=Ls.length:=hfl
 rcases qek (P:=P) (ty:=0) rfl hm4 hit4 hok.old (Nat.le_refl _) with⟨hall,w5,hr5,hcm5,hw5⟩ | ⟨x,hx,hns,w5,hr5,hcm5,hw5⟩
 ·refine zam (s:=.any) _ w5 hr5 ?_ hcm5
  refine ztw (s:=.bool) false rfl rfl ?_
  refine jm rfl ?_
  refine⟨0,r',c',_,rfl,by rw [hw5];exact hS4,by rw [hw5];exact hx4,fun b hb=>by rw [hw5];exact (hFB b hb).1,fun b hb=>(hFB b hb).2.2.2,⟨fun h=>absurd h hnl,fun _ h=>absurd h hfit,fun _ _=>⟨rfl,fun k=>?_⟩⟩,by omega⟩
  rw [hview,<-hF,zqn]
  by_cases hk:∃ x∈fr,x.1=k/\x.2.2∈seen
  ·rw [if_pos hk]
  ·rw [if_neg hk]
   have:zaa fr k=none:=by
    unfold zaa
    rw [zhw];rfl
    intro x hx e
    exact hk ⟨x,hx,e,hall x hx⟩
   rw [this];rfl
 ·refine zam (s:=.any) _ w5 hr5 ?_ hcm5
  refine ztw (s:=.bool) true rfl rfl ?_
  refine zah rfl ?_
  refine joinP_of (fun _ w=>∃ n',n' < n/\Ph3 H fp p q r fr cf H2.size n' w) ?_ (fun _ w h=>by obtain⟨n',hn',hp⟩:=h;exact hK n' _ _ hn' hp)
  have hx1:x.1.length=32:=hok.fine x hx
  generalize hH4:w4.heap=H4 at *
  have hit5:w5.heap[H2.size]?=some (.mapIter (some H.size) cf (seen.push x.2.2) cf):=by rw [hw5];exact qg hit4
  have hx45:Ext [H2.size] H4 w5.heap:=by rw [hw5];exact Ext.set _ (by simp)
  generalize hH5:w5.heap=H5 at *
  clear hw5
  have hm5:=hx45.get hm4 (by simp;omega)
  refine qp (s:=.any) _ (z8w (last:=cf) hH5 hm5 hit5 hx hok) ?_
  refine ztw (s:=.any) (arr x.1) rfl rfl ?_
  refine ztw (s:=.slc) x.2.1.1 rfl rfl ?_
  refine jv hH5 fun w6 hw6=>?_
  refine zaz (zoa.trans (by rw [jy,hx1])) (by rw [jy,hx1];omega) jr hw6 zn (by rw [zv6,jy,hx1];simp) fun w7 hw7=>?_
  rw [show setCells (zc P zf) 0 (Value.cells (arr x.1)).toList=(byteCells x.1).toArray from by rw [zan (by rw [zv6,Array.length_toList,jy,hx1];simp)];simp [Value.cells,arr]] at hw7
  have hx57:Ext [] H5 w7.heap:=by rw [hw7];exact (Ext.push _).set_own (.inl (Nat.le_refl _))
  have hk7:w7.heap[H5.size]?=some (.cells (byteCells x.1).toArray zf (0,0)):=by rw [hw7];exact qg zn
  generalize hH7:w7.heap=H7 at *
  clear hw7
  have hx47:Ext [H2.size] H4 H7:=hx45.trans (hx57.mono (by simp))
  have hS7:=hS4.ext hx47 fun b hb=>by simpa using (hFB b hb).2.2.1
  have hx7:Ext fp H H7:=hx4.own hx47 (by intro b hb hlt;simp at hb;omega)
  have hm7:=hx57.get hm5 (by simp)
  have hit7:=hx57.get hit5 (by simp)
  have hown7:∀ x∈fr,Mine H7 H.size xg 1 x.2.1.1 (byteCells x.2.1.2):=fun y hy=>(hown4 y hy).ext hx47 fun b hb=>by
   simpa using (hFB b (List.mem_append.2 (.inr (List.mem_flatMap.2 ⟨y,hy,hb⟩)))).2.2.1
  have hR7:=hR.ext hx7 h0
  obtain⟨m',g1,g2,g3,g4,g5,g6,g7⟩:=hS7
  have hvx:zaa r' x.1=zaa r x.1:=by
   rw [hview,if_neg]
   rintro ⟨y,hy,e,hs⟩
   rw [key_inj hok hy hx e] at hs
   exact hns hs
  have hfx:zaa fr x.1=some x.2.1.2:=by
   unfold zaa
   rw [zev hok.keys (k:=x.1) (v:=x.2.1) (c:=x.2.2) hx];rfl
  have hdone:∀ k,(∃ y∈fr,y.1=k/\y.2.2∈seen.push x.2.2) ↔ (k=x.1\/∃ y∈fr,y.1=k/\y.2.2∈seen):=by
   intro k
   constructor
   ·rintro ⟨y,hy,e,hs⟩
    rcases Array.mem_push.1 hs with hs | hs
    ·exact .inr ⟨y,hy,e,hs⟩
    ·rw [<-e,Go.Fw.born_inj hok hy hx hs];exact .inl rfl
   ·rintro (rfl | ⟨y,hy,e,hs⟩)
    ·exact⟨x,hx,rfl,Array.mem_push.2 (.inr rfl)⟩
    ·exact⟨y,hy,e,Array.mem_push.2 (.inl hs)⟩
  have hlt:=z8t (l:=fr) hx hns
  have fin:∀ (w:World) (r2:SM) (c2:Nat),Store w.heap (fp++fr.flatMap fun x=>jf x.2.1.1) p q r2 c2->Ext fp H7 w.heap->Ext [p,m'] H7 w.heap->(∀ k,zaa r2 k=if k=x.1 then zv3 (zaa r k) (some x.2.1.2) k else zaa r' k) ->
    total r2<=total r'+4096->(∀ y∈r2,(∀ b∈jf y.2.1.1,b∈fp)\/∃ z∈fr,z.1=y.1/\z.2.1=y.2.1)->∃ n',n' < n/\Ph3 H fp p q r fr cf H2.size n' w:=by
   intro w r2 c2 hS2 hxe hxe2 hv2 ht2 hs2
   have np:∀ b,(b=H.size\/b=H2.size)->b∉[p,m']:=by
    intro b hb hb'
    simp only [List.mem_cons,List.not_mem_nil,or_false] at hb'
    rcases hb' with rfl | rfl
    ·have:=hFB b g4;omega
    ·have:=hFB b g5;omega
   refine⟨(fr.filter fun y=>!(seen.push x.2.2).contains y.2.2).length,by omega,seen.push x.2.2,r2,c2,hS2,hx7.trans hxe,hxe2.get hm7 (np _ (.inl rfl)),hxe2.get hit7 (np _ (.inr rfl)),hitl,?_,?_,rfl,by omega,hs2⟩
   ·intro y hy
    refine (hown7 y hy).ext hxe2 fun b hb hb'=>?_
    rcases hown7 y hy with⟨h,_⟩ | ⟨bb,cc,h,_,hbb,_⟩
    ·simp [jf,h] at hb
    ·simp only [jf,h,List.mem_singleton] at hb
     subst hb
     simp only [List.mem_cons,List.not_mem_nil,or_false] at hb'
     rcases hb' with e | e
     ·rw [e,g1] at hbb;cases hbb
     ·rw [e,g2] at hbb;cases hbb
   ·intro k
    rw [hv2]
    by_cases hk:k=x.1
    ·rw [if_pos hk,if_pos ((hdone k).2 (.inl hk)),hk,hfx]
    ·rw [if_neg hk,hview]
     by_cases hd:∃ y∈fr,y.1=k/\y.2.2∈seen
     ·rw [if_pos hd,if_pos ((hdone k).2 (.inr hd))]
     ·rw [if_neg hd,if_neg fun h=>by rcases (hdone k).1 h with h | h;exact hk h;exact hd h]
  refine jl hH7 fun w8 hw8=>?_
  refine je (t:=some m') hw8 g1 rfl ?_
  refine qx hw8 hk7 (by simp [byteCells,hx1]) ?_
  refine zhh (l:=[.slc,.bool]) (((zbx r' x.1).map (·.1)).getD (none,0,0),(zbx r' x.1).isSome) ?_ ?_
  ·refine (zfl K27 u57 z22 hw8 g2 g3 hx1).trans ?_
   cases zbx r' x.1 <;> rfl
  refine joinP_of (fun _ w=>Ext [] H7 w.heap/\∀ old,zaa r x.1=some old->Sha.sum old≠x.1) ?_ ?_
  ·refine jl hw8 fun w9 hw9=>?_
   cases hg:zbx r' x.1 with
   | none=>
    refine jm rfl ?_
    refine⟨trivial,by rw [hw9];exact .refl _ _,fun old ho=>?_⟩
    rw [<-hvx] at ho
    simp [zaa,hg] at ho
   | some v=>
    have hv:zaa r x.1=some v.2:=by rw [<-hvx];simp [zaa,hg]
    obtain⟨bv',hbv,_⟩:=zt4 g3 hg
    have hO:Mine H7 0 xg 1 v.1 (byteCells v.2):=(g6 _ hbv).1
    have hvl:=hlen _ _ hv
    have hle:v.1.2.1<=v.1.2.2:=by
     rcases hO with⟨h,_⟩ | ⟨_,_,_,_,_,_,_,h,_⟩
     ·rw [h];exact Nat.le_refl _
     ·exact h
    have hll:=hO.len
    rw [ji,Nat.mul_one] at hll
    refine zah rfl ?_
    refine qx hw9 hk7 (by simp [byteCells,hx1]) ?_
    refine zk (z7t hw9 hO.cells (by simp only [Option.map_some,Option.getD_some];exact hll.symm) (by simpa using hle) hR7 (by omega)) ?_
    rintro e w10 ⟨rfl,hx10⟩
    refine⟨arr (Sha.sum v.2),rfl,?_⟩
    refine⟨qx rfl (hx10.get hk7 (by simp)) (by simp [byteCells,hx1]) rfl,?_⟩
    refine qp (s:=.bool) _ (zry u27 u5 c5 g27 zad hx1) ?_
    refine zq (fun hs=>?_) (fun hs=>?_)
    ·-- whole already
     refine fin _ r' c' ?_ (hx10.mono (by simp)) (hx10.mono (by simp)) (fun k=>?_) (by omega) hsrc
     ·have:=(show Store H7 (fp++fr.flatMap fun x=>jf x.2.1.1) p q r' c' from ⟨m',g1,g2,g3,g4,g5,g6,g7⟩)
      exact this.ext hx10 (by simp)
     ·by_cases hk:k=x.1
      ·subst hk
       rw [if_pos rfl,hvx,hv]
       simp [zv3,hs]
      ·rw [if_neg hk]
    ·refine⟨hx10,fun old ho=>?_⟩
     rw [hv] at ho
     cases ho
     exact hs
  ·rintro _ w9 ⟨hx79,hold⟩
   generalize hH9:w9.heap=H9 at *
   have g1':=hx79.get g1 (by simp)
   have hol:(((((zbx r' x.1).map fun v:BV=>v.1).getD ((none,0,0):Option Addr×Nat×Nat)).2.1:Nat):Int)=(qbl r x.1:Int):=by
    unfold qbl
    rw [<-hvx]
    unfold zaa
    cases hg:zbx r' x.1 with
    | none=>rfl
    | some v=>
     obtain⟨bv',hbv,_⟩:=zt4 g3 hg
     have hO:Mine H7 0 xg 1 v.1 (byteCells v.2):=(g6 _ hbv).1
     have hll:=hO.len
     rw [ji,Nat.mul_one] at hll
     simp [hll]
   have hxlen:x.2.1.1.2.1=x.2.1.2.length:=by
    have:=(hown7 x hx).len
    rw [ji] at this;omega
   have hx4k:=(hown x hx).2
   have htu:=z0v g3 (k:=x.1) (v:=x.2.1) (c':=c')
   have hol2:qbl r' x.1=qbl r x.1:=by unfold qbl;rw [hvx]
   rw [hol2] at htu
   have htb:total r'<=total r+4096 * fr.length:=by omega
   refine je (t:=(total r':Int)) hH9 g1' rfl ?_
   refine zb0 ((x.2.1.2.length:Int)-(qbl r x.1:Int)) (by rw [hol,hxlen]) (by omega) (by omega) ?_
   refine jd ((total (zje r' x.1 x.2.1 c'):Nat):Int) (by omega) (by omega) (by omega) ?_
   refine za9 hH9 g1' (by simp) fun w10 hw10=>?_
   refine jl hw10 fun w11 hw11=>?_
   have hpm:p≠m':=by intro e;rw [e] at g1;rw [g1] at g2;cases g2
   have g2':=hx79.get g2 (by simp)
   have hk9:=hx79.get hk7 (by simp)
   have hp10:w10.heap[p]?=some (.cells #[Value.int .i64 q,.int .i64 (total (zje r' x.1 x.2.1 c'):Int),.map (some m')] zgj (0,0)):=by rw [hw10];exact qg g1'
   have hm10:w10.heap[m']?=some (.map (ents arr (vl bv r')) c'):=by rw [hw10];exact zfw g2' (Ne.symm hpm)
   have hk10:w10.heap[H5.size]?=some (.cells (byteCells x.1).toArray zf (0,0)):=by
    rw [hw10];exact zfw hk9 (show H5.size≠p from fun e=>by rw [<-e,hk7] at g1;injection g1 with g1;injection g1 with _ g1;exact absurd g1 (by decide))
   have hx10:Ext [p] H7 w10.heap:=by rw [hw10];exact (hx79.mono (by simp)).trans (Ext.set _ (by simp))
   rw [<-hw10] at hw11
   generalize w10.heap=H10 at *
   refine je (t:=some m') hw11 hp10 rfl ?_
   refine qx hw11 hk10 (by simp [byteCells,hx1]) ?_
   refine zru _ (zm6 K27 u57 hw11 hm10 g3 hx1 x.2.1 rfl) ?_
   have hx11:Ext [p,m'] H7 (H10.setIfInBounds m' (.map (ents arr (vl bv (zje r' x.1 x.2.1 c'))) (zn1 r' x.1 c'))):=(hx10.mono (by simp)).trans (Ext.set _ (by simp))
   have hpf:p∈fp:=h4
   have hpm':m'∈fp:=by
    rcases List.mem_append.1 g5 with h | h
    ·exact h
    ·obtain⟨z,hz,hb⟩:=List.mem_flatMap.1 h
     rcases hown7 z hz with⟨h,_⟩ | ⟨bb,cc,h,_,hbb,_⟩
     ·simp [jf,h] at hb
     ·simp only [jf,h,List.mem_singleton] at hb
      subst hb
      rw [g2] at hbb;cases hbb
   refine fin _ (zje r' x.1 x.2.1 c') (zn1 r' x.1 c') ⟨m',zfw hp10 hpm,qg hm10,g3.upd hx1 _,g4,g5,?_,?_⟩ (hx11.mono (by simp [hpf,hpm'])) hx11 (fun k=>?_) (by omega) ?_
   ·intro y hy
    have ex:∀ (s:BV),(∀ b∈jf s.1,b∈fp++fr.flatMap fun x=>jf x.2.1.1)->∀ B,Mine H7 B xg 1 s.1 (byteCells s.2)->Mine (H10.setIfInBounds m' (.map (ents arr (vl bv (zje r' x.1 x.2.1 c'))) (zn1 r' x.1 c'))) 0 5 1 s.1 (byteCells s.2):=by
     intro s _ B hO
     refine (hO.mono (Nat.zero_le _)).ext hx11 fun b hb hb'=>?_
     rcases hO with⟨h,_⟩ | ⟨bb,cc,h,_,hbb,_⟩
     ·simp [jf,h] at hb
     ·simp only [jf,h,List.mem_singleton] at hb
      subst hb
      simp only [List.mem_cons,List.not_mem_nil,or_false] at hb'
      rcases hb' with e | e
      ·rw [e,g1] at hbb;cases hbb
      ·rw [e,g2] at hbb;cases hbb
    rcases zmu hy with⟨hy1,hy2⟩ | ⟨hy1,hy2⟩
    ·rw [hy2]
     have hsub:∀ b∈jf x.2.1.1,b∈fp++fr.flatMap fun x=>jf x.2.1.1:=fun b hb=>List.mem_append.2 (.inr (List.mem_flatMap.2 ⟨x,hx,hb⟩))
     exact⟨ex _ hsub _ (hown7 x hx),hsub⟩
    ·exact⟨ex _ (g6 y hy2).2 _ (g6 y hy2).1,(g6 y hy2).2⟩
   ·-- apart
    have sep:∀ y∈r',y.1≠x.1->∀ b∈jf y.2.1.1,b∉jf x.2.1.1:=by
     intro y hy hne b hb hb'
     rcases hsrc y hy with h | ⟨z,hz,hz1,hz2⟩
     ·have:=hfp b (h b hb)
      have:=xu (hown7 x hx) b hb'
      omega
     ·rw [<-hz2] at hb
      exact hap z hz x hx (by rw [hz1];exact hne) b hb hb'
    intro y hy y' hy' hne b hb hb'
    rcases zmu hy with⟨a1,a2⟩ | ⟨a1,a2⟩ <;> rcases zmu hy' with⟨b1,b2⟩ | ⟨b1,b2⟩
    ·exact hne (a1.trans b1.symm)
    ·rw [a2] at hb
     exact sep y' b2 b1 b hb' hb
    ·rw [b2] at hb'
     exact sep y a2 a1 b hb hb'
    ·exact g7 y a2 y' b2 hne b hb hb'
   ·rw [qdr]
    by_cases hk:k=x.1
    ·rw [if_pos hk,if_pos hk]
     subst hk
     cases hv:zaa r x.1 with
     | none=>rfl
     | some old=>simp only [zv3,if_neg (hold old hv)]
    ·rw [if_neg hk,if_neg hk]
   ·intro y hy
    rcases zmu hy with⟨a1,a2⟩ | ⟨a1,a2⟩
    ·exact .inr ⟨x,hx,a1.symm,a2.symm⟩
    ·exact hsrc y a2
theorem qjx (a:Option Addr) (l c:Nat) (w:World):(Instr.buildSlice jq 1 #[(0,.slice a l c)]).run P w=.ok (.slice (some ⟨w.heap.size,0,none⟩) 1 1) { w with heap:=w.heap.push (.cells #[.slice a l c] zi) }:=by kernel_rfl
theorem zmz (L:List UInt8):fresh [L]=[(Sha.sum L,L)]:=rfl
theorem zyf (L:List UInt8):long [L] ↔ 4096 < L.length:=by simp [long]
def nought:List UInt8:=List.replicate 32 0
theorem za4:nought.length=32:=by simp [nought]
def Small (r:SM):Prop:=∀ k L,zaa r k=some L->L.length < 1099511627776
theorem qga {w:World}{H:Heap}{fp:List Nat}{p:Nat}{q:Int}{r:SM}{c:Nat}{a:Option Addr}{l lc:Nat}{L:List UInt8}(hw:w.heap=H) (hS:Store H fp p q r c) (hfp:∀ b∈fp,b < H.size) (hR:Rounds H) (h0:0∉fp)
  (hL:Cells H a (byteCells L)) (hl:l=L.length) (hc:l<=lc) (ha:L≠[]->∀ y,a=some y->y.block∉fp)
  (hb:total r+4096 < 1125899906842624) (hq:0<=q) (hq2:q<=9223372036854775807) (hlen:Small r) :
  qc P zdr #[.pointer (some ⟨p,0,none⟩),.slice a l lc] w fun e w'=>∃ code r' c' fp',e=.returned (.tuple #[arr (if code=0 then Sha.sum L else nought),.int .i64 code])/\Store w'.heap fp' p q r' c'/\Ext fp H w'.heap/\(∀ b∈fp',b < w'.heap.size)/\(∀ b∈fp',b∈fp\/H.size<=b)/\zkn q r [L] code r' /\
   total r'<=total r+4096:=by
 refine zri ?_
 unfold zl4
 refine jv hw fun w1 hw1=>?_
 have hx1:Ext [] H (H.push (.cells (zc P zf) zf)):=.push _
 have hz1:(H.push (.cells (zc P zf) zf (0,0)))[H.size]?=some (.cells (zc P zf) zf (0,0)):=zn
 generalize hH1:H.push (.cells (zc P zf) zf (0,0))=H1 at *
 refine zam (s:=.slc) (some ⟨H1.size,0,none⟩,1,1) _ (by rw [qjx,hw1];rfl) ?_
 have hx2:Ext [] H1 (H1.push (.cells #[.slice a l lc] zi (0,0))):=.push _
 have hl2:(H1.push (.cells #[.slice a l lc] zi (0,0)))[H1.size]?=some (.cells #[.slice a l lc] zi (0,0)):=zn
 generalize hH2:H1.push (.cells #[.slice a l lc] zi (0,0))=H2 at *
 have hx02:=hx1.trans hx2
 have hs1:H1.size=H.size+1:=by rw [<-hH1];simp
 have hs2:H2.size=H.size+2:=by rw [<-hH2];simp [hs1]
 refine zk (z4o (w:={ w1 with heap:=H2 }) (H:=H2) (Ls:=[L]) rfl (hS.ext hx02 (by simp)) (fun b hb=>by have:=hfp b hb;omega) (hR.ext hx02 (by simp)) h0 ⟨by simp,fun i hi=>?_⟩ (by simpa using hb) hq hq2 hlen) ?_
 ·obtain rfl:i=0:=by simp at hi;omega
  exact⟨H1.size,0,_,_,_,(a,l,lc),rfl,hl2,rfl,hL.ext hx02 (by simp),hl,hc⟩
 rintro e w3 ⟨code,r',c',fp',rfl,hS3,hx3,hfp3,hsub,hres,htot⟩
 refine⟨code,rfl,?_⟩
 have hx03:Ext fp H w3.heap:=(hx02.mono (by simp)).trans hx3
 have hz3:=(hx3.get (hx2.get hz1 (by simp)) (fun h=>absurd (hfp _ h) (by omega)))
 generalize hH3:w3.heap=H3 at *
 have hsub':∀ b∈fp',b∈fp\/H.size<=b:=fun b hb=>by rcases hsub b hb with h | h;exact .inl h;exact .inr (by omega)
 have hn3:H.size∉fp':=fun h=>by rcases hsub _ h with h | h;exact absurd (hfp _ h) (by omega);omega
 refine zay (fun hne=>?_) (fun heq=>?_)
 ·refine qp (s:=.any) (arr nought) (b27 _) ?_
  refine zaz (zoa.trans (by rw [jy,za4])) (by rw [jy,za4];omega) jr hH3 hz3 (by rw [zv6,jy,za4];simp) fun w5 hw5=>?_
  rw [show setCells (zc P zf) 0 (Value.cells (arr nought)).toList=(byteCells nought).toArray from by rw [zan (by rw [zv6,Array.length_toList,jy,za4];simp)];simp [Value.cells,arr]] at hw5
  refine qx hw5 (qg hz3) (by simp [byteCells,nought]) ?_
  have hx5:Ext [H.size] H3 w5.heap:=by rw [hw5];exact Ext.set _ (by simp)
  refine⟨code,r',c',fp',by rw [if_neg hne];rfl,hS3.ext hx5 (fun b hb=>?_),hx03.own hx5 (by intro b hb hlt;simp at hb;omega),fun b hb=>Nat.lt_of_lt_of_le (hfp3 b hb) hx5.1,hsub',hres,by simpa using htot⟩
  simp only [List.mem_singleton]
  rintro rfl
  exact hn3 hb
 ·subst heq
  have hlens:L.length<=4096:=by
   by_cases h:4096 < L.length
   ·exact absurd (hres.1 ((zyf L).2 h)).1 (by decide)
   ·omega
  refine zk (z7t hH3 (hL.ext hx03 fun y hy hv=>ha (by rintro rfl;exact hv rfl) y hy) hl hc (hR.ext hx03 h0) (by omega)) ?_
  rintro e w4 ⟨rfl,hx4⟩
  refine⟨arr (Sha.sum L),rfl,?_⟩
  have hz4:=hx4.get hz3 (by simp)
  refine zaz (zoa.trans (by rw [jy,zad])) (by rw [jy,zad];omega) jr rfl hz4 (by rw [zv6,jy,zad];simp) fun w5 hw5=>?_
  rw [show setCells (zc P zf) 0 (Value.cells (arr (Sha.sum L))).toList=(byteCells (Sha.sum L)).toArray from by rw [zan (by rw [zv6,Array.length_toList,jy,zad];simp)];simp [Value.cells,arr]] at hw5
  refine qx hw5 (qg hz4) (by simp [byteCells,zad]) ?_
  have hx5:Ext [H.size] H3 w5.heap:=by rw [hw5];exact (hx4.mono (by simp)).trans (Ext.set _ (by simp))
  refine⟨0,r',c',fp',by rw [if_pos rfl];rfl,hS3.ext hx5 (fun b hb=>?_),hx03.own hx5 (by intro b hb hlt;simp at hb;omega),fun b hb=>Nat.lt_of_lt_of_le (hfp3 b hb) hx5.1,hsub',hres,by simpa using htot⟩
  simp only [List.mem_singleton]
  rintro rfl
  exact hn3 hb
theorem qid {q:Int}{r r':SM}{L:List UInt8}{code:Int}(h:zkn q r [L] code r') (hl:L.length<=4096) (hv:zaa r (Sha.sum L)=none) (hq:q < (total r:Int)+L.length):code=3/\r'=r:=by
 refine h.2.1 (by rw [zyf];omega) ?_
 simp [extra,zmz,hv];omega
theorem z8k {q:Int}{r r':SM}{L:List UInt8}{code:Int}(h:zkn q r [L] code r') (hl:L.length<=4096) (hv:zaa r (Sha.sum L)=none) (hq:(total r:Int)+L.length<=q) :
  code=0/\∀ k,zaa r' k=if k=Sha.sum L then some L else zaa r k:=by
 obtain⟨h1,h2⟩:=h.2.2 (by rw [zyf];omega) (by simp [extra,zmz,hv];omega)
 refine⟨h1,fun k=>?_⟩
 rw [h2]
 by_cases e:k=Sha.sum L
 ·subst e;simp [zoh,zmz,zv3,hv]
 ·have e':¬Sha.sum L=k:=fun h=>e h.symm
  simp [zoh,zmz,zv3,e,e']
end Go.Proofs.YtbmegmbnlajbbaaGreatDoor.Bl
namespace Go.Fw.Sha
open Go.Fw
def M32:Nat:=4294967296
def rN (x n:Nat):Nat:=x >>> n ||| (x <<< (32-n)) % M32
def force (n:Nat) (k:Nat->List Nat):List Nat:=Nat.rec (k 0) (fun m _=>k (Nat.succ m)) n
theorem force_eq (n:Nat) (k:Nat->List Nat):force n k=k n:=by cases n <;> rfl
def qex (ws:List Nat):Nat:=
 let x:=ws.getD 1 0
 let y:=ws.getD 14 0
 ((((rN x 17 ^^^ rN x 19 ^^^ x >>> 10)+ws.getD 6 0) % M32+(rN y 7 ^^^ rN y 18 ^^^ y >>> 3)) % M32+ws.getD 15 0) % M32
def z0a:Nat->List Nat->List Nat
 | 0,ws=>ws
 | n+1,ws=>force (qex ws) fun v=>z0a n (v :: ws)
def qj2 (x:Nat):Nat:=4294967295-x
def qit (e f g h k w:Nat):Nat:=((((h+(rN e 6 ^^^ rN e 11 ^^^ rN e 25)) % M32+(e &&& f ^^^ qj2 e &&& g)) % M32+k) % M32+w) % M32
def qjf (a b c:Nat):Nat:=((rN a 2 ^^^ rN a 13 ^^^ rN a 22)+(a &&& b ^^^ a &&& c ^^^ b &&& c)) % M32
def zyn:List Nat->List Nat->(a b c d e f g h:Nat)->List Nat
 | k :: ks,w :: ws,a,b,c,d,e,f,g,h=>
  force (qit e f g h k w) fun t1=>force ((t1+qjf a b c) % M32) fun a'=>force ((d+t1) % M32) fun e'=>zyn ks ws a' a b c e' e f g
 | _,_,a,b,c,d,e,f,g,h=>[a,b,c,d,e,f,g,h]
def nums (f:Nat->BitVec 32) (n:Nat):List Nat:=(List.range n).map fun i=>(f i).toNat
def zl6 (f:Nat->BitVec 32):Nat->List Nat
 | 0=>[]
 | n+1=>(f n).toNat :: zl6 f n
theorem zmq (f:Nat->BitVec 32):∀ (n i:Nat),i < n->(zl6 f n).getD i 0=(f (n-1-i)).toNat
 | 0,_,h=>by omega
 | n+1,0,_=>by simp [zl6]
 | n+1,i+1,h=>by
  have:=zmq f n i (by omega)
  simp only [zl6,List.getD_cons_succ,this]
  congr 2
  omega
theorem zyj (x:BitVec 32) (n:Nat):(rotr x n).toNat=rN x.toNat n:=by
 simp [rotr,rN,M32]
theorem qcr (m:Nat->BitVec 32){t:Nat}(h:16<=t):qex (zl6 (W m) t)=(W m t).toNat:=by
 rw [W_ge h]
 simp only [qex,zmq _ _ _ (show 1 < t by omega),zmq _ _ _ (show 14 < t by omega),zmq _ _ _ (show 6 < t by omega),zmq _ _ _ (show 15 < t by omega),BitVec.toNat_add,BitVec.toNat_xor,zyj,BitVec.toNat_ushiftRight]
 rw [show t-1-1=t-2 from by omega,show t-1-14=t-15 from by omega,show t-1-6=t-7 from by omega,show t-1-15=t-16 from by omega]
 rfl
theorem z3x (m:Nat->BitVec 32):∀ (n t:Nat),16<=t->z0a n (zl6 (W m) t)=zl6 (W m) (t+n)
 | 0,t,_=>rfl
 | n+1,t,h=>by
  rw [z0a,force_eq,qcr m h]
  show z0a n (zl6 (W m) (t+1))=_
  rw [z3x m n (t+1) (by omega),show t+1+n=t+(n+1) from by omega]
theorem qht (s:Nat->BitVec 32) (k w:BitVec 32):(one s k w).toNat=qit (s 4).toNat (s 5).toNat (s 6).toNat (s 7).toNat k.toNat w.toNat:=by
 simp only [one,qit,BitVec.toNat_add,BitVec.toNat_xor,zyj,BitVec.toNat_and,BitVec.toNat_not,qj2]
 rfl
theorem qh3 (s:Nat->BitVec 32):(two s).toNat=qjf (s 0).toNat (s 1).toNat (s 2).toNat:=by
 simp only [two,qjf,BitVec.toNat_add,BitVec.toNat_xor,zyj,BitVec.toNat_and]
 rfl
def zqb (f:Nat->BitVec 32) (t:Nat):Nat->List Nat
 | 0=>[]
 | n+1=>(f t).toNat :: zqb f (t+1) n
theorem zz3 (w s:Nat->BitVec 32):∀ (n t:Nat),zyn (zqb K t n) (zqb w t n) (rnd w s t 0).toNat (rnd w s t 1).toNat (rnd w s t 2).toNat (rnd w s t 3).toNat (rnd w s t 4).toNat (rnd w s t 5).toNat (rnd w s t 6).toNat (rnd w s t 7).toNat =
  nums (rnd w s (t+n)) 8
 | 0,t=>rfl
 | n+1,t=>by
  simp only [zqb,zyn,force_eq]
  rw [<-qht,<-qh3]
  have h:=zz3 w s n (t+1)
  rw [show t+1+n=t+(n+1) from by omega] at h
  rw [<-h]
  congr 1
theorem zz1 (f:Nat->BitVec 32):∀ (n:Nat) (l:List Nat),(zl6 f n).reverse++l=zqb f 0 n++l:=by
 have key:∀ (n t:Nat),zqb f t (n+1)=zqb f t n++[(f (t+n)).toNat]:=by
  intro n
  induction n with
  | zero=>intro t;rfl
  | succ n ih=>
   intro t
   rw [zqb,ih (t+1),show t+1+n=t+(n+1) from by omega]
   rfl
 intro n
 induction n with
 | zero=>intro l;rfl
 | succ n ih=>
  intro l
  rw [zl6,List.reverse_cons,List.append_assoc,ih,key,Nat.zero_add]
  simp
def qep (ms:List Nat) (s:List Nat):List Nat:=
 let ws:=(z0a 48 ms.reverse).reverse
 (zyn kc ws (s.getD 0 0) (s.getD 1 0) (s.getD 2 0) (s.getD 3 0) (s.getD 4 0) (s.getD 5 0) (s.getD 6 0) (s.getD 7 0)).zipWith (fun x y=>(y+x) % M32) s
theorem qje:zqb K 0 64=kc:=by kernel_rfl
theorem qe2 (s m:Nat->BitVec 32):qep (zqb m 0 16) (nums s 8)=nums (comp s m) 8:=by
 have h1:(zqb m 0 16).reverse=zl6 (W m) 16:=by
  have h2:zl6 (W m) 16=zl6 m 16:=by
   have:∀ n,n<=16->zl6 (W m) n=zl6 m n:=by
    intro n
    induction n with
    | zero=>intro _;rfl
    | succ n ih=>
     intro hn
     rw [zl6,zl6,ih (by omega),W_lt (by omega)]
   exact this 16 (Nat.le_refl _)
  rw [h2]
  have:=zz1 m 16 []
  simp only [List.append_nil] at this
  rw [<-this,List.reverse_reverse]
 have h3:((zl6 (W m) 64).reverse)=zqb (W m) 0 64:=by
  have:=zz1 (W m) 64 []
  simpa using this
 unfold qep
 simp only [h1]
 rw [z3x m 48 16 (Nat.le_refl _),h3,<-qje]
 have h4:=zz3 (W m) s 64 0
 have h5:∀ i,i < 8->(nums s 8).getD i 0=(rnd (W m) s 0 i).toNat:=by
  intro i hi
  simp [nums,List.getD_eq_getElem?_getD,hi,rnd]
 rw [h5 0 (by omega),h5 1 (by omega),h5 2 (by omega),h5 3 (by omega),h5 4 (by omega),h5 5 (by omega),h5 6 (by omega),h5 7 (by omega),h4]
 simp only [nums,Nat.zero_add]
 rw [List.zipWith_map,List.zipWith_self]
 apply List.map_congr_left
 intro i _
 simp only [comp,BitVec.toNat_add]
 rfl
def qfa (l:List UInt8) (n t:Nat):Nat:=((nth l (64 * n+4 * t)).toNat <<< 24) % M32 ||| ((nth l (64 * n+(4 * t+1))).toNat <<< 16) % M32 ||| ((nth l (64 * n+(4 * t+2))).toNat <<< 8) % M32 ||| (nth l (64 * n+(4 * t+3))).toNat
def z4b (l:List UInt8) (n:Nat):Nat->Nat->List Nat
 | _,0=>[]
 | t,k+1=>qfa l n t :: z4b l n (t+1) k
def zy5 (l:List UInt8):Nat->List Nat
 | 0=>ic
 | n+1=>qep (z4b l n 0 16) (zy5 l n)
theorem qfv (b:UInt8):(b32 b).toNat=b.toNat:=by
 have:=b.toNat_lt
 simp [b32]
theorem qdo (l:List UInt8) (n t:Nat):qfa l n t=(word (fun j=>nth l (64 * n+j)) t).toNat:=by
 simp only [qfa,word,BitVec.toNat_or,BitVec.toNat_shiftLeft,qfv]
 rfl
theorem zz5 (l:List UInt8) (n:Nat):∀ (k t:Nat),z4b l n t k=zqb (word (fun j=>nth l (64 * n+j))) t k
 | 0,_=>rfl
 | k+1,t=>by rw [z4b,zqb,qdo,zz5 l n k (t+1)]
theorem qiw:nums init 8=ic:=by kernel_rfl
theorem zw7 (l:List UInt8):∀ n,zy5 l n=nums (blocks l n) 8
 | 0=>qiw.symm
 | n+1=>by rw [zy5,blocks,<-qe2,zw7 l n,zz5]
def qj3 (l:List UInt8):List UInt8:=
 let s:=zy5 (pad l) ((pad l).length / 64)
 (List.range 32).map fun i=>UInt8.ofNat (s.getD (i / 4) 0 >>> (24-8 * (i % 4)))
theorem sum_eq (l:List UInt8):sum l=qj3 l:=by
 unfold sum qj3
 apply List.map_congr_left
 intro i hi
 have hi:i < 32:=by simpa using hi
 simp only [zw7,out]
 have:(nums (blocks (pad l) ((pad l).length / 64)) 8).getD (i / 4) 0=(blocks (pad l) ((pad l).length / 64) (i / 4)).toNat:=by
  have:i / 4 < 8:=by omega
  simp [nums,List.getD_eq_getElem?_getD,this]
 rw [this]
 simp [lo8]
end Go.Fw.Sha
namespace Go.Proofs.YtbmegmbnlajbbaaGreatDoor.Bl
open Go Go.Fw Go.Proofs
theorem z5y {r:SM}(hk:(r.map (·.1)).Nodup){k:List UInt8}{v:BV}(hg:zbx r k=some v):(zl7 r k).length+1=r.length:=by
 induction r with
 | nil=>simp [zbx] at hg
 | cons x r ih=>
  simp only [List.map_cons,List.nodup_cons] at hk
  by_cases e:x.1=k
  ·rw [zmy e,zpd fun y hy h=>hk.1 (by rw [e,<-h];exact List.mem_map.2 ⟨y,hy,rfl⟩)]
   simp
  ·rw [zb3 e] at hg
   have:=ih hk.2 hg
   rw [zmx e]
   simp only [List.length_cons]
   omega
theorem z7k {r:SM}(hk:(r.map (·.1)).Nodup){k:List UInt8}{v:BV}(hg:zbx r k=some v):total (zl7 r k)+v.2.length=total r:=by
 induction r with
 | nil=>simp [zbx] at hg
 | cons x r ih=>
  simp only [List.map_cons,List.nodup_cons] at hk
  by_cases e:x.1=k
  ·rw [zb4 e,Option.some.injEq] at hg
   rw [zmy e,zpd fun y hy h=>hk.1 (by rw [e,<-h];exact List.mem_map.2 ⟨y,hy,rfl⟩),<-hg]
   simp [total,Nat.add_comm]
  ·rw [zb3 e] at hg
   have:=ih hk.2 hg
   rw [zmx e]
   simp only [total,List.map_cons,List.sum_cons] at this |-
   omega
theorem zqj:∀ {r s:SM},(r.map (·.1)).Nodup->(s.map (·.1)).Nodup->(∀ k,zaa r k=zaa s k)->total r=total s/\r.length=s.length
 | [],s,_,_,h=>by
  cases s with
  | nil=>exact⟨rfl,rfl⟩
  | cons y s=>
   have:=h y.1
   unfold zaa at this
   rw [zb4 rfl] at this
   simp [zbx] at this
 | x :: r,s,hr,hs,h=>by
  simp only [List.map_cons,List.nodup_cons] at hr
  have h1:=h x.1
  unfold zaa at h1
  rw [zb4 rfl] at h1
  cases hg:zbx s x.1 with
  | none=>rw [hg] at h1;simp at h1
  | some v=>
   rw [hg] at h1
   simp only [Option.map_some,Option.some.injEq] at h1
   have hd:((zl7 s x.1).map (·.1)).Nodup:=hs.sublist (List.Sublist.map _ List.filter_sublist)
   obtain⟨i1,i2⟩:=zqj (r:=r) (s:=zl7 s x.1) hr.2 hd fun k=>by
    rw [zx6]
    by_cases e:k=x.1
    ·rw [if_pos e]
     unfold zaa
     rw [zhw];rfl
     intro y hy e2
     exact hr.1 (by rw [<-e,<-e2];exact List.mem_map.2 ⟨y,hy,rfl⟩)
    ·rw [if_neg e,<-h k]
     unfold zaa
     rw [zb3 (Ne.symm e)]
   have t1:=z7k hs hg
   have t2:=z5y hs hg
   simp only [total,List.map_cons,List.sum_cons,List.length_cons] at i1 t1 |-
   rw [h1]
   omega
theorem Store.ok {H:Heap}{fp:List Nat}{p:Nat}{q:Int}{r:SM}{c:Nat}(h:Store H fp p q r c):MOk (fun L=>L.length=32) r c:=by
 obtain⟨m,_,_,h3,_⟩:=h;exact h3
theorem qi1 {w:World}{H:Heap}{k:List UInt8}(hw:w.heap=H) (hk:k.length=32){K:Nat->World->Prop}
  (hK:∀ w',w'.heap[H.size]?=some (.cells (byteCells k).toArray zf (0,0))->Ext [] H w'.heap->H.size < w'.heap.size->K H.size w') :
  zbk (zc P zf) zf w fun b w1=>zbz P (storeVar zf (⟨b,0,none⟩:Addr) (arr k)) w1 fun w2=>K b w2:=by
 refine jv hw fun w1 hw1=>?_
 refine zaz (zoa.trans (by rw [jy,hk])) (by rw [jy,hk];omega) jr hw1 zn (by rw [zv6,jy,hk];simp) fun w5 hw5=>?_
 rw [show setCells (zc P zf) 0 (Value.cells (arr k)).toList=(byteCells k).toArray from by rw [zan (by rw [zv6,Array.length_toList,jy,hk];simp)];simp [Value.cells,arr]] at hw5
 exact hK w5 (by rw [hw5];exact qg zn) (by rw [hw5];exact (Ext.push _).set_own (.inl (Nat.le_refl _))) (by rw [hw5];simp)
end Go.Proofs.YtbmegmbnlajbbaaGreatDoor.Bl
namespace Go.Proofs
open Go.Shelf
def Tryz.sortD_ren:Go.Shelf.Ren:=⟨fun | 6=>149 | 15=>161 | 14=>183 | 28=>198 | 29=>199 | 20=>208 | 21=>209 | 22=>210 | 23=>211 | 24=>212 | 25=>213 | 26=>214 | 27=>215 | 46=>225 | 47=>218 | 48=>219 | 49=>226 | 50=>227 | 57=>230 | n=>n,fun | 22=>59 | 24=>30 | 25=>177 | 3=>3 | 39=>64 | 0=>0 | 53=>163 | 55=>162 | 4=>4 | 46=>279 | 45=>278 | 50=>149 | 5=>5 | 9=>9 | 66=>298 | 70=>301 | 76=>307 | 77=>308 | n=>n,fun | n=>n⟩
def Tryz.sortE_ren:Go.Shelf.Ren:=⟨fun | 6=>109 | 15=>161 | 14=>160 | 28=>198 | 29=>199 | 20=>190 | 21=>191 | 22=>192 | 23=>193 | 24=>194 | 25=>195 | 26=>196 | 27=>197 | 46=>217 | 47=>218 | 48=>219 | 49=>220 | 50=>221 | 57=>229 | n=>n,fun | 22=>105 | 24=>117 | 25=>191 | 3=>3 | 39=>64 | 0=>0 | 53=>163 | 55=>162 | 4=>4 | 46=>279 | 45=>278 | 50=>149 | 5=>5 | 9=>9 | 66=>298 | 70=>301 | 76=>307 | 77=>308 | n=>n,fun | n=>n⟩
theorem Tryz.sortE:Go.Proofs.SlLaysF0.n6 Tryz.prog Tryz.sortE_ren:={
 mixed:=by kernel_rfl
 f6:=⟨Tryz.f109.name,by decide,Tryz.func109.trans (congrArg some (by kernel_rfl))⟩
 f14:=⟨Tryz.f160.name,by decide,Tryz.func160.trans (congrArg some (by kernel_rfl))⟩
 f15:=Tryz.func161.trans (congrArg some (by kernel_rfl))
 f20:=⟨Tryz.f190.name,by decide,Tryz.func190.trans (congrArg some (by kernel_rfl))⟩
 f21:=⟨Tryz.f191.name,by decide,Tryz.func191.trans (congrArg some (by kernel_rfl))⟩
 f22:=⟨Tryz.f192.name,by decide,Tryz.func192.trans (congrArg some (by kernel_rfl))⟩
 f23:=⟨Tryz.f193.name,by decide,Tryz.func193.trans (congrArg some (by kernel_rfl))⟩
 f24:=⟨Tryz.f194.name,by decide,Tryz.func194.trans (congrArg some (by kernel_rfl))⟩
 f25:=⟨Tryz.f195.name,by decide,Tryz.func195.trans (congrArg some (by kernel_rfl))⟩
 f26:=⟨Tryz.f196.name,by decide,Tryz.func196.trans (congrArg some (by kernel_rfl))⟩
 f27:=⟨Tryz.f197.name,by decide,Tryz.func197.trans (congrArg some (by kernel_rfl))⟩
 f28:=Tryz.func198.trans (congrArg some (by kernel_rfl))
 f29:=Tryz.func199.trans (congrArg some (by kernel_rfl))
 f46:=⟨Tryz.f217.name,by decide,Tryz.func217.trans (congrArg some (by kernel_rfl))⟩
 f47:=Tryz.func218.trans (congrArg some (by kernel_rfl))
 f48:=Tryz.func219.trans (congrArg some (by kernel_rfl))
 f49:=⟨Tryz.f220.name,by decide,Tryz.func220.trans (congrArg some (by kernel_rfl))⟩
 f50:=⟨Tryz.f221.name,by decide,Tryz.func221.trans (congrArg some (by kernel_rfl))⟩
 f57:=⟨Tryz.f229.name,by decide,Tryz.func229.trans (congrArg some (by kernel_rfl))⟩
 t0:=Tryz.underlying0
 a0:=Tryz.isAgg0
 z0:=Tryz.sizeOf0
 v0:=Tryz.zeroValue0
 t3:=Tryz.underlying3
 a3:=Tryz.isAgg3
 z3:=Tryz.sizeOf3
 v3:=Tryz.zeroValue3
 t4:=Tryz.underlying4
 a4:=Tryz.isAgg4
 z4:=Tryz.sizeOf4
 v4:=Tryz.zeroValue4
 t5:=Tryz.underlying5
 a5:=Tryz.isAgg5
 z5:=Tryz.sizeOf5
 v5:=Tryz.zeroValue5
 t9:=Tryz.underlying9
 a9:=Tryz.isAgg9
 z9:=Tryz.sizeOf9
 v9:=Tryz.zeroValue9
 t22:=Tryz.underlying105
 a22:=Tryz.isAgg105
 z22:=Tryz.sizeOf105
 v22:=Tryz.zeroValue105
 t25:=Tryz.underlying191
 a25:=Tryz.isAgg191
 z25:=Tryz.sizeOf191
 v25:=Tryz.zeroValue191
 t39:=Tryz.underlying64
 a39:=Tryz.isAgg64
 z39:=Tryz.sizeOf64
 v39:=Tryz.zeroValue64
 t45:=Tryz.underlying278
 a45:=Tryz.isAgg278
 z45:=Tryz.sizeOf278
 v45:=Tryz.zeroValue278
 t46:=Tryz.underlying279
 a46:=Tryz.isAgg279
 z46:=Tryz.sizeOf279
 v46:=Tryz.zeroValue279
 t50:=Tryz.underlying149
 a50:=Tryz.isAgg149
 z50:=Tryz.sizeOf149
 v50:=Tryz.zeroValue149
 t53:=Tryz.underlying163
 a53:=Tryz.isAgg163
 z53:=Tryz.sizeOf163
 v53:=Tryz.zeroValue163
 t55:=Tryz.underlying162
 a55:=Tryz.isAgg162
 z55:=Tryz.sizeOf162
 v55:=Tryz.zeroValue162
 t66:=Tryz.underlying298
 a66:=Tryz.isAgg298
 z66:=Tryz.sizeOf298
 v66:=Tryz.zeroValue298
 t70:=Tryz.underlying301
 a70:=Tryz.isAgg301
 z70:=Tryz.sizeOf301
 v70:=Tryz.zeroValue301
 t76:=Tryz.underlying307
 a76:=Tryz.isAgg307
 z76:=Tryz.sizeOf307
 v76:=Tryz.zeroValue307
 t77:=Tryz.underlying308
 a77:=Tryz.isAgg308
 z77:=Tryz.sizeOf308
 v77:=Tryz.zeroValue308 }
end Go.Proofs
namespace Go.Proofs.YtbmegmbnlajbbaaGreatDoor.Bl
open Go Go.Fw Go.Proofs
theorem qgh:P.underlying jc=some (.slice zf):=by kernel_rfl
theorem E27:Elem P zf 32 32:=zlc (z:=arr (List.replicate 32 0)) (by kernel_rfl) rfl
theorem sz5:(P.info? xg).map (·.size)=some 1:=by kernel_rfl
theorem z7j {w:World}{H:Heap}{a a':Option Addr}{l c l' c':Nat}{L L':List UInt8}(hw:w.heap=H) (hL:Cells H a (byteCells L)) (hl:l=L.length) (hL':Cells H a' (byteCells L')) (hl':l'=L'.length) :
  qc P ziy #[.slice a l c,.slice a' l' c'] w fun e w'=>e=.returned (.int .i64 (Lib.compareBytes L L'))/\w'=w:=by
 refine zs3 ?_
 unfold zm0
 refine zvs (l:=[.int .i64]) (t:=Lib.compareBytes L L') ?_ ⟨rfl,rfl⟩
 rw [zjd (e:=Extern.BytealgCompare.compare) (by kernel_rfl),zwa hw hL hl hL' hl']
 rfl
theorem zzr {w:World}{k k':List UInt8}(hk:k.length=32) (hk':k'.length=32) :
  qc P zqo #[arr k,arr k'] w fun e w'=>e=.returned (.int .i64 (Lib.compareBytes k k'))/\Ext [] w.heap w'.heap:=by
 refine zwk ?_
 unfold zql
 refine jv rfl fun w1 hw1=>?_
 refine jv hw1 fun w2 hw2=>?_
 refine jl hw2 fun w3 hw3=>?_
 refine qp (s:=.slc) (some ⟨w.heap.size,0,none⟩,32,32) (zdw u27 sz5 .no .no (Nat.zero_le _) (Nat.le_refl _)) ?_
 refine qp (s:=.slc) (some ⟨(w.heap.push (.cells (Value.cells (arr k)) zf)).size,0,none⟩,32,32) (zdw u27 sz5 .no .no (Nat.zero_le _) (Nat.le_refl _)) ?_
 refine zk (z7j (L:=k) (L':=k') hw3 ?_ hk.symm ?_ hk'.symm) ?_
 ·exact .inr ⟨_,0,_,_,_,rfl,zeq zn,by simp [arr,Value.cells,byteCells],by rw [Nat.zero_add];simp [arr,Value.cells,byteCells,List.take_of_length_le]⟩
 ·exact .inr ⟨_,0,_,_,_,rfl,zn,by simp [arr,Value.cells,byteCells],by rw [Nat.zero_add];simp [arr,Value.cells,byteCells,List.take_of_length_le]⟩
 rintro e w4 ⟨rfl,rfl⟩
 exact⟨_,rfl,rfl,by rw [hw3];exact (Ext.push _).trans (Ext.push _)⟩
def pad (L:List UInt8):List UInt8:=(L++List.replicate 32 0).take 32
theorem zr0 (L:List UInt8):(pad L).length=32:=by simp [pad]
theorem z8r {L:List UInt8}(h:L.length=32):pad L=L:=by unfold pad;rw [<-h];simp
def zbp (L:List UInt8):List Value:=byteCells (pad L)
theorem zaf (L:List UInt8):(zbp L).length=32:=by rw [zbp,ji,zr0]
theorem zba {L:List UInt8}(h:L.length=32):zbp L=byteCells L:=by rw [zbp,z8r h]
theorem qg0 {L:List UInt8}(h:L.length=32):Value.agg (zbp L).toArray=arr L:=by rw [zba h];rfl
theorem zp3 {L:List UInt8}:zcs (zbp L):=jr
theorem z5b {r:SM}(hk:(r.map (·.1)).Nodup){y:List UInt8×BV×Nat}(hy:y∈r):zaa r y.1=some y.2.1.2:=by
 unfold zaa
 rw [zev hk hy]
 rfl
def zgo (x:List UInt8×BV×Nat):List Value:=byteCells (pad x.1)++[zbv x.2.1.1]
theorem ze9 (x:List UInt8×BV×Nat):(zgo x).length=33:=by simp [zgo,ji,zr0]
theorem qb5 {x:List UInt8×BV×Nat}:zcs (zgo x):=by
 intro v hv
 rcases List.mem_append.1 hv with h | h
 ·exact jr v h
 ·simp only [List.mem_singleton] at h;subst h;rfl
def zjj (rl:SM):Prop:=rl.Pairwise fun a b=>Lib.compareBytes a.1 b.1 < 0
structure ROk (rl:SM):Prop where
 len:∀ x∈rl,x.1.length=32
 rise:zjj rl
def zc4 (H:Heap) (fp:List Nat) (p:Nat) (q:Int) (rl:SM):Prop:=
 ∃ x,H[p]?=some (.cells #[.int .i64 q,zbv x] zga (0,0))/\Mine H 0 zbr 33 x (rl.flatMap zgo)/\p∈fp/\(∀ b∈jf x,b∈fp)/\z1z H fp rl/\Apart rl/\ROk rl
theorem zc4.ext {M fp:List Nat}{H H':Heap}{p:Nat}{q:Int}{rl:SM}(h:zc4 H fp p q rl) (hx:Ext M H H') (hM:∀ b∈fp,b∉M):zc4 H' fp p q rl:=by
 obtain⟨x,h1,h2,h3,h4,h5,h6⟩:=h
 exact⟨x,hx.get h1 (hM p h3),h2.ext hx (fun b hb=>hM b (h4 b hb)),h3,h4,h5.ext hx hM,h6⟩
theorem zjj.nodup {rl:SM}(h:zjj rl):(rl.map (·.1)).Nodup:=by
 unfold zjj at h
 rw [List.nodup_iff_pairwise_ne,List.pairwise_map]
 exact h.imp fun {a b} hab e=>by rw [e,(zgf).2 rfl] at hab;omega
theorem zfq {H:Heap}{B:Nat}{x:Option Addr×Nat×Nat}{rl:SM}(h:Mine H B zbr 33 x (rl.flatMap zgo)):x.2.1=rl.length:=by
 have:=h.len
 rw [zu zgo ze9] at this
 omega
theorem uB:P.underlying jk=some (.slice zbr):=by kernel_rfl
theorem EB:Elem P zbr 33 56:=zlc (z:=Value.agg ((List.replicate 32 (Value.int .u8 0))++[Value.slice none 0 0]).toArray) (by kernel_rfl) rfl
theorem szB:(P.info? zbr).map (·.size)=some 33:=by kernel_rfl
theorem bR (a:Int) (w:World):(Instr.build zga #[(0,.int .i64 a)]).run P w=.ok (.agg #[.int .i64 a,.slice none 0 0]) w:=by kernel_rfl
theorem qeh {w:World}{H:Heap}(q:Int) (hw:w.heap=H):qc P zp1 #[.int .i64 q] w fun e w'=>∃ p,e=.returned (.pointer (some ⟨p,0,none⟩))/\zc4 w'.heap [p] p (max q 0) []/\Ext [] H w'.heap/\H.size<=p/\p < w'.heap.size:=by
 refine z6h ?_
 unfold zzl
 refine qp (s:=.int .i64) (max q 0) ?_ ?_
 ·rw [run_max_int2]
  congr 2
  show (if (0:Int) > q then 0 else q)=max q 0
  split <;> omega
 refine qp (s:=.any) _ (bR _ _) ?_
 refine jv hw fun w1 hw1=>?_
 refine⟨H.size,rfl,⟨(none,0,0),by rw [hw1];exact zn,.inl ⟨rfl,rfl⟩,by simp,by simp [jf],(by intro x hx;cases hx),(by intro x hx;cases hx),⟨by simp,.nil⟩⟩,by rw [hw1];exact .push _,Nat.le_refl _,by rw [hw1];simp⟩
theorem zcd {α:Type}{enc:α->List Value}{sz:Nat}{H:Heap}{a:Option Addr}{len:Nat}(hk:∀ x,(enc x).length=sz) (h0:0 < sz){xs:List α}{v:α}{i:Nat}{n:Int}(hL:Cells H a (xs.flatMap enc))
  (hlen:len=xs.length) (hi:xs[i]?=some v) (hn:n=(i:Int)){K:Addr->Prop}(hK:∀ b o c T fr,a.map (·.block)=some b->H[b]?=some (.cells c T fr)->o+sz<=c.size->(∀ j,j < sz->c[o+j]?=(enc v)[j]?)->(a=some ⟨b,0,none⟩->o=i * sz)->K ⟨b,o,none⟩):ixS a len sz n K:=by
 have hlt:=(List.getElem?_eq_some_iff.1 hi).1
 rcases hL with h | ⟨b,o,c,T,fr,rfl,hb,hsz,hc⟩
 ·have:=congrArg List.length h
  rw [zu enc hk] at this
  have:=Nat.mul_pos (show 0 < xs.length by omega) h0
  simp_all
 ·refine z18 i hn (by omega) ?_
  have hm:i * sz+sz<=xs.length * sz:=by
   have:=Nat.mul_le_mul_right sz (show i+1<=xs.length by omega)
   rw [Nat.add_mul] at this;omega
  rw [zu enc hk] at hsz
  refine hK b (o+i * sz) c T fr rfl hb (by omega) (fun j hj=>?_) (fun h=>by cases h;omega)
  have h2:(xs.flatMap enc)[i * sz+j]?=(enc v)[j]?:=by
   rw [getElem_flatMap enc hk h0]
   have h3:(i * sz+j) / sz=i:=by
    rw [Nat.mul_comm,Nat.mul_add_div h0,Nat.div_eq_of_lt hj];rfl
   have h4:(i * sz+j) % sz=j:=by
    rw [Nat.mul_comm,Nat.mul_add_mod,Nat.mod_eq_of_lt hj]
   rw [h3,h4,hi];rfl
  rw [<-hc,Array.getElem?_toList,Array.getElem?_extract,zu enc hk,if_pos (by omega)] at h2
  rw [<-h2]
  congr 1;omega
theorem zzt {c:Array Value}{o:Nat}{x:List UInt8×BV×Nat}(h32:x.1.length=32) (hs:o+33<=c.size) (h:∀ j,j < 33->c[o+j]?=(zgo x)[j]?):c.extract o (o+32)=(byteCells x.1).toArray:=by
 apply Array.ext_getElem?
 intro j
 rw [Array.getElem?_extract]
 by_cases hj:j < 32
 ·rw [if_pos (by omega),h j (by omega),zgo,List.getElem?_append_left (by rw [ji,zr0];exact hj),z8r h32]
  simp
 ·rw [if_neg (by omega),Array.getElem?_eq_none (by simp [ji,h32];omega)]
theorem zyr {c:Array Value}{o:Nat}{x:List UInt8×BV×Nat}(h:∀ j,j < 33->c[o+j]?=(zgo x)[j]?):c[o+32]?=some (zbv x.2.1.1):=by
 rw [h 32 (by omega),zgo,List.getElem?_append_right (by rw [ji,zr0];omega),ji,zr0]
 rfl
theorem zy6 {w:World}{H:Heap}{a:Option Addr}{len i:Nat}{n:Int}{rl:SM}{x:List UInt8×BV×Nat}(hw:w.heap=H) (hL:Cells H a (rl.flatMap zgo)) (hlen:len=rl.length) (hi:rl[i]?=some x) (hn:n=(i:Int)) (h32:x.1.length=32){K:Array Value->Prop}
  (hK:K (byteCells x.1).toArray):ixS a len 33 n fun p=>ldA P 32 p w K:=by
 refine zcd ze9 (by omega) hL hlen hi hn fun b o c T fr _ hb hs hc _=>?_
 refine zf9 hw hb (by omega) ?_
 rw [zzt h32 hs hc];exact hK
theorem zjs {w:World}{H:Heap}{a:Option Addr}{len i:Nat}{n:Int}{rl:SM}{x:List UInt8×BV×Nat}(hw:w.heap=H) (hL:Cells H a (rl.flatMap zgo)) (hlen:len=rl.length) (hi:rl[i]?=some x) (hn:n=(i:Int)){K:Option Addr×Nat×Nat->Prop}
  (hK:K x.2.1.1):ixS a len 33 n fun p=>ld .slc (Addr.add p 32) w K:=by
 refine zcd ze9 (by omega) hL hlen hi hn fun b o c T fr _ hb hs hc _=>?_
 rw [jo]
 exact je (s:=.slc) hw hb (zyr hc) hK
theorem z00 {w:World}{k k':List UInt8}(hk:k.length=32) (hk':k'.length=32) :
  qc P zk3 #[arr k,arr k'] w fun e w'=>e=.returned (.int .i64 (Lib.compareBytes k k'))/\Ext [] w.heap w'.heap:=by
 refine zv8 ?_
 unfold zqv
 refine jv rfl fun w1 hw1=>?_
 refine jv hw1 fun w2 hw2=>?_
 have hx2:Ext [] w.heap w2.heap:=by rw [hw2];exact (Ext.push _).trans (Ext.push _)
 have ha:w2.heap[w.heap.size]?=some (.cells (byteCells k).toArray zf (0,0)):=by rw [hw2];exact zeq zn
 have hb:w2.heap[(w.heap.push (.cells (Value.cells (arr k)) zf)).size]?=some (.cells (byteCells k').toArray zf (0,0)):=by rw [hw2];exact zn
 generalize (w.heap.push (.cells (Value.cells (arr k)) zf)).size=b3 at *
 have hstep:∀ (L L':List UInt8),L.length=L'.length->∀ i,(∀ j,j < i->L[j]?=L'[j]?)->i<=L.length->Lib.compareBytes L L'=Lib.compareBytes (L.drop i) (L'.drop i):=by
  intro L
  induction L with
  | nil=>intro L' hl i _ hi;cases L' with
   | nil=>simp
   | cons=>simp at hl
  | cons x L ih=>
   intro L' hl i hj hi
   cases L' with
   | nil=>simp at hl
   | cons y L'=>
    cases i with
    | zero=>rfl
    | succ i=>
     have h0:=hj 0 (by omega)
     simp at h0
     subst h0
     simp only [Lib.compareBytes,UInt8.lt_irrefl,if_false,List.drop_succ_cons]
     exact ih L' (by simpa using hl) i (fun j h=>by have:=hj (j+1) (by omega);simpa using this) (by simpa using hi)
 refine jg (fun (s:Int) W=>∃ i:Nat,s=(i:Int)/\i<=32/\W.heap=w2.heap/\∀ j,j < i->k[j]?=k'[j]?) (fun s _=>(32-s).toNat) ⟨0,rfl,by omega,rfl,by intro j h;omega⟩ ?_
 rintro _ W ⟨i,rfl,hi,hW,heq⟩
 have hdrop:∀ (L:List UInt8) (h:i < L.length),L.drop i=L[i] :: L.drop (i+1):=fun L h=>List.drop_eq_getElem_cons h
 have hs:=hstep k k' (by omega) i heq (by omega)
 refine zq (fun hlt=>?_) (fun hge=>?_)
 ·have hik:i < k.length:=by omega
  have hik':i < k'.length:=by omega
  rw [hdrop k hik,hdrop k' hik'] at hs
  simp only [Lib.compareBytes] at hs
  refine jl hW fun W1 hW1=>?_
  refine zen i rfl (by omega) ?_
  refine zen i rfl (by omega) ?_
  refine je (s:=.int .u8) (t:=(k[i].toNat:Int)) hW1 ha (by rw [List.getElem?_toArray,zdi hik,List.getD_eq_getElem?_getD,List.getElem?_eq_getElem hik];rfl) ?_
  refine je (s:=.int .u8) (t:=(k'[i].toNat:Int)) hW1 hb (by rw [List.getElem?_toArray,zdi hik',List.getD_eq_getElem?_getD,List.getElem?_eq_getElem hik'];rfl) ?_
  refine zq (fun hl=>?_) (fun hnl=>?_)
  ·have:k[i] < k'[i]:=by rw [UInt8.lt_iff_toNat_lt];omega
   rw [if_pos this] at hs
   exact⟨by rw [hs],by rw [hW1];exact hx2⟩
  have hn1:¬k[i] < k'[i]:=by rw [UInt8.lt_iff_toNat_lt];omega
  rw [if_neg hn1] at hs
  refine jl hW1 fun W2 hW2=>?_
  refine zen i rfl (by omega) ?_
  refine zen i rfl (by omega) ?_
  refine je (s:=.int .u8) (t:=(k[i].toNat:Int)) hW2 ha (by rw [List.getElem?_toArray,zdi hik,List.getD_eq_getElem?_getD,List.getElem?_eq_getElem hik];rfl) ?_
  refine je (s:=.int .u8) (t:=(k'[i].toNat:Int)) hW2 hb (by rw [List.getElem?_toArray,zdi hik',List.getD_eq_getElem?_getD,List.getElem?_eq_getElem hik'];rfl) ?_
  refine zq (fun hl=>?_) (fun hnl2=>?_)
  ·have:k'[i] < k[i]:=by rw [UInt8.lt_iff_toNat_lt];omega
   rw [if_pos this] at hs
   exact⟨by rw [hs],by rw [hW2];exact hx2⟩
  refine jd ((i+1:Nat):Int) (by omega) (by omega) (by omega) ?_
  refine⟨⟨i+1,rfl,by omega,hW2,fun j hj=>?_⟩,by omega⟩
  by_cases e:j=i
  ·subst e
   rw [List.getElem?_eq_getElem hik,List.getElem?_eq_getElem hik']
   congr 1
   rw [<-UInt8.toNat_inj];omega
  ·exact heq j (by omega)
 ·have:i=32:=by omega
  subst this
  rw [List.drop_of_length_le (by omega),List.drop_of_length_le (by omega)] at hs
  exact⟨by rw [hs];rfl,by rw [hW];exact hx2⟩
structure Split (rl:SM) (k:List UInt8) (pre rest:SM):Prop where
 eq:rl=pre++rest
 lo:∀ x∈pre,Lib.compareBytes x.1 k < 0
 hi:∀ x∈rest,¬Lib.compareBytes x.1 k < 0
theorem qdb {rl:SM}{k:List UInt8}(hr:zjj rl){i:Nat}(hi:i<=rl.length) (h1:∀ x∈rl.take i,Lib.compareBytes x.1 k < 0) (h2:∀ h:i < rl.length,¬Lib.compareBytes (rl[i]).1 k < 0):Split rl k (rl.take i) (rl.drop i):=by
 refine⟨(List.take_append_drop i rl).symm,h1,fun x hx=>?_⟩
 obtain⟨j,hj,rfl⟩:=List.mem_iff_getElem.1 hx
 simp only [List.length_drop] at hj
 rw [List.getElem_drop]
 by_cases hj0:j=0
 ·subst hj0;exact h2 (by omega)
 ·have h3:=h2 (by omega)
  have h4:Lib.compareBytes (rl[i]'(by omega)).1 (rl[i+j]'(by omega)).1 < 0:=List.pairwise_iff_getElem.1 hr i (i+j) (by omega) (by omega) (by omega)
  intro h5
  exact h3 (zfv.2 (List.lt_trans (zfv.1 h4) (zfv.1 h5)))
def hit (rest:SM) (k:List UInt8):Bool:=match rest with | []=>false | x :: _=>decide (x.1=k)
theorem zm8 {rl pre rest:SM}{k:List UInt8}(h:Split rl k pre rest) (hr:zjj rl) (hh:hit rest k=false):zaa rl k=none:=by
 unfold zaa
 rw [zhw];rfl
 intro x hx e
 rw [h.eq] at hx
 rcases List.mem_append.1 hx with hx | hx
 ·have:=h.lo x hx;rw [e,zgf.2 rfl] at this;omega
 ·cases rest with
  | nil=>cases hx
  | cons y rest=>
   rcases List.mem_cons.1 hx with rfl | hx
   ·simp [hit,e] at hh
   ·have h1:Lib.compareBytes y.1 x.1 < 0:=by
     have:=hr;unfold zjj at this;rw [h.eq] at this
     exact (List.pairwise_cons.1 (List.pairwise_append.1 this).2.1).1 x hx
    rw [e] at h1
    exact h.hi y (by simp) h1
theorem zpr {rl pre rest:SM}{k:List UInt8}(h:Split rl k pre rest) (hr:zjj rl) (hh:hit rest k=true):∃ x t,rest=x :: t/\x.1=k/\zaa rl k=some x.2.1.2/\rl[pre.length]?=some x/\x∈rl:=by
 cases rest with
 | nil=>simp [hit] at hh
 | cons x t=>
  have e:x.1=k:=by simpa [hit] using hh
  have hm:x∈rl:=by rw [h.eq];simp
  exact⟨x,t,rfl,e,by rw [<-e];exact z5b hr.nodup hm,by rw [h.eq];simp,hm⟩
theorem z5r {rl pre rest:SM}{k:List UInt8}(h:Split rl k pre rest) (hr:zjj rl):hit rest k=(zaa rl k).isSome:=by
 cases hh:hit rest k with
 | false=>rw [zm8 h hr hh];rfl
 | true=>obtain⟨x,t,_,_,h1,_⟩:=zpr h hr hh;rw [h1];rfl
set_option maxHeartbeats 2000000 in
theorem zzq {w:World}{H:Heap}{fp:List Nat}{p:Nat}{q:Int}{rl:SM}{k:List UInt8}(hw:w.heap=H) (hS:zc4 H fp p q rl) (hk:k.length=32) (hn:rl.length < 1099511627776) :
  qc P zc8 #[.pointer (some ⟨p,0,none⟩),arr k] w fun e w'=>∃ pre rest,e=.returned (.tuple #[.int .i64 (pre.length:Int),.bool (hit rest k)])/\Split rl k pre rest/\Ext [] H w'.heap:=by
 obtain⟨x,h1,h2,h3,h4,h5,h6,h7⟩:=hS
 have hxl:=zfq h2
 refine zrv ?_
 unfold zl3
 refine jv hw fun w1 hw1=>?_
 have hx1:Ext [] H w1.heap:=by rw [hw1];exact .push _
 have hb1:w1.heap[H.size]?=some (.cells (byteCells k).toArray zf (0,0)):=by rw [hw1];exact zn
 have h11:=hx1.get h1 (by simp)
 have h21:=h2.ext hx1 (by simp)
 refine joinP_of (fun (s:Int) W=>∃ i:Nat,s=(i:Int)/\i<=rl.length/\Ext [] w1.heap W.heap/\(∀ y∈rl.take i,Lib.compareBytes y.1 k < 0)/\∀ h:i < rl.length,¬Lib.compareBytes (rl[i]).1 k < 0) ?_ ?_
 ·refine jg (fun (s:Int) W=>∃ i:Nat,s=(i:Int)/\i<=rl.length/\Ext [] w1.heap W.heap/\∀ y∈rl.take i,Lib.compareBytes y.1 k < 0) (fun s _=>(rl.length-s).toNat) ⟨0,rfl,Nat.zero_le _,.refl _ _,by simp⟩ ?_
  rintro _ W ⟨i,rfl,hi,hxW,hlo⟩
  refine zal ?_
  refine jl rfl fun W1 hW1=>?_
  have hx1:Ext [] w1.heap W1.heap:=by rw [hW1];exact hxW
  simp only [zy,jo,Nat.zero_add]
  refine je (s:=.slc) (t:=x) rfl (hx1.get h11 (by simp)) rfl ?_
  refine zq (fun hlt=>?_) (fun hge=>?_)
  ·have hil:i < rl.length:=by omega
   refine je (s:=.slc) (t:=x) rfl (hx1.get h11 (by simp)) rfl ?_
   refine zy6 rfl (h21.ext hx1 (by simp)).cells hxl (List.getElem?_eq_getElem hil) rfl (h7.len _ (List.getElem_mem hil)) ?_
   refine qx rfl (hx1.get hb1 (by simp)) (by simp [byteCells,hk]) ?_
   refine zk (z00 (h7.len _ (List.getElem_mem hil)) hk) ?_
   rintro e W2 ⟨rfl,hx2⟩
   refine⟨_,rfl,?_⟩
   refine zq (fun hl=>?_) (fun hnl=>⟨i,rfl,hi,hx1.trans hx2,hlo,fun _=>hnl⟩)
   refine jd ((i+1:Nat):Int) (by omega) (by omega) (by omega) ?_
   refine⟨⟨i+1,rfl,by omega,hx1.trans hx2,fun y hy=>?_⟩,by omega⟩
   rw [List.take_add_one,List.getElem?_eq_getElem hil] at hy
   rcases List.mem_append.1 hy with hy | hy
   ·exact hlo y hy
   ·simp only [Option.toList_some,List.mem_singleton] at hy;subst hy;exact hl
  ·exact⟨i,rfl,hi,hx1,hlo,fun h=>by omega⟩
 ·rintro _ W ⟨i,rfl,hi,hxW,hlo,hhi⟩
  refine jl rfl fun W1 hW1=>?_
  have hx1':Ext [] w1.heap W1.heap:=by rw [hW1];exact hxW
  have hsp:=qdb h7.rise hi hlo hhi
  have hpl:(rl.take i).length=i:=by simp;omega
  simp only [zy,jo,Nat.zero_add]
  refine je (s:=.slc) (t:=x) rfl (hx1'.get h11 (by simp)) rfl ?_
  refine zq (fun hlt=>?_) (fun hge=>?_)
  ·have hil:i < rl.length:=by omega
   refine je (s:=.slc) (t:=x) rfl (hx1'.get h11 (by simp)) rfl ?_
   refine zy6 rfl (h21.ext hx1' (by simp)).cells hxl (List.getElem?_eq_getElem hil) rfl (h7.len _ (List.getElem_mem hil)) ?_
   refine qx rfl (hx1'.get hb1 (by simp)) (by simp [byteCells,hk]) ?_
   refine qp (s:=.bool) _ (zry u27 u5 c5 g27 (h7.len _ (List.getElem_mem hil)) hk) ?_
   refine⟨rl.take i,rl.drop i,?_,hsp,hx1.trans hx1'⟩
   rw [hpl,List.drop_eq_getElem_cons hil]
   rfl
  ·refine⟨rl.take i,rl.drop i,?_,hsp,hx1.trans hx1'⟩
   rw [hpl,List.drop_of_length_le (by omega)]
   rfl
theorem z6y {rl:SM}{i:Nat}(h:i < rl.length):total (rl.take (i+1))=total (rl.take i)+(rl[i]).2.1.2.length:=by
 unfold total
 rw [List.take_add_one,List.getElem?_eq_getElem h,List.map_append,List.sum_append]
 simp
theorem zqf {rl:SM}{i:Nat}:total (rl.take i)<=total rl:=by
 conv=>rhs;rw [<-List.take_append_drop i rl]
 unfold total
 rw [List.map_append,List.sum_append]
 omega
theorem zos {H:Heap}{fp:List Nat}{rl:SM}(h:z1z H fp rl){i:Nat}{x:List UInt8×BV×Nat}(hi:rl[i]?=some x):x.2.1.1.2.1=x.2.1.2.length:=by
 have:=(h x (List.mem_of_getElem? hi)).1.len
 rw [ji] at this;omega
theorem z5c {w:World}{H:Heap}{fp:List Nat}{p:Nat}{q:Int}{rl:SM}(hw:w.heap=H) (hS:zc4 H fp p q rl) (hn:rl.length < 1099511627776) (ht:total rl < 1125899906842624) :
  qc P zfn #[.pointer (some ⟨p,0,none⟩)] w fun e w'=>e=.returned (.int .i64 (total rl:Int))/\w'=w:=by
 obtain⟨x,h1,h2,h3,h4,h5,h6,h7⟩:=hS
 have hxl:=zfq h2
 refine zpm ?_
 unfold zku
 refine jg (fun (s:Int×Int) W=>∃ i:Nat,s=((total (rl.take i):Int),(i:Int))/\i<=rl.length/\W=w) (fun s _=>(rl.length-s.2).toNat) ⟨0,rfl,Nat.zero_le _,rfl⟩ ?_
 rintro _ _ ⟨i,rfl,hi,rfl⟩
 simp only [zy,jo,Nat.zero_add]
 refine je (s:=.slc) (t:=x) hw h1 rfl ?_
 refine zq (fun hlt=>?_) (fun hge=>?_)
 ·have hil:i < rl.length:=by omega
  refine je (s:=.slc) (t:=x) hw h1 rfl ?_
  refine zjs hw h2.cells hxl (List.getElem?_eq_getElem hil) rfl ?_
  have hv:=zos h5 (List.getElem?_eq_getElem hil)
  have ht1:=z6y hil
  have ht2:=zqf (rl:=rl) (i:=i+1)
  refine jd ((total (rl.take (i+1)):Nat):Int) (by rw [hv];omega) (by omega) (by omega) ?_
  refine jd ((i+1:Nat):Int) (by omega) (by omega) (by omega) ?_
  exact⟨⟨i+1,rfl,by omega,trivial⟩,by omega⟩
 ·have:i=rl.length:=by omega
  subst this
  rw [List.take_length]
  exact⟨rfl,trivial⟩
theorem qgf {w:World}{H:Heap}(hw:w.heap=H){K:(Option Addr×Nat×Nat)->World->Prop}(hK:∀ w',Ext [] H w'.heap->Mine w'.heap H.size xg 1 (some ⟨H.size,0,none⟩,0,0) []->K (some ⟨H.size,0,none⟩,0,0) w'):zas P (Instr.buildSlice zi 0 #[]) .slc w K:=by
 refine zam (s:=.slc) (some ⟨H.size,0,none⟩,0,0) { w with heap:=H.push (.cells #[] xg) } (by rw [<-hw];kernel_rfl) ?_
 exact hK _ (.push _) (.inr ⟨H.size,#[],rfl,Nat.le_refl _,zn,rfl,rfl,Nat.le_refl _,rfl⟩)
theorem qj1 {w:World}{H:Heap}(hw:w.heap=H){K:(Option Addr×Nat×Nat)->World->Prop}(hK:∀ w',Ext [] H w'.heap->Mine w'.heap H.size zbr 33 (some ⟨H.size,0,none⟩,0,0) []->K (some ⟨H.size,0,none⟩,0,0) w'):zas P (Instr.buildSlice jk 0 #[]) .slc w K:=by
 refine zam (s:=.slc) (some ⟨H.size,0,none⟩,0,0) { w with heap:=H.push (.cells #[] zbr) } (by rw [<-hw];kernel_rfl) ?_
 exact hK _ (.push _) (.inr ⟨H.size,#[],rfl,Nat.le_refl _,zn,rfl,rfl,Nat.le_refl _,rfl⟩)
theorem qac {w:World}{H:Heap}{B:Nat}{a:Option Addr}{l c:Nat}{L:List UInt8}{x:Option Addr×Nat×Nat}(hw:w.heap=H) (hx:Mine H B xg 1 x []) (hB:B<=H.size) (hL:Cells H a (byteCells L)) (hl:l=L.length) (hlen:L.length < 140000000000000){K:(Option Addr×Nat×Nat)->World->Prop}
  (hK:∀ x' w',Mine w'.heap B xg 1 x' (byteCells L)->x'.2.1=L.length->Ext (jf x) H w'.heap->K x' w'):zas P (Builtin.append_ #[zi,zi] zi #[.slice x.1 x.2.1 x.2.2,.slice a l c]) .slc w K:=by
 subst hl
 have h0:x.2.1=0:=by have:=hx.len;simp at this;omega
 refine zth hw hx hB (Src.slc hw hL (by simp)) jr (by omega) ?_
 intro x2 w2 hO2 hl2 hx2 hm2
 rw [List.nil_append] at hO2
 exact hK x2 w2 hO2 (by omega) hx2
theorem zc4.rise {H:Heap}{fp:List Nat}{p:Nat}{q:Int}{rl:SM}(hS:zc4 H fp p q rl):zjj rl:=by obtain⟨_,_,_,_,_,_,_,h7⟩:=hS;exact h7.rise
theorem zc4.keys {H:Heap}{fp:List Nat}{p:Nat}{q:Int}{rl:SM}(hS:zc4 H fp p q rl):(rl.map (·.1)).Nodup:=hS.rise.nodup
set_option maxHeartbeats 2000000 in
theorem qeb {w:World}{H:Heap}{fp:List Nat}{p:Nat}{q:Int}{rl:SM}{k:List UInt8}(hw:w.heap=H) (hS:zc4 H fp p q rl) (hk:k.length=32) (hn:rl.length < 1099511627776) (hlen:∀ L,zaa rl k=some L->L.length < 1099511627776) :
  qc P zg8 #[.pointer (some ⟨p,0,none⟩),arr k] w fun e w'=>∃ x,e=.returned (.tuple #[zbv x,.int .i64 (got (zaa rl k) k)])/\Ext [] H w'.heap /\
   (got (zaa rl k) k=0->∃ L,zaa rl k=some L/\Mine w'.heap H.size xg 1 x (byteCells L))/\(got (zaa rl k) k≠0->x=(none,0,0)):=by
 refine zta ?_
 unfold zmt
 refine jv hw fun w1 hw1=>?_
 have hx1:Ext [] H w1.heap:=by rw [hw1];exact .push _
 have hb1:w1.heap[H.size]?=some (.cells (byteCells k).toArray zf (0,0)):=by rw [hw1];exact zn
 have hs1:H.size<=w1.heap.size:=hx1.1
 refine qx rfl hb1 (by simp [byteCells,hk]) ?_
 refine zk (zzq rfl (hS.ext hx1 (by simp)) hk hn) ?_
 rintro e w2 ⟨pre,rest,rfl,hsp,hx2⟩
 refine⟨((pre.length:Int),hit rest k),rfl,?_⟩
 have hx02:=hx1.trans hx2
 cases hh:hit rest k with
 | false=>
  refine zah rfl ?_
  rw [zm8 hsp hS.rise hh]
  exact⟨(none,0,0),rfl,hx02,(by intro h;simp [got] at h),fun _=>rfl⟩
 | true=>
  refine jm rfl ?_
  obtain⟨y,t,_,_,hvy,hget,hmem⟩:=zpr hsp hS.rise hh
  have hL:=hlen _ hvy
  obtain⟨x,h1,h2,h3,h4,h5,h6,h7⟩:=hS
  have hxl:=zfq h2
  have hyl:=zos h5 hget
  refine jl rfl fun w3 hw3=>?_
  have hx03:Ext [] H w3.heap:=by rw [hw3];exact hx02
  simp only [zy,jo,Nat.zero_add]
  refine je (s:=.slc) (t:=x) rfl (hx03.get h1 (by simp)) rfl ?_
  refine zjs rfl (h2.ext hx03 (by simp)).cells hxl hget rfl ?_
  have hb3:w3.heap[H.size]?=some (.cells (byteCells k).toArray zf (0,0)):=by rw [hw3];exact hx2.get hb1 (by simp)
  refine qx rfl hb3 (by simp [byteCells,hk]) ?_
  refine zk (znh rfl ((h5 y hmem).1.ext hx03 (by simp)).cells hyl (by omega)) ?_
  rintro e w4 ⟨rfl,hx4⟩
  refine⟨arr (Sha.sum y.2.1.2),rfl,?_⟩
  have hx04:=hx03.trans hx4
  refine⟨qx rfl (hx4.get hb3 (by simp)) (by simp [byteCells,hk]) rfl,?_⟩
  refine qp (s:=.bool) _ (ztr u27 u5 c5 g27 zad hk) ?_
  rw [hvy]
  by_cases e:Sha.sum y.2.1.2=k
  ·refine jm (by simp [e]) ?_
   refine qgf rfl fun w5 hx5 hm5=>?_
   have hx05:=hx04.trans hx5
   refine je (s:=.slc) (t:=x) rfl (hx05.get h1 (by simp)) rfl ?_
   refine zjs rfl (h2.ext hx05 (by simp)).cells hxl hget rfl ?_
   refine qac rfl hm5 hx5.1 ((h5 y hmem).1.ext hx05 (by simp)).cells hyl (by omega) ?_
   intro x' w6 hm6 hl6 hx6
   refine⟨x',by simp [got,e];rfl,hx05.own hx6 (by intro b hb;have:=hx04.1;simp [jf] at hb;omega),fun _=>⟨_,rfl,hm6.mono hx04.1⟩,fun h=>absurd (by simp [got,e]) h⟩
  ·refine zah (by simp [e]) ?_
   exact⟨(none,0,0),by simp [got,e];rfl,hx04,(by intro h;simp [got,e] at h),fun _=>rfl⟩
def zki (rl ol:SM):Nat:=((rl.filter fun x=>(zaa ol x.1).isNone).map fun x=>x.2.1.2.length).sum
theorem z2c {rl ol:SM}{i:Nat}(h:i < rl.length):zki (rl.take (i+1)) ol=zki (rl.take i) ol+if (zaa ol (rl[i]).1).isSome then 0 else (rl[i]).2.1.2.length:=by
 unfold zki
 rw [List.take_add_one,List.getElem?_eq_getElem h,List.filter_append,List.map_append,List.sum_append]
 cases hv:zaa ol (rl[i]).1 <;> simp [hv]
theorem z9l {rl ol:SM}:zki rl ol<=total rl:=by
 induction rl with
 | nil=>simp [zki]
 | cons x l ih=>
  unfold zki total at *
  simp only [List.filter_cons,List.map_cons,List.sum_cons]
  split
  ·simp only [List.map_cons,List.sum_cons];omega
  ·omega
theorem qbt {w:World}{H:Heap}{fp fo:List Nat}{p o:Nat}{q qo:Int}{rl ol:SM}(hw:w.heap=H) (hS:zc4 H fp p q rl) (hO:zc4 H fo o qo ol) (hn:rl.length < 1099511627776) (hno:ol.length < 1099511627776) (ht:total rl < 1125899906842624) :
  qc P zhe #[.pointer (some ⟨p,0,none⟩),.pointer (some ⟨o,0,none⟩)] w fun e w'=>e=.returned (.int .i64 (zki rl ol:Int))/\Ext [] H w'.heap:=by
 obtain⟨x,h1,h2,h3,h4,h5,h6,h7⟩:=hS
 have hxl:=zfq h2
 refine zpq ?_
 unfold zkl
 refine jg (fun (s:Int×Int) W=>∃ i:Nat,s=((zki (rl.take i) ol:Int),(i:Int))/\i<=rl.length/\Ext [] H W.heap) (fun s _=>(rl.length-s.2).toNat) ⟨0,rfl,Nat.zero_le _,by rw [hw];exact .refl _ _⟩ ?_
 rintro _ W ⟨i,rfl,hi,hxW⟩
 simp only [zy,jo,Nat.zero_add]
 refine je (s:=.slc) (t:=x) rfl (hxW.get h1 (by simp)) rfl ?_
 refine zq (fun hlt=>?_) (fun hge=>?_)
 ·have hil:i < rl.length:=by omega
  have hget:=List.getElem?_eq_getElem hil
  have hk:=h7.len _ (List.getElem_mem hil)
  have hv:=zos h5 hget
  refine joinP_of (fun (s:Int) W2=>s=(zki (rl.take (i+1)) ol:Int)/\Ext [] H W2.heap) ?_ ?_
  ·refine je (s:=.slc) (t:=x) rfl (hxW.get h1 (by simp)) rfl ?_
   refine zy6 rfl (h2.ext hxW (by simp)).cells hxl hget rfl hk ?_
   refine zk (zzq rfl (hO.ext hxW (by simp)) hk hno) ?_
   rintro e W2 ⟨pre,rest,rfl,hsp,hx2⟩
   refine⟨((pre.length:Int),hit rest (rl[i]).1),rfl,?_⟩
   have hns:=z2c (rl:=rl) (ol:=ol) hil
   have hle:=z9l (rl:=rl.take (i+1)) (ol:=ol)
   have hle2:=zqf (rl:=rl) (i:=i+1)
   rw [<-z5r hsp hO.rise] at hns
   cases hh:hit rest (rl[i]).1 with
   | false=>
    rw [hh] at hns
    simp only [Bool.false_eq_true,if_false] at hns
    refine zah rfl ?_
    have hx02:=hxW.trans hx2
    refine je (s:=.slc) (t:=x) rfl (hx02.get h1 (by simp)) rfl ?_
    refine zjs rfl (h2.ext hx02 (by simp)).cells hxl hget rfl ?_
    refine jd ((zki (rl.take (i+1)) ol:Nat):Int) (by rw [hv];omega) (by omega) (by omega) ?_
    exact⟨rfl,hx02⟩
   | true=>
    rw [hh] at hns
    simp only [if_true,Nat.add_zero] at hns
    refine jm rfl ?_
    exact⟨by rw [hns],hxW.trans hx2⟩
  ·rintro _ W2 ⟨rfl,hx2⟩
   refine jd ((i+1:Nat):Int) (by omega) (by omega) (by omega) ?_
   exact⟨⟨i+1,rfl,by omega,hx2⟩,by omega⟩
 ·have:i=rl.length:=by omega
  subst this
  rw [List.take_length]
  exact⟨rfl,hxW⟩
end Go.Proofs.YtbmegmbnlajbbaaGreatDoor.Bl
