/- Part 5 of the texts below the card, joined. -/
import Derived.Test.YtbmegmbnlajbbaaGreatDoorTRpd
import Derived.Test.YtbmegmbnlajbbaaGreatDoorTRpc
import Derived.KernelRfl
import Derived.Shelf.SlSortCmp.WholeK
import Derived.Shelf.Small.Bits
import Derived.Test.YtbmegmbnlajbbaaGreatDoorProg
namespace Go.Proofs.YtbmegmbnlajbbaaGreatDoor
open Go Go.Fw Go.Proofs
theorem qdj {k:Nat}{K:Int->Prop}(h:K ((k % 128:Nat):Int)):qa3 (k:Int) 128 K:=zw0 k 128 rfl rfl (by omega) h
theorem qg4 {k:Nat}{K:Int->Prop}(hk:k < 128) (h:K ((k+128:Nat):Int)):zbv .u64 (k:Int) 128 K:=by
 refine⟨_,?_,h⟩
 rw [wrap_u64 (by omega) (by omega)];omega
theorem qhs {k:Nat}{K:Int->Prop}(hk:k < 18446744073709551616) (h:K ((k / 128:Nat):Int)):qe3 .u64 (k:Int) 128 K:=by
 refine⟨by omega,_,?_,h⟩
 rw [Int.tdiv_eq_ediv_of_nonneg (by omega),wrap_u64 (by omega) (by omega)]
 omega
theorem qd4 {m:Nat}{K:Int->Prop}(hm:m < 256) (h:K ((UInt8.ofNat m).toNat:Int)):cvI .u8 (m:Int) K:=cv8 h
theorem zts {w:World}{H:Heap}{n:Nat}(hw:w.heap=H) (hn:n < 18446744073709551616) :
  zy P zix #[.int .u64 (n:Int)] w fun e w'=>∃ y,e=.returned (zb2 y)/\Mine w'.heap H.size qw 1 y (byteCells (zph n))/\Ext [] H w'.heap:=by
 have hnl:=zd7 hn
 refine z6a ?_
 unfold zz4
 refine jg (fun (s:Int×(Option Addr×Nat×Nat)) W=>∃ (k:Nat) (M:List UInt8),s.1=(k:Int)/\k < 18446744073709551616/\Mine W.heap H.size qw 1 s.2 (byteCells M)/\Ext [] H W.heap/\M++zph k=zph n) (fun s _=>s.1.toNat)
  ⟨n,[],rfl,hn,.inl ⟨rfl,rfl⟩,by rw [hw];exact .refl _ _,rfl⟩ ?_
 rintro ⟨_,x⟩ W ⟨k,M,rfl,hk,hm,hx,hM⟩
 have hMl:M.length<=10:=by have:=congrArg List.length hM;simp at this;omega
 have hs:=hx.1
 refine zx (fun h=>?_) (fun h=>?_)
 ·have hk1:127 < k:=by simp only at h;omega
  refine qdj ?_
  refine qg4 (by omega) ?_
  refine qd4 (by omega) ?_
  refine qjw _ rfl rfl fun w2 hx2 hm2=>?_
  refine qcd rfl (hm.ext hx2 (by simp)) (by have:=hx2.1;omega) hm2.cells rfl (by simp;omega) fun x3 w3 hm3 hx3 hs3=>?_
  refine qhs hk ?_
  refine⟨⟨k / 128,M++[UInt8.ofNat (k % 128+128)],rfl,by omega,hm3,zi6 (hx.trans hx2) (hm.ext hx2 (by simp)) (Nat.le_refl _) hx3,by rw [<-hM,zpp hk1];simp⟩,by simp only;omega⟩
 ·have hk1:k<=127:=by simp only at h;omega
  refine qd4 (by omega) ?_
  refine qjw _ rfl rfl fun w2 hx2 hm2=>?_
  refine qcd rfl (hm.ext hx2 (by simp)) (by have:=hx2.1;omega) hm2.cells rfl (by simp;omega) fun x3 w3 hm3 hx3 hs3=>?_
  rw [show M++[UInt8.ofNat k]=zph n by rw [<-hM,zpe hk1]] at hm3
  exact⟨x3,rfl,hm3,zi6 (hx.trans hx2) (hm.ext hx2 (by simp)) (Nat.le_refl _) hx3⟩
theorem z5j {w:World}{H:Heap}(L:List UInt8) (hw:w.heap=H) (hL:L.length<=549755813888) :
  zy P zm9 #[.string (strOf L)] w fun e w'=>∃ y,e=.returned (zb2 y)/\Mine w'.heap H.size qw 1 y (byteCells (zo4 L))/\Ext [] H w'.heap:=by
 refine z2w ?_
 unfold zwx
 have hnl:=zd7 (n:=L.length) (by omega)
 refine zf6 (by omega) (by simp;omega) ?_
 refine zl (zts (n:=L.length) hw (by omega)) ?_
 rintro e w1 ⟨y,rfl,hm1,hx1⟩
 refine⟨y,rfl,?_⟩
 refine qjh rfl hm1 (by have:=hx1.1;omega) (by omega) fun x2 w2 hm2 hx2 hs2=>?_
 exact⟨x2,rfl,hm2,zi6 hx1 hm1 (Nat.le_refl _) hx2⟩
theorem zka {H H':Heap}{M F:List Nat}{x:Option Addr×Nat×Nat}{B:List UInt8}(h:Cells H x.1 (byteCells B)) (hx:Ext M H H') (hF:B≠[]->∀ c∈jk x,c∈F) (hM:∀ c∈F,c∉M):Cells H' x.1 (byteCells B):=
 h.ext hx fun a ha hne=>hM _ (hF (fun h0=>hne (by rw [h0];rfl)) _ (by simp [jk,ha]))
def znt (H:Heap) (b:Nat) (F:List Nat) (s:Rest):Prop:=∃ (x:Option Addr×Nat×Nat) (i:Nat) (e:Int) (B:List UInt8),H[b]?=some (.cells #[zb2 x,.int .i64 (i:Int),.int .i64 e] znb (0,0))/\b∉F/\(B≠[]->∀ c∈jk x,c∈F) /\
 Cells H x.1 (byteCells B)/\x.2.1=B.length/\x.2.1<=x.2.2/\B.length<=1099511627776/\i<=B.length/\(match s with | some R=>e=0/\R=B.drop i | none=>e≠0)
theorem znt.ext {H H':Heap}{b:Nat}{F M:List Nat}{s:Rest}(h:znt H b F s) (hx:Ext M H H') (hb:b∉M) (hF:∀ c∈F,c∉M):znt H' b F s:=by
 obtain⟨x,i,e,B,h1,h2,h3,h4,h5⟩:=h
 exact⟨x,i,e,B,hx.get h1 hb,h2,h3,zka h4 hx h3 hF,h5⟩
theorem znt.lt {H:Heap}{b:Nat}{F:List Nat}{s:Rest}(h:znt H b F s):b < H.size:=by obtain⟨x,i,e,B,h1,_⟩:=h;exact lt_of_get h1
theorem qay {w:World}{H:Heap}{b:Nat}{F:List Nat}{s:Rest}(code:Int) (hw:w.heap=H) (hI:znt H b F s) (hc:code≠0) :
  zy P zcf #[.pointer (some ⟨b,0,none⟩),.int .i64 code] w fun e w'=>e=.returned (.tuple #[])/\znt w'.heap b F none/\Ext [b] H w'.heap:=by
 obtain⟨x,i,e,B,h1,h2,h3,h4,h5,h6,h7,h8,_⟩:=hI
 refine zyo ?_
 unfold zsh
 simp only [qg,vg]
 refine zbd hw h1 (by simp) fun w1 hw1=>?_
 have hx1:Ext [b] H w1.heap:=by rw [hw1];exact Ext.set _ (by simp)
 have hb1:w1.heap[b]?=some (.cells #[zb2 x,.int .i64 (i:Int),.int .i64 code] znb (0,0)):=by rw [hw1];exact qc h1
 refine je (s:=.slc) (t:=x) rfl hb1 rfl ?_
 refine zbd rfl hb1 (by simp) fun w2 hw2=>?_
 have hx2:Ext [b] H w2.heap:=by rw [hw2];exact hx1.set_own (.inr (by simp))
 refine⟨trivial,⟨x,B.length,code,B,by rw [hw2,<-h5];exact qc hb1,h2,h3,zka h4 hx2 h3 fun c hc h=>by simp at h;subst h;exact h2 hc,h5,h6,h7,Nat.le_refl _,hc⟩,hx2⟩
theorem z9n {w:World}{H:Heap}{b:Nat}{F:List Nat}{R:List UInt8}(hw:w.heap=H) (hI:znt H b F (some R)) :
  zy P zgw #[.pointer (some ⟨b,0,none⟩)] w fun e w'=>e=.returned (.int .i64 (R.length:Int))/\w'.heap=H:=by
 obtain⟨x,i,e,B,h1,h2,h3,h4,h5,h6,h7,h8,rfl,rfl⟩:=hI
 refine zv5 ?_
 unfold zqi
 refine jv hw fun w1 hw1=>?_
 simp only [qg,vg]
 refine je (s:=.slc) (t:=x) hw1 h1 rfl ?_
 refine je (s:=.int .i64) (t:=(i:Int)) hw1 h1 rfl ?_
 refine zb3 (((B.drop i).length:Nat):Int) (by simp;omega) (by omega) (by simp;omega) ?_
 exact⟨rfl,hw1⟩
theorem qke {W:World}{b:Nat}{F:List Nat}{c:UInt8}{R:List UInt8}{K:Int->World->Prop}(hI:znt W.heap b F (some (c :: R))) (hK:∀ w',znt w'.heap b F (some R)->Ext [b] W.heap w'.heap->K (c.toNat:Int) w') :
  zbn W fun w_4=>ld .slc (⟨b,0,none⟩:Addr) w_4 fun (t30:(Option Addr×Nat×Nat))=>ld (.int .i64) (⟨b,0+1,none⟩:Addr) w_4 fun (t34:Int)=>ixS t30.1 t30.2.1 1 t34 fun t35=>ld (.int .u8) t35 w_4 fun (t36:Int)=>
   ld (.int .i64) (⟨b,0+1,none⟩:Addr) w_4 fun (t40:Int)=>zbv .i64 t40 1 fun t41=>stC (⟨b,0+1,none⟩:Addr) (Value.int .i64 t41) w_4 fun w_5=>K t36 w_5:=by
 obtain⟨x,i,e,B,h1,h2,h3,h4,h5,h6,h7,h8,rfl,hR⟩:=hI
 have hlen:i < B.length:=by have:=congrArg List.length hR;simp at this;omega
 have hget:B.getD i 0=c:=by
  have h:=congrArg List.head? hR
  rw [List.head?_drop] at h
  simp at h
  simp [List.getD_eq_getElem?_getD,<-h]
 have hdrop:R=B.drop (i+1):=by
  have h:=congrArg List.tail hR
  simpa using h
 refine jv rfl fun w1 hw1=>?_
 refine je (s:=.slc) (t:=x) hw1 h1 rfl ?_
 refine je (s:=.int .i64) (t:=(i:Int)) hw1 h1 rfl ?_
 obtain⟨b2,o,cs,T,fr,hx1,hb2,ho,hby⟩:=h4.bytes (by intro h;rw [h] at hlen;simp at hlen)
 rw [hx1]
 refine zkk i rfl (by omega) ?_
 refine je (s:=.int .u8) (t:=(c.toNat:Int)) hw1 hb2 (by have:=hby i hlen;simp only [hget] at this;exact this) ?_
 refine je (s:=.int .i64) (t:=(i:Int)) hw1 h1 rfl ?_
 refine jd ((i+1:Nat):Int) (by omega) (by omega) (by omega) ?_
 refine zbd hw1 h1 (by simp) fun w2 hw2=>?_
 have hx:Ext [b] W.heap w2.heap:=by rw [hw2];exact Ext.set _ (by simp)
 exact hK w2 ⟨x,i+1,0,B,by rw [hw2];exact qc h1,h2,h3,zka h4 hx h3 fun d hd h=>by simp at h;subst h;exact h2 hd,h5,h6,h7,by omega,rfl,hdrop⟩ hx
theorem qk1 {W:World}{b:Nat}{F:List Nat}{R:List UInt8}{A B:World->Prop}(hI:znt W.heap b F (some R)) (hA:R=[]->∀ w',w'.heap=W.heap->A w') (hB:R≠[]->∀ w',w'.heap=W.heap->B w') :
  zbn W fun w_2=>ld (.int .i64) (⟨b,0+1,none⟩:Addr) w_2 fun (t18:Int)=>ld .slc (⟨b,0,none⟩:Addr) w_2 fun (t22:(Option Addr×Nat×Nat))=>xu (decide (t18>=(t22.2.1:Int))) (A w_2) (B w_2):=by
 obtain⟨x,i,e,B',h1,h2,h3,h4,h5,h6,h7,h8,rfl,rfl⟩:=hI
 refine jv rfl fun w1 hw1=>?_
 refine je (s:=.int .i64) (t:=(i:Int)) hw1 h1 rfl ?_
 refine je (s:=.slc) (t:=x) hw1 h1 rfl ?_
 refine zx (fun h=>hA (List.drop_eq_nil_of_le (by omega)) w1 hw1) (fun h=>hB (fun h0=>?_) w1 hw1)
 have:=congrArg List.length h0
 simp at this;omega
theorem znt.err {H:Heap}{b:Nat}{F:List Nat}{s:Rest}(h:znt H b F s):∃ (e:Int),(∀ {w:World}{K:Int->Prop},w.heap=H->K e->ld (.int .i64) (⟨b,0+2,none⟩:Addr) w K)/\(e=0 ↔ s.isSome=true):=by
 obtain⟨x,i,e,B,h1,_,_,_,_,_,_,_,h9⟩:=h
 refine⟨e,fun hw hK=>je (s:=.int .i64) (t:=e) hw h1 rfl hK,?_⟩
 cases s with
 | none=>simpa using h9
 | some R=>simp [h9.1]
theorem zzm {w:World}{H:Heap}{b:Nat}{F:List Nat}{s:Rest}(hw:w.heap=H) (hI:znt H b F s) :
  zy P zfa #[.pointer (some ⟨b,0,none⟩)] w fun e w'=>e=.returned (.int .u64 ((nmS s).1:Int))/\znt w'.heap b F (nmS s).2/\Ext [b] H w'.heap:=by
 obtain⟨ec,hld,hec⟩:=hI.err
 refine zy4 ?_
 unfold zr1
 simp only [qg,vg]
 refine hld hw ?_
 cases s with
 | none=>exact zan (fun _=>⟨rfl,by rw [hw];exact hI,by rw [hw];exact .refl _ _⟩) (fun h=>by have:=hec.1 h;simp at this)
 | some R0=>
 refine jr (by rw [hec.2 rfl];rfl) ?_
 refine jg (fun (s:Int×Int) W=>∃ (acc e:Nat) (R:List UInt8),s=((acc:Int),(e:Int))/\e<=9/\acc < 128 ^ e/\znt W.heap b F (some R)/\rdN e acc R=rdNum R0/\Ext [b] H W.heap) (fun s _=>(10-s.2).toNat)
  ⟨0,0,R0,rfl,by omega,by simp,by rw [hw];exact hI,rfl,by rw [hw];exact .refl _ _⟩ ?_
 rintro _ W ⟨acc,e,R,rfl,he,hacc,hIW,hrd,hxW⟩
 refine zai (by simp;omega) ?_
 refine zar ?_
 refine qk1 hIW (fun h w2 hw2=>?_) (fun h w2 hw2=>?_)
 ·subst h
  have:nmS (some R0)=(0,none):=by simp only [nmS,<-hrd,rdN]
  rw [this]
  refine zl (qay 20 hw2 hIW (by omega)) ?_
  rintro e3 w3 ⟨rfl,h3,hx3⟩
  exact⟨(),rfl,rfl,h3,hxW.trans hx3⟩
 cases R with
 | nil=>exact absurd rfl h
 | cons c R=>
 have hIW2:znt w2.heap b F (some (c :: R)):=by rw [hw2];exact hIW
 refine qke hIW2 fun w5 hI5 hx25=>?_
 have hx5:Ext [b] H w5.heap:=hxW.trans (by rw [<-hw2];exact hx25)
 have hc256:=c.toNat_lt
 have hbad:((e=9/\1 < c.toNat)\/(0 < e/\c.toNat=0))->qy P zcf #[(Value.pointer (some ⟨b,0,none⟩)),(Value.int .i64 21)] [] true w5 fun (_:Unit) w_3=>
   Ending.returned (Value.int .u64 0)=.returned (.int .u64 ((nmS (some R0)).1:Int))/\znt w_3.heap b F (nmS (some R0)).2/\Ext [b] H w_3.heap:=by
  intro hb
  have:nmS (some R0)=(0,none):=by simp only [nmS,<-hrd,rdN,if_pos hb]
  rw [this]
  refine zl (qay 21 rfl hI5 (by omega)) ?_
  rintro e3 w3 ⟨rfl,h3,hx3⟩
  exact⟨(),rfl,rfl,h3,hx5.trans hx3⟩
 refine joinP_of (fun _ W'=>W'=w5/\¬((e=9/\1 < c.toNat)\/(0 < e/\c.toNat=0))) ?_ ?_
 ·refine zbo (fun h9=>?_) (fun h9=>?_)
  ·refine zx (fun h1=>hbad (.inl ⟨by omega,by omega⟩)) (fun h1=>?_)
   refine zx (fun hp=>?_) (fun hp=>⟨rfl,by omega⟩)
   exact zbo (fun h0=>hbad (.inr ⟨by omega,by omega⟩)) (fun h0=>⟨rfl,by omega⟩)
  ·refine zx (fun hp=>?_) (fun hp=>⟨rfl,by simp only at h9 hp;omega⟩)
   exact zbo (fun h0=>hbad (.inr ⟨by simp only at hp;omega,by omega⟩)) (fun h0=>⟨rfl,by simp only at h9;omega⟩)
 rintro _ W' ⟨rfl,hok⟩
 refine qdj ?_
 refine zf6 (by omega) (by omega) ?_
 refine zfo (7 * (e:Int)) rfl (by omega) (by omega) ?_
 refine zf6 (by omega) (by omega) ?_
 refine more7 he hacc (fun h=>by omega) rfl ?_
 refine zx (fun h=>?_) (fun h=>?_)
 ·have hc:c.toNat < 128:=by omega
  have:nmS (some R0)=(acc+c.toNat * 128 ^ e,some R):=by simp only [nmS,<-hrd,rdN,if_neg hok,if_pos hc]
  rw [this,Nat.mod_eq_of_lt hc]
  exact⟨rfl,hI5,hx5⟩
 ·have hc:¬c.toNat < 128:=by omega
  refine jd ((e+1:Nat):Int) (by omega) (by omega) (by omega) ?_
  refine⟨⟨_,e+1,R,rfl,by omega,?_,hI5,?_,hx5⟩,by omega⟩
  ·rw [Nat.pow_succ]
   have:c.toNat % 128 * 128 ^ e<=127 * 128 ^ e:=Nat.mul_le_mul_right _ (by omega)
   omega
  ·rw [<-hrd];simp only [rdN,if_neg hok,if_neg hc]
theorem z9f {w:World}{H:Heap}{b:Nat}{F:List Nat}{s:Rest}{most:Nat}(hw:w.heap=H) (hI:znt H b F s) (hm:most<=1073741824) :
  zy P zh9 #[.pointer (some ⟨b,0,none⟩),.int .i64 (most:Int)] w fun e w'=>e=.returned (.string (strOf (txS most s).1))/\znt w'.heap b F (txS most s).2/\Ext [b] H w'.heap:=by
 refine zv9 ?_
 unfold zpx
 refine zl (zzm hw hI) ?_
 rintro e w1 ⟨rfl,h1,hx1⟩
 refine⟨((nmS s).1:Int),rfl,?_⟩
 obtain⟨ec,hld,hec⟩:=h1.err
 simp only [qg,vg]
 refine hld rfl ?_
 cases hs:(nmS s).2 with
 | none=>
  rw [hs] at hec h1
  have:txS most s=([],none):=by
   cases s with
   | none=>rfl
   | some R=>
    simp only [nmS] at hs
    simp only [txS,zm4]
    cases h:rdNum R with
    | none=>rfl
    | some y=>rw [h] at hs;simp at hs
  rw [this]
  exact zan (fun _=>⟨rfl,h1,hx1⟩) (fun h=>by have:=hec.1 h;simp at this)
 | some R=>
 rw [hs] at hec
 refine jr (by rw [hec.2 rfl];rfl) ?_
 obtain⟨R0,rfl,hn⟩:∃ R0,s=some R0/\rdNum R0=some ((nmS s).1,R):=by
  cases s with
  | none=>simp [nmS] at hs
  | some R0=>
   refine⟨R0,rfl,?_⟩
   simp only [nmS] at hs |-
   cases h:rdNum R0 with
   | none=>rw [h] at hs;simp at hs
   | some y=>rw [h] at hs;simp at hs |-;rw [<-hs]
 rw [hs] at h1
 have hlt:=(zw1 hn).2
 generalize (nmS (some R0)).1=n at hn hlt
 refine joinP_of (fun _ W=>W=w1/\n<=most) ?_ ?_
 ·refine jr (by simp) ?_
  refine zai (by simp) ?_
  refine zf6 (by omega) (by omega) ?_
  refine zx (fun h=>?_) (fun h=>⟨rfl,by omega⟩)
  have:txS most (some R0)=([],none):=by simp only [txS,zm4,hn];rw [if_pos (by omega)]
  rw [this]
  refine zl (qay 2 rfl h1 (by omega)) ?_
  rintro e3 w3 ⟨rfl,h3,hx3⟩
  exact⟨(),rfl,rfl,h3,hx1.trans hx3⟩
 rintro _ W ⟨hW,hnm⟩
 subst hW
 refine zl (z9n rfl h1) ?_
 rintro e w6 ⟨rfl,hw6⟩
 refine⟨(R.length:Int),rfl,?_⟩
 have h6:znt w6.heap b F (some R):=by rw [hw6];exact h1
 have hx6:Ext [b] H w6.heap:=by rw [hw6];exact hx1
 obtain⟨x,i,e,B,g1,g2,g3,g4,g5,g6,g7,g8,rfl,rfl⟩:=id h6
 have hRl:(B.drop i).length=B.length-i:=by simp
 refine zf6 (by omega) (by omega) ?_
 refine zx (fun h=>?_) (fun h=>?_)
 ·have:txS most (some R0)=([],none):=by simp only [txS,zm4,hn];rw [if_pos (by omega)]
  rw [this]
  refine zl (qay 20 rfl h6 (by omega)) ?_
  rintro e3 w3 ⟨rfl,h3,hx3⟩
  exact⟨(),rfl,rfl,h3,hx6.trans hx3⟩
 ·have hnl:n<=B.length-i:=by omega
  have:txS most (some R0)=((B.drop i).take n,some ((B.drop i).drop n)):=by simp only [txS,zm4,hn];rw [if_neg (by omega)]
  rw [this]
  refine jv rfl fun w8 hw8=>?_
  refine zhb (by omega) (by omega) ?_
  refine je (s:=.slc) (t:=x) hw8 g1 rfl ?_
  refine je (s:=.int .i64) (t:=(i:Int)) hw8 g1 rfl ?_
  refine je (s:=.int .i64) (t:=(i:Int)) hw8 g1 rfl ?_
  refine jd ((i+n:Nat):Int) (by omega) (by omega) (by omega) ?_
  have hc:=(zrd g4 i (by omega)).take n
  rw [zfv] at hc
  have hrun:=za9 (P:=P) (w:=w8) (a:=x.1) (len:=x.2.1) (cap:=x.2.2) (l:=i) (h:=i+n) uS8 sz8 (.yes (k:=.i64) (i:=(i:Int)) rfl) (.yes (k:=.i64) (i:=((i+n:Nat):Int)) rfl) (by omega) (by omega)
  obtain⟨y,hy⟩:∃ y:Option Addr×Nat×Nat,y=(if x.2.2=i then x.1 else x.1.map (·.add (i * 1)),(i+n)-i,x.2.2-i):=⟨_,rfl⟩
  have hy1:y.1=(z1v x i).1:=by rw [hy];rfl
  have hy2:y.2.1=((B.drop i).take n).length:=by rw [hy];simp;omega
  refine qm (s:=.slc) y (by rw [hy];exact hrun) ?_
  refine qm (s:=.str) _ (zyc uS8 u8 z4r hw8 (by rw [hy1];exact hc) hy2) ?_
  refine je (s:=.int .i64) (t:=(i:Int)) hw8 g1 rfl ?_
  refine zhb (by omega) (by omega) ?_
  refine jd ((i+n:Nat):Int) (by omega) (by omega) (by omega) ?_
  refine zbd hw8 g1 (by simp) fun w9 hw9=>?_
  have hx:Ext [b] w6.heap w9.heap:=by rw [hw9];exact Ext.set _ (by simp)
  refine⟨rfl,⟨x,i+n,0,B,by rw [hw9];exact qc g1,g2,g3,zka g4 hx g3 fun d hd h=>by simp at h;subst h;exact g2 hd,g5,g6,g7,by omega,rfl,by rw [List.drop_drop]⟩,hx6.trans hx⟩
end Go.Proofs.YtbmegmbnlajbbaaGreatDoor
namespace Go.Fw.Sha
open Go.Fw
def rotr (x:BitVec 32) (n:Nat):BitVec 32:=x >>> n ||| x <<< (32-n)
def kc:List Nat:=[1116352408,1899447441,3049323471,3921009573,961987163,1508970993,2453635748,2870763221,3624381080,310598401,607225278,1426881987,1925078388,2162078206,2614888103,3248222580,3835390401,4022224774,264347078,604807628,770255983,1249150122,1555081692,1996064986,2554220882,2821834349,2952996808,3210313671,3336571891,3584528711,113926993,338241895,666307205,773529912,1294757372,1396182291,1695183700,1986661051,2177026350,2456956037,2730485921,2820302411,3259730800,3345764771,3516065817,3600352804,4094571909,275423344,430227734,506948616,659060556,883997877,958139571,1322822218,1537002063,1747873779,1955562222,2024104815,2227730452,2361852424,2428436474,2756734187,3204031479,3329325298]
def K (t:Nat):BitVec 32:=BitVec.ofNat 32 (kc.getD t 0)
def ic:List Nat:=[1779033703,3144134277,1013904242,2773480762,1359893119,2600822924,528734635,1541459225]
def init (t:Nat):BitVec 32:=BitVec.ofNat 32 (ic.getD t 0)
def W (m:Nat->BitVec 32) (t:Nat):BitVec 32:=
 if t < 16 then m t
 else (rotr (W m (t-2)) 17 ^^^ rotr (W m (t-2)) 19 ^^^ W m (t-2) >>> 10)+W m (t-7)+(rotr (W m (t-15)) 7 ^^^ rotr (W m (t-15)) 18 ^^^ W m (t-15) >>> 3)+W m (t-16)
termination_by t
def one (s:Nat->BitVec 32) (k w:BitVec 32):BitVec 32:=
 s 7+(rotr (s 4) 6 ^^^ rotr (s 4) 11 ^^^ rotr (s 4) 25)+(s 4 &&& s 5 ^^^ ~~~ s 4 &&& s 6)+k+w
def two (s:Nat->BitVec 32):BitVec 32:=
 (rotr (s 0) 2 ^^^ rotr (s 0) 13 ^^^ rotr (s 0) 22)+(s 0 &&& s 1 ^^^ s 0 &&& s 2 ^^^ s 1 &&& s 2)
def step (s:Nat->BitVec 32) (k w:BitVec 32):Nat->BitVec 32
 | 0=>one s k w+two s
 | 4=>s 3+one s k w
 | i+1=>s i
def rnd (w s:Nat->BitVec 32):Nat->Nat->BitVec 32
 | 0=>s
 | t+1=>step (rnd w s t) (K t) (w t)
def comp (s m:Nat->BitVec 32):Nat->BitVec 32:=fun i=>s i+rnd (W m) s 64 i
def word (f:Nat->UInt8) (t:Nat):BitVec 32:=b32 (f (4 * t)) <<< 24 ||| b32 (f (4 * t+1)) <<< 16 ||| b32 (f (4 * t+2)) <<< 8 ||| b32 (f (4 * t+3))
def nth (l:List UInt8) (i:Nat):UInt8:=l.getD i 0
def blocks (l:List UInt8):Nat->Nat->BitVec 32
 | 0=>init
 | n+1=>comp (blocks l n) (word fun j=>nth l (64 * n+j))
def be8 (n:Nat):List UInt8:=(List.range 8).map fun i=>UInt8.ofNat (n / 2 ^ (56-8 * i))
def pad (l:List UInt8):List UInt8:=l++[128]++List.replicate ((119-l.length % 64) % 64) 0++be8 (l.length * 8)
def out (s:Nat->BitVec 32) (i:Nat):UInt8:=lo8 (s (i / 4) >>> (24-8 * (i % 4)))
def sum (l:List UInt8):List UInt8:=(List.range 32).map (out (blocks (pad l) ((pad l).length / 64)))
theorem W_lt {m:Nat->BitVec 32}{t:Nat}(h:t < 16):W m t=m t:=by rw [W,if_pos h]
theorem W_ge {m:Nat->BitVec 32}{t:Nat}(h:16<=t):W m t=(rotr (W m (t-2)) 17 ^^^ rotr (W m (t-2)) 19 ^^^ W m (t-2) >>> 10)+W m (t-7)+(rotr (W m (t-15)) 7 ^^^ rotr (W m (t-15)) 18 ^^^ W m (t-15) >>> 3)+W m (t-16):=by
 rw [W,if_neg (by omega)]
theorem W_congr {m m':Nat->BitVec 32}(h:∀ t,t < 16->m t=m' t) (t:Nat):W m t=W m' t:=by
 induction t using Nat.strongRecOn with
 | _ t ih=>
  by_cases ht:t < 16
  ·rw [W_lt ht,W_lt ht,h t ht]
  ·rw [W_ge (m:=m) (t:=t) (by omega),W_ge (m:=m') (t:=t) (by omega),ih (t-2) (by omega),ih (t-7) (by omega),ih (t-15) (by omega),ih (t-16) (by omega)]
end Go.Fw.Sha
namespace Go.Proofs.YtbmegmbnlajbbaaGreatDoor.Bl
open Go Go.Fw Go.Proofs
theorem zoh (x:BitVec 32) (n:Nat){i:Int}(hi:i=(n:Int)) (h0:0 < n) (hn:n < 32) (w:World):zy P zdn #[.int .u32 (x.toNat:Int),.int .u64 i] w fun e w'=>e=.returned (.int .u32 ((Sha.rotr x n).toNat:Int))/\w'=w:=by
 subst hi
 refine z3e ?_
 unfold zw8
 refine qa7 _ n rfl (by omega) ?_
 refine⟨((32-n:Nat):Int),?_,?_⟩
 ·rw [wrap_u64] <;> omega
 refine qfy _ (32-n) rfl (by omega) ?_
 refine orW _ _ ?_
 exact⟨rfl,rfl⟩
theorem zwi (x:BitVec 32) (n:Nat){i:Int}(hi:i=-(n:Int)) (h0:0 < n) (hn:n < 32) (w:World):zy P jy #[.int .u32 (x.toNat:Int),.int .i64 i] w fun e w'=>e=.returned (.int .u32 ((Sha.rotr x n).toNat:Int))/\w'=w:=by
 subst hi
 refine zjz ?_
 unfold zf8
 refine⟨((18446744073709551616-n:Nat):Int),?_,?_⟩
 ·simp only [IntKind.wrap,IntKind.bits,IntKind.signed]
  have e:(2:Int) ^ 64=18446744073709551616:=by decide
  simp only [e,Bool.false_and,Bool.false_eq_true,if_false]
  omega
 refine⟨((32-n:Nat):Int),?_,?_⟩
 ·have this:(BitVec.ofInt IntKind.u64.bits ((18446744073709551616-n:Nat):Int) &&& BitVec.ofInt IntKind.u64.bits 31).toNat=32-n:=by
   change (BitVec.ofNat 64 (18446744073709551616-n) &&& BitVec.ofNat 64 31).toNat=32-n
   rw [BitVec.toNat_and,BitVec.toNat_ofNat,BitVec.toNat_ofNat]
   have e31:31 % 2 ^ 64=2 ^ 5-1:=by decide
   have e1:(18446744073709551616-n) % 2 ^ 64=18446744073709551616-n:=Nat.mod_eq_of_lt (by omega)
   rw [e31,Nat.and_two_pow_sub_one_eq_mod,e1]
   omega
  rw [this,wrap_u64] <;> omega
 refine qfy _ (32-n) rfl (by omega) ?_
 refine⟨((n:Nat):Int),?_,?_⟩
 ·rw [wrap_u64] <;> omega
 refine qa7 _ n rfl (by omega) ?_
 refine orW _ _ ?_
 refine⟨?_,rfl⟩
 unfold Sha.rotr
 rw [BitVec.or_comm]
theorem qh6:zc P zas=(List.replicate 64 (Value.int .u32 0)).toArray:=by kernel_rfl
theorem qf2:zc P vk=(List.replicate 8 (Value.int .u32 0)).toArray:=by kernel_rfl
theorem z3p:P.cellsOf vk=8:=by kernel_rfl
theorem qe9 (a b c d e f g h:Int) (w:World):(Instr.build vk #[(0,.int .u32 a),(1,.int .u32 b),(2,.int .u32 c),(3,.int .u32 d),(4,.int .u32 e),(5,.int .u32 f),(6,.int .u32 g),(7,.int .u32 h)]).run P w =
  .ok (.agg #[.int .u32 a,.int .u32 b,.int .u32 c,.int .u32 d,.int .u32 e,.int .u32 f,.int .u32 g,.int .u32 h]) w:=by kernel_rfl
set_option maxHeartbeats 4000000 in
theorem qik {w:World}{H:Heap}{hp bb off l lc:Nat}{c cb rc:Array Value}{Tb rT:TypeId}{frb rfr:Nat×Nat}{s:Nat->BitVec 32}{f:Nat->UInt8}(hw:w.heap=H)
  (hH:H[hp]?=some (.cells c za6 (0,0))) (hsz:c.size=74) (hS:Words c 0 s 8) (hB:H[bb]?=some (.cells cb Tb frb)) (hb:Bytes cb off f 64) (hl:64<=l)
  (hR:H[0]?=some (.cells rc rT rfr)) (hr:Words rc 0 Sha.K 64) (h0:hp≠0) :
  zy P zj1 #[.pointer (some ⟨hp,0,none⟩),.slice (some ⟨bb,off,none⟩) l lc] w fun e w'=>e=.returned (.tuple #[])/\Ext [hp] H w'.heap /\
   ∃ c',w'.heap[hp]?=some (.cells c' za6 (0,0))/\c'.size=74/\Words c' 0 (Sha.comp s (Sha.word f)) 8/\∀ i,8<=i->c'[i]?=c[i]?:=by
 refine ztn ?_
 unfold zof
 refine jm hw fun w1 hw1=>?_
 refine jg (fun s w=>∃ (t:Nat) (H':Heap) (c4:Array Value),s=(t:Int)/\t<=16/\w.heap=H'/\Ext [] H H'/\H'[H.size]?=some (.cells c4 zas (0,0))/\c4.size=64/\Words c4 0 (Sha.W (Sha.word f)) t)
  (fun s _=>(16-s).toNat) ⟨0,_,_,rfl,by omega,hw1,.push _,zk,by rw [qh6];rfl,fun i hi=>by omega⟩ ?_
 rintro _ w2 ⟨t,H2,c4,rfl,ht,hw2,hx2,hc4,hs4,hW⟩
 refine zx (fun hlt=>?_) (fun hge=>?_)
 ·have hlt:t < 16:=by omega
  refine jv hw2 fun w3 hw3=>?_
  have hB2:=hx2.get hB (by simp)
  refine zfo ((4 * t:Nat):Int) (by omega) (by omega) (by omega) ?_
  refine zkk (4 * t) rfl (by omega) ?_
  refine zfo ((4 * t:Nat):Int) (by omega) (by omega) (by omega) ?_
  refine jd ((4 * t+1:Nat):Int) (by omega) (by omega) (by omega) ?_
  refine zkk (4 * t+1) rfl (by omega) ?_
  refine zfo ((4 * t:Nat):Int) (by omega) (by omega) (by omega) ?_
  refine jd ((4 * t+2:Nat):Int) (by omega) (by omega) (by omega) ?_
  refine zkk (4 * t+2) rfl (by omega) ?_
  refine zfo ((4 * t:Nat):Int) (by omega) (by omega) (by omega) ?_
  refine jd ((4 * t+3:Nat):Int) (by omega) (by omega) (by omega) ?_
  refine zkk (4 * t+3) rfl (by omega) ?_
  refine je hw3 hB2 (hb (4 * t) (by omega)) ?_
  refine cvB ?_
  refine qfy _ 24 rfl (by omega) ?_
  refine je hw3 hB2 (hb (4 * t+1) (by omega)) ?_
  refine cvB ?_
  refine qfy _ 16 rfl (by omega) ?_
  refine orW _ _ ?_
  refine je hw3 hB2 (hb (4 * t+2) (by omega)) ?_
  refine cvB ?_
  refine qfy _ 8 rfl (by omega) ?_
  refine orW _ _ ?_
  refine je hw3 hB2 (hb (4 * t+3) (by omega)) ?_
  refine cvB ?_
  refine orW _ _ ?_
  refine zeg t rfl (by omega) ?_
  refine zbd hw3 hc4 (by omega) fun w4 hw4=>?_
  refine jd ((t+1:Nat):Int) (by omega) (by omega) (by omega) ?_
  refine⟨⟨t+1,_,_,rfl,by omega,hw4,hx2.set_own (.inl (Nat.le_refl _)),qc hc4,by simpa using hs4,?_⟩,by omega⟩
  exact hW.snoc (by omega) (by rw [Sha.W_lt hlt];rfl)
 have ht16:t=16:=by omega
 subst ht16
 clear hge ht
 refine jg (fun s w=>∃ (t:Nat) (H':Heap) (c4:Array Value),s=(t:Int)/\16<=t/\t<=64/\w.heap=H'/\Ext [] H H'/\H'[H.size]?=some (.cells c4 zas (0,0))/\c4.size=64/\Words c4 0 (Sha.W (Sha.word f)) t)
  (fun s _=>(64-s).toNat) ⟨16,_,_,rfl,by omega,by omega,hw2,hx2,hc4,hs4,hW⟩ ?_
 clear hw2 hx2 hc4 hs4 hW
 rintro _ w2 ⟨t,H2,c4,rfl,ht,ht',hw2,hx2,hc4,hs4,hW⟩
 refine zx (fun hlt=>?_) (fun hge=>?_)
 ·have hlt:t < 64:=by omega
  refine jv hw2 fun w3 hw3=>?_
  refine zb3 ((t-2:Nat):Int) (by omega) (by omega) (by omega) ?_
  refine zeg (t-2) rfl (by omega) ?_
  refine zb3 ((t-15:Nat):Int) (by omega) (by omega) (by omega) ?_
  refine zeg (t-15) rfl (by omega) ?_
  refine je hw3 hc4 (hW.at (t-2) (by omega)) ?_
  refine je hw3 hc4 (hW.at (t-15) (by omega)) ?_
  refine zbw (l:=[.int .u32]) _ (zwi _ 17 rfl (by omega) (by omega) _) ?_
  refine zbw (l:=[.int .u32]) _ (zwi _ 19 rfl (by omega) (by omega) _) ?_
  refine zv4 _ _ ?_
  refine qa7 _ 10 rfl (by omega) ?_
  refine zv4 _ _ ?_
  refine zbw (l:=[.int .u32]) _ (zwi _ 7 rfl (by omega) (by omega) _) ?_
  refine zbw (l:=[.int .u32]) _ (zwi _ 18 rfl (by omega) (by omega) _) ?_
  refine zv4 _ _ ?_
  refine qa7 _ 3 rfl (by omega) ?_
  refine zv4 _ _ ?_
  refine jv hw3 fun w4 hw4=>?_
  refine zb3 ((t-7:Nat):Int) (by omega) (by omega) (by omega) ?_
  refine zeg (t-7) rfl (by omega) ?_
  refine zb3 ((t-16:Nat):Int) (by omega) (by omega) (by omega) ?_
  refine zeg (t-16) rfl (by omega) ?_
  refine je hw4 hc4 (hW.at (t-7) (by omega)) ?_
  refine zv2 _ _ ?_
  refine zv2 _ _ ?_
  refine je hw4 hc4 (hW.at (t-16) (by omega)) ?_
  refine zv2 _ _ ?_
  refine zeg t rfl (by omega) ?_
  refine zbd hw4 hc4 (by omega) fun w5 hw5=>?_
  refine jd ((t+1:Nat):Int) (by omega) (by omega) (by omega) ?_
  refine⟨⟨t+1,_,_,rfl,by omega,by omega,hw5,hx2.set_own (.inl (Nat.le_refl _)),qc hc4,by simpa using hs4,?_⟩,by omega⟩
  exact hW.snoc (by omega) (by rw [Sha.W_ge ht])
 have ht64:t=64:=by omega
 subst ht64
 clear hge ht ht'
 have hH2:=hx2.get hH (by simp)
 have hR2:=hx2.get hR (by simp)
 have hlt:=lt_of_get hH2
 simp only [qg]
 refine zhc hw2 hH2 (by omega) ?_
 rw [hS.extract (by omega)]
 refine jm hw2 fun w3 hw3=>?_
 refine zay (z3p.trans (by simp [Value.cells])) (by simp [Value.cells]) zt9 hw3 zk (by rw [qf2];simp [Value.cells]) fun w4 hw4=>?_
 rw [show setCells (zc P vk) 0 (Value.cells (.agg (W32 s 8))).toList=W32 s 8 from by rw [zak (by rw [qf2];simp [Value.cells])];simp [Value.cells]] at hw4
 have hb4:H.size < H2.size:=lt_of_get hc4
 refine jg (fun s' w=>∃ (t:Nat) (H':Heap) (c8:Array Value),s'=(t:Int)/\t<=64/\w.heap=H'/\Ext [] H2 H'/\H'[H2.size]?=some (.cells c8 vk (0,0))/\c8.size=8/\Words c8 0 (Sha.rnd (Sha.W (Sha.word f)) s t) 8)
  (fun s _=>(64-s).toNat) ⟨0,_,_,rfl,by omega,hw4,(Ext.push _).set_own (.inl (Nat.le_refl _)),qc zk,by simp,zj8⟩ ?_
 rintro _ w5 ⟨t,H5,c8,rfl,ht,hw5,hx5,hc8,hs8,hV⟩
 refine zx (fun hlt=>?_) (fun hge=>?_)
 ·have hlt:t < 64:=by omega
  have hc4':=hx5.get hc4 (by simp)
  have hR':=hx5.get hR2 (by simp)
  refine jv hw5 fun w6 hw6=>?_
  refine je hw6 hc8 (hV.at 4 (by omega)) ?_
  refine zbw (l:=[.int .u32]) _ (zwi _ 6 rfl (by omega) (by omega) _) ?_
  refine je hw6 hc8 (hV.at 4 (by omega)) ?_
  refine zbw (l:=[.int .u32]) _ (zwi _ 11 rfl (by omega) (by omega) _) ?_
  refine zv4 _ _ ?_
  refine je hw6 hc8 (hV.at 4 (by omega)) ?_
  refine zbw (l:=[.int .u32]) _ (zwi _ 25 rfl (by omega) (by omega) _) ?_
  refine zv4 _ _ ?_
  refine jv hw6 fun w7 hw7=>?_
  refine zeg t rfl (by omega) ?_
  refine zeg t rfl (by omega) ?_
  refine je hw7 hc8 (hV.at 7 (by omega)) ?_
  refine zv2 _ _ ?_
  refine je hw7 hc8 (hV.at 4 (by omega)) ?_
  refine je hw7 hc8 (hV.at 5 (by omega)) ?_
  refine qa5 _ _ ?_
  refine je hw7 hc8 (hV.at 4 (by omega)) ?_
  refine z4j _ ?_
  refine je hw7 hc8 (hV.at 6 (by omega)) ?_
  refine qa5 _ _ ?_
  refine zv4 _ _ ?_
  refine zv2 _ _ ?_
  refine je hw7 hR' (hr.at t (by omega)) ?_
  refine zv2 _ _ ?_
  refine je hw7 hc4' (hW.at t (by omega)) ?_
  refine zv2 _ _ ?_
  refine jv hw7 fun w8 hw8=>?_
  refine je hw8 hc8 (hV.at 0 (by omega)) ?_
  refine zbw (l:=[.int .u32]) _ (zwi _ 2 rfl (by omega) (by omega) _) ?_
  refine je hw8 hc8 (hV.at 0 (by omega)) ?_
  refine zbw (l:=[.int .u32]) _ (zwi _ 13 rfl (by omega) (by omega) _) ?_
  refine zv4 _ _ ?_
  refine je hw8 hc8 (hV.at 0 (by omega)) ?_
  refine zbw (l:=[.int .u32]) _ (zwi _ 22 rfl (by omega) (by omega) _) ?_
  refine zv4 _ _ ?_
  refine je hw8 hc8 (hV.at 0 (by omega)) ?_
  refine je hw8 hc8 (hV.at 1 (by omega)) ?_
  refine qa5 _ _ ?_
  refine je hw8 hc8 (hV.at 0 (by omega)) ?_
  refine je hw8 hc8 (hV.at 2 (by omega)) ?_
  refine qa5 _ _ ?_
  refine zv4 _ _ ?_
  refine je hw8 hc8 (hV.at 1 (by omega)) ?_
  refine je hw8 hc8 (hV.at 2 (by omega)) ?_
  refine qa5 _ _ ?_
  refine zv4 _ _ ?_
  refine zv2 _ _ ?_
  refine zv2 _ _ ?_
  refine je hw8 hc8 (hV.at 0 (by omega)) ?_
  refine je hw8 hc8 (hV.at 1 (by omega)) ?_
  refine je hw8 hc8 (hV.at 2 (by omega)) ?_
  refine je hw8 hc8 (hV.at 3 (by omega)) ?_
  refine zv2 _ _ ?_
  refine je hw8 hc8 (hV.at 4 (by omega)) ?_
  refine je hw8 hc8 (hV.at 5 (by omega)) ?_
  refine je hw8 hc8 (hV.at 6 (by omega)) ?_
  refine qm _ (qe9 _ _ _ _ _ _ _ _ _) ?_
  refine zay (z3p.trans rfl) (by simp [Value.cells]) (by intro v hv;simp [Value.cells] at hv;rcases hv with h | h | h | h | h | h | h | h <;> subst h <;> rfl) hw8 hc8 (by simp [Value.cells];omega) fun w9 hw9=>?_
  refine jd ((t+1:Nat):Int) (by omega) (by omega) (by omega) ?_
  refine⟨⟨t+1,_,_,rfl,by omega,hw9,hx5.set_own (.inl (Nat.le_refl _)),qc hc8,by simpa using hs8,?_⟩,by omega⟩
  rw [zak (by simp [Value.cells];omega)]
  intro i hi
  match i,hi with
  | 0,_=>rfl
  | 1,_=>rfl
  | 2,_=>rfl
  | 3,_=>rfl
  | 4,_=>rfl
  | 5,_=>rfl
  | 6,_=>rfl
  | 7,_=>rfl
 have ht64:t=64:=by omega
 subst ht64
 clear hge ht
 have hx52:Ext [] H H5:=hx2.trans hx5
 have hH5:=hx52.get hH (by simp)
 have hne:hp≠H2.size:=by have:=lt_of_get hH;omega
 refine jg (fun s' w=>∃ (t:Nat) (H':Heap) (c':Array Value),s'=(t:Int)/\t<=8/\w.heap=H'/\Ext [hp] H H'/\H'[hp]?=some (.cells c' za6 (0,0))/\c'.size=74/\H'[H2.size]?=some (.cells c8 vk (0,0)) /\
   Words c' 0 (Sha.comp s (Sha.word f)) t/\(∀ i,t<=i->c'[i]?=c[i]?))
  (fun s _=>(8-s).toNat) ⟨0,_,_,rfl,by omega,hw5,hx52.mono (by simp),hH5,hsz,hc8,fun i hi=>by omega,fun i _=>rfl⟩ ?_
 rintro _ w6 ⟨t,H6,c',rfl,ht,hw6,hx6,hH6,hsz6,hc86,hV6,hold⟩
 refine zx (fun hlt=>?_) (fun hge=>?_)
 ·have hlt:t < 8:=by omega
  refine jv hw6 fun w7 hw7=>?_
  refine zeg t rfl (by omega) ?_
  refine zeg t rfl (by omega) ?_
  refine je hw7 hH6 ((hold t (Nat.le_refl _)).trans (hS.at t (by omega))) ?_
  refine je hw7 hc86 (hV.at t (by omega)) ?_
  refine zv2 _ _ ?_
  refine zeg t rfl (by omega) ?_
  refine zbd hw7 hH6 (by omega) fun w8 hw8=>?_
  refine jd ((t+1:Nat):Int) (by omega) (by omega) (by omega) ?_
  refine⟨⟨t+1,_,_,rfl,by omega,hw8,hx6.set_own (.inr (by simp)),qc hH6,by simpa using hsz6,zfn hc86 (Ne.symm hne),hV6.snoc (by omega) rfl,?_⟩,by omega⟩
  intro i hi
  rw [Array.getElem?_setIfInBounds_ne (by omega)]
  exact hold i (by omega)
 have ht8:t=8:=by omega
 subst ht8
 exact⟨trivial,by rw [hw6];exact hx6,c',by rw [hw6];exact hH6,hsz6,hV6,hold⟩
theorem zgi {D E:List UInt8}{i:Nat}(h:i < D.length):Sha.nth (D++E) i=Sha.nth D i:=by
 simp [Sha.nth,List.getD_eq_getElem?_getD,List.getElem?_append_left h]
theorem zy5 {D E:List UInt8}{i:Nat}(h:D.length<=i):Sha.nth (D++E) i=Sha.nth E (i-D.length):=by
 simp [Sha.nth,List.getD_eq_getElem?_getD,List.getElem?_append_right h]
theorem zk4 {D E:List UInt8}:∀ n,64 * n<=D.length->Sha.blocks (D++E) n=Sha.blocks D n
 | 0,_=>rfl
 | n+1,h=>by
  simp only [Sha.blocks]
  rw [zk4 n (by omega)]
  have:∀ t,t < 16->Sha.word (fun j=>Sha.nth (D++E) (64 * n+j)) t=Sha.word (fun j=>Sha.nth D (64 * n+j)) t:=by
   intro t ht
   simp only [Sha.word]
   rw [zgi (by omega),zgi (by omega),zgi (by omega),zgi (by omega)]
  unfold Sha.comp
  rw [funext (Sha.W_congr this)]
def zwd (H:Heap) (p:Nat) (D:List UInt8) (n:Nat):Prop:=
 ∃ c,H[p]?=some (.cells c za6 (0,0))/\c.size=74/\Words c 0 (Sha.blocks D (D.length / 64)) 8/\Bytes c 8 (fun i=>Sha.nth D (64 * (D.length / 64)+i)) (D.length % 64) /\
  c[72]?=some (.int .i64 ((D.length % 64:Nat):Int))/\c[73]?=some (.int .i64 (n:Int))/\zmj c
def Rounds (H:Heap):Prop:=∃ rc rT rfr,H[0]?=some (.cells rc rT rfr)/\Words rc 0 Sha.K 64
theorem Rounds.ext {M:List Nat}{H H':Heap}(h:Rounds H) (hx:Ext M H H') (h0:0∉M):Rounds H':=by
 obtain⟨rc,rT,rfr,h1,h2⟩:=h
 exact⟨rc,rT,rfr,hx.get h1 h0,h2⟩
theorem zwd.ext {M:List Nat}{H H':Heap}{p:Nat}{D:List UInt8}{n:Nat}(h:zwd H p D n) (hx:Ext M H H') (h0:p∉M):zwd H' p D n:=by
 obtain⟨c,h1,h2⟩:=h
 exact⟨c,hx.get h1 h0,h2⟩
theorem u89:P.underlying zrf=some (.array 64 qw):=by kernel_rfl
theorem u22:P.underlying zi=some (.slice qw):=by kernel_rfl
theorem i5:(P.info? qw).map (·.size)=some 1:=by kernel_rfl
set_option maxHeartbeats 4000000 in
theorem zy2 {w:World}{H:Heap}{p l lc:Nat}{a:Option Addr}{D L:List UInt8}(hw:w.heap=H) (hD:zwd H p D D.length) (hL:Cells H a (byteCells L)) (hl:l=L.length) (hc:l<=lc)
  (hne:L≠[]->∀ x,a=some x->x.block≠p) (hR:Rounds H) (h0:p≠0) (hlen:D.length+L.length < 4611686018427387904) :
  zy P zdo #[.pointer (some ⟨p,0,none⟩),.slice a l lc] w fun e w'=>e=.returned (.tuple #[])/\Ext [p] H w'.heap/\zwd w'.heap p (D++L) (D++L).length:=by
 subst hl
 refine zro ?_
 unfold zly
 refine jr rfl ?_
 simp only [qg,vg,Nat.zero_add]
 obtain⟨c,hp,hsz,hS,hB,h72,h73,ha1⟩:=hD
 refine je hw hp h73 ?_
 refine jd ((D.length+L.length:Nat):Int) (by omega) (by omega) (by omega) ?_
 refine zbd hw hp (by omega) fun w1 hw1=>?_
 refine jg (fun s w=>∃ (k:Nat) (H':Heap),k<=L.length/\s.2.1=L.length-k/\s.2.1<=s.2.2/\Cells H' s.1 (byteCells (L.drop k))/\(L≠[]->∀ x,s.1=some x->x.block≠p)/\w.heap=H'/\Ext [p] H H' /\
   zwd H' p (D++L.take k) (D.length+L.length)) (fun s _=>s.2.1) ?_ ?_
 ·refine⟨0,_,by omega,by simp,hc,?_,hne,hw1,Ext.set _ (by simp),_,qc hp,by simpa using hsz,?_,?_,?_,?_,ha1.set rfl⟩
  ·exact hL.ext (Ext.set (M:=[p]) _ (by simp)) (fun x hx hv=>by simpa using hne (by rintro rfl;exact hv rfl) x hx)
  ·simp only [List.take_zero,List.append_nil]
   intro i hi
   rw [Array.getElem?_setIfInBounds_ne (by omega)]
   exact hS i hi
  ·simp only [List.take_zero,List.append_nil]
   intro i hi
   rw [Array.getElem?_setIfInBounds_ne (by omega)]
   exact hB i hi
  ·simp only [List.take_zero,List.append_nil]
   rw [Array.getElem?_setIfInBounds_ne (by omega)]
   exact h72
  ·simp [hsz]
 clear hw1 hp hsz hS hB h72 h73 hL ha1
 rintro ⟨sa,sl,sc⟩ w2 ⟨k,H2,hk,hsl,hsc,hC,hnb,hw2,hx,c2,hp2,hsz2,hS2,hB2,h72,h73,ha2⟩
 simp only at hsl hsc hC hnb
 have hEl:(D++L.take k).length=D.length+k:=by simp;omega
 refine zx (fun hgt=>?_) (fun hle=>?_)
 ·have hlt:k < L.length:=by simp only at hgt;omega
  have hnb:=hnb (by rintro rfl;simp at hlt)
  refine zar ?_
  refine jv hw2 fun w3 hw3=>?_
  refine je hw3 hp2 h72 ?_
  generalize hu:(D++L.take k).length % 64=u at *
  generalize hq:(D++L.take k).length / 64=q at *
  have hu64:u < 64:=by omega
  have hEq:D.length+k=64 * q+u:=by omega
  refine qm (s:=.slc) (some ⟨p,8+u,none⟩,64-u,64-u) ?_ ?_
  ·rw [zdp u89 i5 (.yes rfl) .no (by omega) (by omega),if_neg (by omega),vg]
   simp [Sh.val]
  generalize hn:min sl (64-u)=n
  have hnl:n<=L.length-k:=by omega
  have hX:((L.drop k).take n).length=n:=by simp;omega
  obtain⟨w4,hrun,hcm4,hw4⟩:=z8y (P:=P) (w:=w3) (st:=zi) (xt:=zi) (ty:=zbl) (od:=8+u) (dl:=64-u) (dc:=64-u) (sl:=sl) (sc:=sc) (vs:=byteCells ((L.drop k).take n)) u22 i5 hw3
   (by rw [<-zfv];exact hC.take n) (by simp only [jl,hX];omega) jo hp2 (by simp only [jl,hX];omega)
  rw [hn] at hrun
  refine zah ((n:Nat):Int) w4 hrun ?_ hcm4
  generalize hXX:(L.drop k).take n=X at *
  have hE':D++L.take (k+n)=(D++L.take k)++X:=by rw [<-hXX,List.append_assoc,<-List.take_add]
  have hp4:(H2.setIfInBounds p (.cells (setCells c2 (8+u) (byteCells X)) za6 (0,0)))[p]?=some (.cells (setCells c2 (8+u) (byteCells X)) za6 (0,0)):=qc hp2
  have hg:∀ i,(setCells c2 (8+u) (byteCells X))[i]?=if 8+u<=i/\i < 8+u+n then (byteCells X)[i-(8+u)]? else c2[i]?:=by
   intro i;rw [zdc (by simp only [jl];omega)];simp only [jl,hX]
  have hS4:Words (setCells c2 (8+u) (byteCells X)) 0 (Sha.blocks (D++L.take k) q) 8:=fun i hi=>by rw [hg,if_neg (by omega)];exact hS2 i hi
  have hB4:Bytes (setCells c2 (8+u) (byteCells X)) 8 (fun i=>Sha.nth (D++L.take (k+n)) (64 * q+i)) (u+n):=by
   intro i hi
   rw [hg,hE']
   by_cases hiu:i < u
   ·rw [if_neg (by omega),hB2 i hiu]
    simp only
    rw [zgi (D:=D++L.take k) (E:=X) (by omega)]
   ·rw [if_pos (by omega),zc9 (by omega)]
    simp only
    rw [zy5 (D:=D++L.take k) (E:=X) (by omega)]
    have:8+i-(8+u)=64 * q+i-(D++L.take k).length:=by omega
    rw [this]
    rfl
  refine jv hw4 fun w5 hw5=>?_
  refine je (t:=((u:Nat):Int)) hw5 hp4 (by rw [hg,if_neg (by omega)];exact h72) ?_
  refine jd ((u+n:Nat):Int) (by omega) (by omega) (by omega) ?_
  have hsl5:∀ w,(Instr.sliceAt zi (.slice sa sl sc) (some (.int .i64 (n:Int))) none none).run P w=.ok (.slice (if sc=n then sa else sa.map (·.add (n * 1))) (sl-n) (sc-n)) w:=
   fun w=>za9 u22 i5 (.yes rfl) .no (by omega) (by omega)
  refine qm (s:=.slc) (if sc=n then sa else sa.map (·.add (n * 1)),sl-n,sc-n) (hsl5 _) ?_
  refine zbd hw5 hp4 (by simp;omega) fun w6 hw6=>?_
  refine⟨qm (s:=.slc) (if sc=n then sa else sa.map (·.add (n * 1)),sl-n,sc-n) (hsl5 _) rfl,?_⟩
  rw [set_set] at hw6
  have hp6:(H2.setIfInBounds p (.cells ((setCells c2 (8+u) (byteCells X)).setIfInBounds 72 (.int .i64 ((u+n:Nat):Int))) za6 (0,0)))[p]?=some (.cells ((setCells c2 (8+u) (byteCells X)).setIfInBounds 72 (.int .i64 ((u+n:Nat):Int))) za6 (0,0)):=qc hp2
  have ha6:zmj ((setCells c2 (8+u) (byteCells X)).setIfInBounds 72 (.int .i64 ((u+n:Nat):Int))):=(ha2.setCells jo).set rfl
  generalize hc6:(setCells c2 (8+u) (byteCells X)).setIfInBounds 72 (.int .i64 ((u+n:Nat):Int))=c6 at *
  have hsz6:c6.size=74:=by rw [<-hc6];simp;omega
  have h726:c6[72]?=some (.int .i64 ((u+n:Nat):Int)):=by rw [<-hc6];simp [hsz2]
  have hg6:∀ i,i≠72->c6[i]?=(setCells c2 (8+u) (byteCells X))[i]?:=fun i hi=>by rw [<-hc6,Array.getElem?_setIfInBounds_ne (Ne.symm hi)]
  have hS6:Words c6 0 (Sha.blocks (D++L.take k) q) 8:=fun i hi=>by rw [hg6 _ (by omega)];exact hS4 i hi
  have hB6:Bytes c6 8 (fun i=>Sha.nth (D++L.take (k+n)) (64 * q+i)) (u+n):=fun i hi=>by rw [hg6 _ (by omega)];exact hB4 i hi
  have h736:c6[73]?=some (.int .i64 ((D.length+L.length:Nat):Int)):=by rw [hg6 _ (by omega),hg,if_neg (by omega)];exact h73
  have hx6:Ext [p] H2 (H2.setIfInBounds p (.cells c6 za6 (0,0))):=Ext.set _ (by simp)
  have hE'l:(D++L.take (k+n)).length=D.length+k+n:=by simp;omega
  have hC6:Cells (H2.setIfInBounds p (.cells c6 za6 (0,0))) (if sc=n then sa else sa.map (·.add (n * 1))) (byteCells (L.drop (k+n))):=by
   have:=(hC.ext hx6 (fun x hx _=>by simpa using hnb x hx)).drop n sc (by simp;omega)
   rw [zju,List.drop_drop] at this
   rw [Nat.mul_one]
   exact this
  have hnb6:∀ x,(if sc=n then sa else sa.map (·.add (n * 1)))=some x->x.block≠p:=by
   intro x hx'
   split at hx'
   ·exact hnb x hx'
   ·cases sa with
    | none=>simp at hx'
    | some y=>
     simp only [Option.map_some,Option.some.injEq] at hx'
     subst hx'
     have:=hnb y rfl
     unfold Addr.add
     split <;> exact this
  refine je hw6 hp6 h726 ?_
  refine zbo (fun h64=>?_) (fun hn64=>?_)
  ·have h64:u+n=64:=by omega
   refine qm (s:=.slc) (some ⟨p,8,none⟩,64,64) ?_ ?_
   ·rw [zdp u89 i5 .no .no (by omega) (by omega),if_neg (by omega),vg]
    rfl
   obtain⟨rc,rT,rfr,hr1,hr2⟩:=(hR.ext hx (by simp;omega)).ext hx6 (by simp;omega)
   refine zl (qik (l:=64) (lc:=64) hw6 hp6 hsz6 hS6 hp6 (by rw [<-h64];exact hB6) (by omega) hr1 hr2 h0) ?_
   rintro e w7 ⟨rfl,hx7,c7,hp7,hsz7,hS7,hold7⟩
   refine⟨(),rfl,?_⟩
   refine zbd rfl hp7 (by omega) fun w8 hw8=>?_
   refine⟨⟨k+n,_,by omega,by simp only;omega,by simp only;omega,hC6.ext (hx7.trans (Ext.set (M:=[p]) _ (by simp))) (fun x hx _=>by simpa using hnb6 x hx),fun _=>hnb6,hw8,(hx.trans hx6).trans (hx7.trans (Ext.set _ (by simp))),_,qc hp7,by simpa using hsz7,?_,?_,?_,?_,zmj.set ?_ rfl⟩,?_⟩
   ·have e1:(D++L.take (k+n)).length / 64=q+1:=by omega
    rw [e1]
    simp only [Sha.blocks]
    rw [show Sha.blocks (D++L.take (k+n)) q=Sha.blocks (D++L.take k) q from by rw [hE'];exact zk4 q (by omega)]
    intro i hi
    rw [Array.getElem?_setIfInBounds_ne (by omega)]
    exact hS7 i hi
   ·have e1:(D++L.take (k+n)).length % 64=0:=by omega
    rw [e1]
    intro i hi;omega
   ·have e1:(D++L.take (k+n)).length % 64=0:=by omega
    rw [e1]
    simp [hsz7]
   ·rw [Array.getElem?_setIfInBounds_ne (by omega),hold7 _ (by omega)]
    exact h736
   ·intro i v hv
    by_cases hi:i < 8
    ·rw [hS7.at i hi] at hv;cases hv;rfl
    ·rw [hold7 i (by omega)] at hv;exact ha6 i v hv
   ·simp only;omega
  ·have hlt64:u+n < 64:=by omega
   have e1:(D++L.take (k+n)).length / 64=q:=by omega
   have e2:(D++L.take (k+n)).length % 64=u+n:=by omega
   refine⟨⟨k+n,_,by omega,by simp only;omega,by simp only;omega,hC6,fun _=>hnb6,hw6,hx.trans hx6,_,hp6,hsz6,?_,?_,?_,h736,ha6⟩,?_⟩
   ·rw [e1,show Sha.blocks (D++L.take (k+n)) q=Sha.blocks (D++L.take k) q from by rw [hE'];exact zk4 q (by omega)]
    exact hS6
   ·rw [e1,e2];exact hB6
   ·rw [e2];exact h726
   ·simp only;omega
 ·have hkl:k=L.length:=by simp only at hle;omega
  subst hkl
  rw [List.take_length] at *
  refine⟨trivial,by rw [hw2];exact hx,?_⟩
  rw [hw2]
  exact⟨c2,hp2,hsz2,hS2,hB2,h72,by rw [List.length_append];exact h73,ha2⟩
def c91:Array Value:=((W32 Sha.init 8).toList++List.replicate 64 (Value.int .u8 0)++[Value.int .i64 0,Value.int .i64 0]).toArray
theorem z3v (w:World):(Instr.build vk #[(0,.int .u32 1779033703),(1,.int .u32 3144134277),(2,.int .u32 1013904242),(3,.int .u32 2773480762),(4,.int .u32 1359893119),(5,.int .u32 2600822924),(6,.int .u32 528734635),(7,.int .u32 1541459225)]).run P w=.ok (.agg (W32 Sha.init 8)) w:=by
 kernel_rfl
theorem qe6 (w:World):(Instr.build za6 #[(0,.agg (W32 Sha.init 8))]).run P w=.ok (.agg c91) w:=by kernel_rfl
theorem u65:P.underlying vk=some (.array 8 zni):=by kernel_rfl
theorem u64:P.underlying zni=some (.int .u32):=by kernel_rfl
theorem i64:(P.info? zni).map (·.size)=some 1:=by kernel_rfl
theorem u92:P.underlying zkm=some (.array 8 qw):=by kernel_rfl
theorem zsj:zc P zf=(List.replicate 32 (Value.int .u8 0)).toArray:=by kernel_rfl
theorem qgz:(zc P za6).size=74:=by kernel_rfl
theorem qka:zc P zkm=(List.replicate 8 (Value.int .u8 0)).toArray:=by kernel_rfl
theorem qgu:P.cellsOf za6=74:=by kernel_rfl
theorem zjj:P.cellsOf zf=32:=by kernel_rfl
theorem qjd (x:Int) (w:World):(Instr.buildSlice zi 1 #[(0,.int .u8 x)]).run P w=.ok (.slice (some ⟨w.heap.size,0,none⟩) 1 1) { w with heap:=w.heap.push (.cells #[.int .u8 x] qw) }:=by kernel_rfl
theorem new_c {w:World}{H:Heap}(hw:w.heap=H):zy P zp3 #[] w fun e w'=>e=.returned (.pointer (some ⟨H.size,0,none⟩))/\w'.heap=H.push (.cells c91 za6)/\zwd w'.heap H.size [] 0:=by
 refine z6q ?_
 unfold zzq
 refine qm (s:=.any) _ (z3v w) ?_
 refine qm (s:=.any) _ (qe6 w) ?_
 refine jm hw fun w1 hw1=>?_
 refine⟨rfl,hw1,?_⟩
 rw [hw1]
 refine⟨c91,zk,rfl,?_,?_,rfl,rfl,?_⟩
 ·intro i hi
  match i,hi with
  | 0,_=>rfl
  | 1,_=>rfl
  | 2,_=>rfl
  | 3,_=>rfl
  | 4,_=>rfl
  | 5,_=>rfl
  | 6,_=>rfl
  | 7,_=>rfl
 ·intro i hi;simp at hi
 ·intro i v hv
  have:v∈c91.toList:=by
   have:=Array.mem_of_getElem? hv
   exact Array.mem_toList_iff.2 this
  simp only [c91,List.mem_append,List.mem_replicate,List.mem_cons] at this
  rcases this with (h | ⟨_,rfl⟩) | rfl | rfl | h
  ·exact zt9 v h
  ·rfl
  ·rfl
  ·rfl
  ·cases h
theorem qkz {c:Array Value}{i:Nat}{v:Value}(hc:c[i]?=some v) (hi:i < 8) (w:World):(Instr.index vk (.agg c) (.int .i64 (i:Int))).run P w=.ok v w:=by
 have hag:(isAgg 64).run P w=.ok false w:=by simp [isAgg,ql u64]
 have h1:(i:Int) < ((8:Nat):Int):=by omega
 simp only [Instr.index,asIntOf,Sem.run_bind,Sem.run_pure,Result.andThen_ok,ql u65]
 rw [if_pos ⟨by omega,h1⟩]
 simp [zb1 i64,part,hag,hc]
set_option maxHeartbeats 4000000 in
theorem qgb {w:World}{H:Heap}{p:Nat}{D:List UInt8}(hw:w.heap=H) (hD:zwd H p D D.length) (hR:Rounds H) (hlen:D.length < 1152921504606846976) :
  zy P zjv #[.pointer (some ⟨p,0,none⟩)] w fun e w'=>e=.returned (arr (Sha.sum D))/\Ext [] H w'.heap:=by
 refine zvf ?_
 unfold zn7
 refine jm hw fun w1 hw1=>?_
 refine zar ?_
 refine jr rfl ?_
 simp only [qg]
 have hH0:0 < H.size:=by obtain⟨_,_,_,h,_⟩:=hR;exact lt_of_get h
 obtain⟨c,hp,hsz,hS,hB,h72,h73,ha⟩:=hD
 have hpl:=lt_of_get hp
 refine qp hw1 (zc6 hp) hsz ?_
 refine jm hw1 fun w2 hw2=>?_
 refine zay (qgu.trans (by simpa [Value.cells] using hsz.symm)) (by simp only [Value.cells];omega) ha.one hw2 zk (by rw [qgz];simp [Value.cells];omega) fun w3 hw3=>?_
 rw [show setCells (zc P za6) 0 (Value.cells (.agg c)).toList=c from by rw [zak (by rw [qgz];simpa [Value.cells] using hsz)];simp [Value.cells]] at hw3
 generalize hb3:(H.push (Obj.cells (zc P zf) zf)).size=b3 at *
 have hb3':b3=H.size+1:=by rw [<-hb3];simp
 generalize hH3:((H.push (Obj.cells (zc P zf) zf)).push (Obj.cells (zc P za6) za6)).setIfInBounds b3 (Obj.cells c za6 (0,0))=H3 at *
 have hx3:Ext [] H H3:=by rw [<-hH3];exact ((Ext.push _).push_own).set_own (.inl (by omega))
 have hp3:H3[b3]?=some (.cells c za6 (0,0)):=by rw [<-hH3];exact qc (by rw [<-hb3];exact zk)
 have h23:H3[H.size]?=some (.cells (zc P zf) zf (0,0)):=by rw [<-hH3];exact zfn (zc6 zk) (by omega)
 have hD3:zwd H3 b3 D D.length:=⟨c,hp3,hsz,hS,hB,h72,h73,ha⟩
 have hR3:=hR.ext hx3 (by simp)
 refine je hw3 hp3 h73 ?_
 refine zf6 (by omega) (by omega) ?_
 refine qd3 ((8 * D.length:Nat):Int) (by omega) (by omega) (by omega) ?_
 refine zah (s:=.slc) (some ⟨H3.size,0,none⟩,1,1) _ (by rw [qjd 128 w3,hw3];rfl) ?_
 have hx4:Ext [] H3 (H3.push (Obj.cells #[Value.int .u8 128] qw)):=.push _
 have hb3l:=lt_of_get hp3
 refine zl (zy2 (w:={ w3 with heap:=H3.push (Obj.cells #[Value.int .u8 128] qw) }) (L:=[128]) rfl (hD3.ext hx4 (by simp)) (zln (H:=H3.push (Obj.cells #[Value.int .u8 128] qw)) zk (by simp) ?_) rfl (by simp) ?_ (hR3.ext hx4 (by simp)) (by omega) (by simp;omega)) ?_
 ·intro i hi
  obtain rfl:i=0:=by simp at hi;omega
  rfl
 ·intro _ x hx;cases hx;simp only;omega
 rintro e w5 ⟨rfl,hx5,hD5⟩
 refine⟨(),rfl,?_⟩
 have hx35:Ext [b3] H3 w5.heap:=(hx4.mono (by simp)).trans hx5
 clear hx5 hx4
 refine zjd (fun m _ w=>∃ (j:Nat) (H':Heap),j+m=(119-D.length % 64) % 64/\w.heap=H'/\Ext [b3] H3 H'/\zwd H' b3 (D++[128]++List.replicate j 0) (D++[128]++List.replicate j 0).length)
  ((119-D.length % 64) % 64) ⟨0,_,by omega,rfl,hx35,by simpa using hD5⟩ ?_
 clear hx35 hD5
 rintro m _ w6 ⟨j,H6,hj,hw6,hx6,c6,hp6,hsz6,hS6,hB6,h726,h736,ha6⟩ K hK
 have hl6:(D++[128]++List.replicate j 0).length=D.length+1+j:=by simp only [List.length_append,List.length_singleton,List.length_replicate]
 rw [hl6] at h726 h736
 refine je hw6 hp6 h726 ?_
 refine zan (fun hne=>?_) (fun h56=>?_)
 ·have hjlt:j < (119-D.length % 64) % 64:=by omega
  have hx7:Ext [b3] H6 (H6.push (Obj.cells #[Value.int .u8 0] qw)):=.push _
  have hb3l6:=lt_of_get hp6
  refine zah (s:=.slc) (some ⟨H6.size,0,none⟩,1,1) _ (by rw [qjd 0 w6,hw6];rfl) ?_
  refine zl (zy2 (w:={ w6 with heap:=H6.push (Obj.cells #[Value.int .u8 0] qw) }) (D:=D++[128]++List.replicate j 0) (L:=[0]) rfl ⟨c6,zc6 hp6,hsz6,hS6,hB6,by rw [hl6];exact h726,by rw [hl6];exact h736,ha6⟩
   (zln (H:=H6.push (Obj.cells #[Value.int .u8 0] qw)) zk (by simp) ?_) rfl (by simp) ?_ ((hR3.ext hx6 (by simp;omega)).ext hx7 (by simp;omega)) (by omega) (by rw [hl6];simp;omega)) ?_
  ·intro i hi
   obtain rfl:i=0:=by simp at hi;omega
   rfl
  ·intro _ x hx;cases hx;simp only;omega
  rintro e w8 ⟨rfl,hx8,hD8⟩
  refine⟨(),rfl,?_⟩
  have hrep:D++[128]++List.replicate j 0++[0]=D++[128]++List.replicate (j+1) 0:=by
   rw [List.append_assoc,<-List.replicate_succ']
  rw [hrep] at hD8
  exact hK (m-1) _ _ (by omega) ⟨j+1,_,by omega,rfl,hx6.trans (hx7.trans hx8),hD8⟩
 have hjz:j=(119-D.length % 64) % 64:=by omega
 subst hjz
 refine jm hw6 fun w7 hw7=>?_
 have hb3l6:=lt_of_get hp6
 refine jg (fun s w=>∃ (i:Nat) (H':Heap) (c5:Array Value),s=(i:Int)/\i<=8/\w.heap=H'/\Ext [] H6 H'/\H'[H6.size]?=some (.cells c5 zkm (0,0))/\c5.size=8/\Bytes c5 0 (fun i=>UInt8.ofNat (8 * D.length / 2 ^ (56-8 * i))) i)
  (fun s _=>(8-s).toNat) ⟨0,_,_,rfl,by omega,hw7,.push _,zk,by rw [qka];simp,fun i hi=>by omega⟩ ?_
 rintro _ w8 ⟨i,H8,c5,rfl,hi,hw8,hx8,hp8,hsz8,hB8⟩
 refine zx (fun hlt=>?_) (fun hge=>?_)
 ·have hlt:i < 8:=by omega
  refine zfo ((8 * i:Nat):Int) (by omega) (by omega) (by omega) ?_
  refine zb3 ((56-8 * i:Nat):Int) (by omega) (by omega) (by omega) ?_
  refine qh3 (56-8 * i) rfl (by omega) ?_
  refine cv8 ?_
  refine zeg i rfl (by omega) ?_
  refine zbd hw8 hp8 (by omega) fun w9 hw9=>?_
  refine jd ((i+1:Nat):Int) (by omega) (by omega) (by omega) ?_
  refine⟨⟨i+1,_,_,rfl,by omega,hw9,hx8.set_own (.inl (Nat.le_refl _)),qc hp8,by simpa using hsz8,hB8.snoc (by omega) rfl⟩,by omega⟩
 have hi8:i=8:=by omega
 subst hi8
 refine qm (s:=.slc) (some ⟨H6.size,0,none⟩,8,8) (by rw [zdp u92 i5 .no .no (by omega) (by omega),if_neg (by omega),vg];rfl) ?_
 have hl6':(D++[128]++List.replicate ((119-D.length % 64) % 64) (0:UInt8)).length=D.length+1+(119-D.length % 64) % 64:=by simp only [List.length_append,List.length_singleton,List.length_replicate]
 refine zl (zy2 (D:=D++[128]++List.replicate ((119-D.length % 64) % 64) 0) (L:=Sha.be8 (D.length * 8)) hw8 ⟨c6,hx8.get hp6 (by simp),hsz6,hS6,hB6,by rw [hl6];exact h726,by rw [hl6];exact h736,ha6⟩
  (zln hp8 (by simp [Sha.be8];omega) ?_) (by simp [Sha.be8]) (by omega) ?_ ((hR3.ext hx6 (by simp;omega)).ext hx8 (by simp)) (by omega) (by rw [hl6];simp [Sha.be8];omega)) ?_
 ·intro i hi
  have hi:i < 8:=by simpa [Sha.be8] using hi
  rw [hB8 i hi]
  simp [Sha.be8,hi,Nat.mul_comm]
 ·intro _ x hx;cases hx;simp only;omega
 rintro e w9 ⟨rfl,hx9,hD9⟩
 refine⟨(),rfl,?_⟩
 have hpad:D++[128]++List.replicate ((119-D.length % 64) % 64) 0++Sha.be8 (D.length * 8)=Sha.pad D:=rfl
 rw [hpad] at hD9
 obtain⟨c9,hp9,hsz9,hS9,_⟩:=hD9
 refine jm rfl fun w10 hw10=>?_
 refine zhc hw10 (zc6 hp9) (by omega) ?_
 rw [hS9.extract (by omega)]
 generalize hs:Sha.blocks (Sha.pad D) ((Sha.pad D).length / 64)=s at *
 have hx39:Ext [b3] H3 w9.heap:=hx6.trans ((hx8.mono (by simp)).trans hx9)
 refine jg (fun s' w=>∃ (i:Nat) (H':Heap) (c7:Array Value),s'=(i:Int)/\i<=8/\w.heap=H'/\Ext [] w9.heap H'/\H'[w9.heap.size]?=some (.cells c7 zf (0,0))/\c7.size=32/\Bytes c7 0 (Sha.out s) (4 * i))
  (fun s _=>(8-s).toNat) ⟨0,_,_,rfl,by omega,hw10,.push _,zk,by rw [zsj];simp,fun i hi=>by omega⟩ ?_
 rintro _ w11 ⟨i,H11,c7,rfl,hi,hw11,hx11,hp11,hsz11,hB11⟩
 refine zx (fun hlt=>?_) (fun hge=>?_)
 ·have hlt:i < 8:=by omega
  refine qm (s:=.int .u32) _ (qkz (zj8.at i hlt) hlt _) ?_
  refine zfo ((4 * i:Nat):Int) (by omega) (by omega) (by omega) ?_
  refine zfo ((4 * i:Nat):Int) (by omega) (by omega) (by omega) ?_
  refine jd ((4 * i+1:Nat):Int) (by omega) (by omega) (by omega) ?_
  refine zfo ((4 * i:Nat):Int) (by omega) (by omega) (by omega) ?_
  refine jd ((4 * i+2:Nat):Int) (by omega) (by omega) (by omega) ?_
  refine zfo ((4 * i:Nat):Int) (by omega) (by omega) (by omega) ?_
  refine jd ((4 * i+3:Nat):Int) (by omega) (by omega) (by omega) ?_
  refine qa7 _ 24 rfl (by omega) ?_
  refine cvL _ ?_
  refine qa7 _ 16 rfl (by omega) ?_
  refine cvL _ ?_
  refine qa7 _ 8 rfl (by omega) ?_
  refine cvL _ ?_
  refine cvL _ ?_
  refine zeg (4 * i) rfl (by omega) ?_
  refine zbd hw11 hp11 (by omega) fun w12 hw12=>?_
  refine zeg (4 * i+1) rfl (by omega) ?_
  refine zbd hw12 (qc hp11) (by simp;omega) fun w13 hw13=>?_
  rw [set_set] at hw13
  refine zeg (4 * i+2) rfl (by omega) ?_
  refine zbd hw13 (qc hp11) (by simp;omega) fun w14 hw14=>?_
  rw [set_set] at hw14
  refine zeg (4 * i+3) rfl (by omega) ?_
  refine zbd hw14 (qc hp11) (by simp;omega) fun w15 hw15=>?_
  rw [set_set] at hw15
  refine jd ((i+1:Nat):Int) (by omega) (by omega) (by omega) ?_
  refine⟨⟨i+1,_,_,rfl,by omega,hw15,hx11.set_own (.inl (Nat.le_refl _)),qc hp11,by simp;omega,?_⟩,by omega⟩
  have o0:Sha.out s (4 * i)=lo8 (s i >>> 24):=by
   unfold Sha.out;rw [show 4 * i / 4=i from by omega,show 4 * i % 4=0 from by omega]
  have o1:Sha.out s (4 * i+1)=lo8 (s i >>> 16):=by
   unfold Sha.out;rw [show (4 * i+1) / 4=i from by omega,show (4 * i+1) % 4=1 from by omega]
  have o2:Sha.out s (4 * i+2)=lo8 (s i >>> 8):=by
   unfold Sha.out;rw [show (4 * i+2) / 4=i from by omega,show (4 * i+2) % 4=2 from by omega]
  have o3:Sha.out s (4 * i+3)=lo8 (s i):=by
   unfold Sha.out;rw [show (4 * i+3) / 4=i from by omega,show (4 * i+3) % 4=3 from by omega];simp
  exact ((((hB11.snoc (by omega) o0.symm).snoc (by simp;omega) o1.symm).snoc (by simp;omega) o2.symm).snoc (by simp;omega) o3.symm)
 have hi8:i=8:=by omega
 subst hi8
 refine qp hw11 hp11 hsz11 ?_
 have hc7:c7=B8 (Sha.out s) 32:=by
  have:=hB11.extract (by omega)
  rw [<-this]
  exact (Array.extract_eq_self_of_le (by omega)).symm
 subst hc7
 have h211:H11[H.size]?=some (.cells (zc P zf) zf (0,0)):=hx11.get (hx39.get h23 (by simp;omega)) (by simp)
 refine zay (zjj.trans (by simp [Value.cells])) (by simp [Value.cells]) qd1 hw11 h211 (by rw [zsj];simp [Value.cells]) fun w12 hw12=>?_
 rw [show setCells (zc P zf) 0 (Value.cells (.agg (B8 (Sha.out s) 32))).toList=B8 (Sha.out s) 32 from by rw [zak (by rw [zsj];simp [Value.cells])];simp [Value.cells]] at hw12
 refine qp hw12 (qc h211) (by simp) ?_
 refine⟨?_,?_⟩
 ·unfold arr Sha.sum B8 byteCells
  rw [hs]
  simp
 ·rw [hw12]
  refine Ext.set_own ?_ (.inl (Nat.le_refl _))
  exact hx3.own (hx39.trans (hx11.mono (by simp))) (by simp;omega)
theorem zae {L:List UInt8}:(Sha.sum L).length=32:=by simp [Sha.sum]
theorem xq {L:List UInt8}:(arr L).cells.size=L.length:=by simp [arr,Value.cells,byteCells]
theorem z9w {w:World}{H:Heap}{a:Option Addr}{l lc:Nat}{L:List UInt8}(hw:w.heap=H) (hL:Cells H a (byteCells L)) (hl:l=L.length) (hc:l<=lc) (hR:Rounds H) (hlen:L.length < 1152921504606846976) :
  zy P zi7 #[.slice a l lc] w fun e w'=>e=.returned (arr (Sha.sum L))/\Ext [] H w'.heap:=by
 refine z7e ?_
 unfold z1o
 refine jm hw fun w1 hw1=>?_
 have hps:(H.push (Obj.cells (zc P zf) zf (0,0))).size=H.size+1:=by simp
 have hx1:Ext [] H (H.push (.cells (zc P zf) zf)):=.push _
 refine zl (new_c hw1) ?_
 rintro e w2 ⟨rfl,hw2,hD2⟩
 refine⟨_,rfl,?_⟩
 have hx2:Ext [] H w2.heap:=by rw [hw2];exact hx1.push_own
 have h2:w2.heap[H.size]?=some (.cells (zc P zf) zf (0,0)):=by rw [hw2];exact zc6 zk
 have hH0:0 < H.size:=by obtain⟨_,_,_,h,_⟩:=hR;exact lt_of_get h
 refine zl (zy2 (D:=[]) (L:=L) rfl hD2 (hL.ext hx2 (by simp)) hl hc (fun hne x hx=>by obtain⟨y,hy,hlt⟩:=hL.lt (by simpa [byteCells] using hne);rw [hx] at hy;cases hy;omega) (hR.ext hx2 (by simp)) (by simp) (by simp;omega)) ?_
 rintro e w3 ⟨rfl,hx3,hD3⟩
 refine⟨(),rfl,?_⟩
 rw [List.nil_append] at hD3
 have hx23:Ext [] H w3.heap:=hx2.own hx3 (by simp)
 have h3:w3.heap[H.size]?=some (.cells (zc P zf) zf (0,0)):=hx3.get h2 (by simp)
 refine zl (qgb rfl hD3 (hR.ext hx23 (by simp)) hlen) ?_
 rintro e w4 ⟨rfl,hx4⟩
 refine⟨arr (Sha.sum L),rfl,?_⟩
 refine zay (zjj.trans (by rw [xq,zae])) (by rw [xq,zae];omega) ?_ rfl (hx4.get h3 (by simp)) (by rw [zsj,xq,zae];simp) fun w5 hw5=>?_
 ·intro v hv
  simp only [arr,Value.cells] at hv
  exact jo v hv
 rw [show setCells (zc P zf) 0 (Value.cells (arr (Sha.sum L))).toList=(byteCells (Sha.sum L)).toArray from by rw [zak (by rw [zsj,Array.length_toList,xq,zae];simp)];simp [Value.cells,arr]] at hw5
 refine qp hw5 (qc (hx4.get h3 (by simp))) (by simp [byteCells,zae]) ?_
 exact⟨rfl,by rw [hw5];exact (hx23.own hx4 (by simp)).set_own (.inl (Nat.le_refl _))⟩
theorem qg9:P.cellsOf zas=64:=by kernel_rfl
theorem z5z {w:World}{H:Heap}{t:Nat}(hw:w.heap=H) (ht:t < 64):zy P zj3 #[.int .i64 (t:Int)] w fun e w'=>e=.returned (.int .u32 ((Sha.K t).toNat:Int))/\Ext [] H w'.heap:=by
 refine zt7 ?_
 unfold zoe
 refine qm (s:=.any) (.agg (W32 Sha.K 64)) (by kernel_rfl) ?_
 refine jm hw fun w1 hw1=>?_
 refine zay (qg9.trans (by simp [Value.cells])) (by simp [Value.cells]) zt9 hw1 zk (by rw [qh6];simp [Value.cells]) fun w2 hw2=>?_
 rw [show setCells (zc P zas) 0 (Value.cells (.agg (W32 Sha.K 64))).toList=W32 Sha.K 64 from by rw [zak (by rw [qh6];simp [Value.cells])];simp [Value.cells]] at hw2
 refine zeg t rfl ht ?_
 refine je hw2 (qc zk) (zj8.at t ht) ?_
 exact⟨rfl,by rw [hw2];exact (Ext.push _).set_own (.inl (Nat.le_refl _))⟩
theorem i5a:(P.info? qw).map (fun i=>(i.size,i.bytes,i.zero))=some (1,1,some (.int .u8 0)):=by kernel_rfl
theorem i5x:∃ i,P.info? qw=some i/\i.size=1/\i.bytes=1/\i.zero=some (.int .u8 0):=by
 have h:=i5a
 revert h
 cases P.info? qw with
 | none=>intro h;cases h
 | some i=>intro h;simp only [Option.map_some,Option.some.injEq,Prod.mk.injEq] at h;exact⟨i,rfl,h.1,h.2.1,h.2.2⟩
theorem zte {w:World}{H:Heap}{B:Nat}{x:Option Addr×Nat×Nat}{y:Value}{n:Nat}{vs us:List Value}(hw:w.heap=H) (hown:Mine H B qw 1 x vs) (hB:B<=H.size) (hsrc:Src P w y 1 n us) (h1:zcl us)
  (hroom:(2 * (x.2.1+n)+192)<=281474976710656){K:(Option Addr×Nat×Nat)->World->Prop}
  (hK:∀ x' w',Mine w'.heap B qw 1 x' (vs++us)->x'.2.1=x.2.1+n->Ext (jk x) H w'.heap->(∀ b,b∈jk x'->b∈jk x\/H.size<=b)->K x' w') :
  zaw P (Builtin.append_ #[zi,zi] zi #[.slice x.1 x.2.1 x.2.2,y]) .slc w K:=by
 obtain⟨i,hi,hs,hb,hz⟩:=i5x
 obtain⟨x',w',h1,hcm,h2,h3,h4,h5⟩:=z5g (ty:=zi) u22 ⟨_,u22,by intro k h;cases h⟩ hi hs hz rfl (by omega) hw hown hB hsrc h1 (by rw [hb];omega)
 exact⟨x',w',h1,hcm,hK x' w' h2 h3 h4 h5⟩
theorem zt5 {w:World}{H0 H:Heap}{B:Nat}{x:Option Addr×Nat×Nat}{D:List UInt8}(b:UInt8){n:Int}(hn:n=(b.toNat:Int)) (hw:w.heap=H) (hx:Ext [] H0 H) (h0:H0.size<=B) (hown:Mine H B qw 1 x (byteCells D)) (hB:B<=H.size)
  (hl:x.2.1=D.length) (hroom:D.length < 140737488355000){K:(Option Addr×Nat×Nat)->World->Prop}
  (hK:∀ x' w',Mine w'.heap B qw 1 x' (byteCells (D++[b]))->x'.2.1=(D++[b]).length->Ext [] H0 w'.heap->B<=w'.heap.size->K x' w') :
  zaw P (Instr.buildSlice zi 1 #[(0,.int .u8 n)]) .slc w fun t w_1=>zaw P (Builtin.append_ #[zi,zi] zi #[.slice x.1 x.2.1 x.2.2,.slice t.1 t.2.1 t.2.2]) .slc w_1 K:=by
 subst hn hw
 refine zah (s:=.slc) (some ⟨w.heap.size,0,none⟩,1,1) _ (qjd _ w) ?_
 have hx1:Ext [] w.heap (w.heap.push (Obj.cells #[Value.int .u8 (b.toNat:Int)] qw)):=.push _
 refine zte (w:={ w with heap:=w.heap.push (Obj.cells #[Value.int .u8 (b.toNat:Int)] qw) }) (us:=byteCells [b]) rfl (hown.ext hx1 (by simp)) (by simp;omega) (Src.slc rfl (zln (L:=[b]) (H:=w.heap.push (Obj.cells #[Value.int .u8 (b.toNat:Int)] qw)) zk (by simp) ?_) (by simp [byteCells])) jo (by simp only;omega) ?_
 ·intro i hi
  obtain rfl:i=0:=by simp at hi;omega
  rfl
 intro x' w' h2 h3 h4 h5
 refine hK x' w' ?_ (by rw [h3,hl];simp) ((hx.trans hx1).own h4 fun c hc hlt=>?_) ?_
 ·simpa [byteCells] using h2
 ·have:=qx hown c hc;omega
 ·have:=h4.1;simp at this;omega
def pw (f:Nat->UInt8) (t:Nat):Nat->BitVec 32
 | 0=>0#32
 | j+1=>pw f t j <<< 8 ||| b32 (f (4 * t+j))
theorem qfv (f:Nat->UInt8) (t:Nat):pw f t 4=Sha.word f t:=by
 simp only [pw,Sha.word,BitVec.shiftLeft_or_distrib,<-BitVec.shiftLeft_add,BitVec.zero_shiftLeft,BitVec.zero_or,Nat.add_zero,Nat.reduceAdd]
def sh (V:Nat->BitVec 32) (j:Nat):Nat->BitVec 32:=fun i=>if i<=j then V i else V (i-1)
set_option maxHeartbeats 8000000 in
theorem zpr {w:World}{H:Heap}{a:Option Addr}{l lc:Nat}{L:List UInt8}(hw:w.heap=H) (hL:Cells H a (byteCells L)) (hl:l=L.length) (hlen:L.length < 140737488351233) :
  zy P ziq #[.slice a l lc] w fun e w'=>e=.returned (arr (Sha.sum L))/\Ext [] H w'.heap:=by
 subst hl
 refine z5l ?_
 unfold zzu
 refine jm hw fun w1 hw1=>?_
 generalize hH1:H.push (Obj.cells (zc P zf) zf (0,0))=H1 at *
 have hs1:H1.size=H.size+1:=by rw [<-hH1];simp
 have hx1:Ext [] H H1:=by rw [<-hH1];exact .push _
 have h2:H1[H.size]?=some (.cells (zc P zf) zf (0,0)):=by rw [<-hH1];exact zk
 refine zah (s:=.slc) (some ⟨H1.size,0,none⟩,0,0) { w1 with heap:=H1.push (.cells #[] qw) } (by rw [<-hw1];kernel_rfl) ?_
 have hxp:Ext [] H1 (H1.push (.cells #[] qw)):=.push _
 have hO:Mine (H1.push (.cells #[] qw)) H1.size qw 1 (some ⟨H1.size,0,none⟩,0,0) []:=.inr ⟨H1.size,#[],rfl,Nat.le_refl _,zk,rfl,rfl,Nat.le_refl _,rfl⟩
 refine zte (w:={ w1 with heap:=H1.push (.cells #[] qw) }) rfl hO (by simp) (Src.slc rfl ((hL.ext hx1 (by simp)).ext hxp (by simp)) (by simp [byteCells])) jo (by simp only;omega) ?_
 intro x2 w2 hO2 hl2 hx2 hm2
 simp only [Nat.zero_add] at hl2
 rw [List.nil_append] at hO2
 have hx12:Ext [] H1 w2.heap:=hxp.own hx2 (by intro b hb;simp [jk] at hb;omega)
 refine zt5 128 rfl rfl hx12 (Nat.le_refl _) hO2 hx12.1 hl2 (by omega) ?_
 intro x3 w3 hO3 hl3 hx3 hB3
 refine zjd (fun m (x:Option Addr×Nat×Nat) w=>∃ (j:Nat),j+m=(119-L.length % 64) % 64/\Mine w.heap H1.size qw 1 x (byteCells (L++[128]++List.replicate j 0))/\x.2.1=L.length+1+j/\Ext [] H1 w.heap/\H1.size<=w.heap.size)
  ((119-L.length % 64) % 64) ⟨0,by omega,by simpa using hO3,by simpa using hl3,hx3,hB3⟩ ?_
 clear hO3 hl3 hx3 hB3 hx12 hx2 hm2 hO2 hl2
 rintro m x4 w4 ⟨j,hj,hO4,hl4,hx4,hB4⟩ K hK
 have hlj:(L++[128]++List.replicate j (0:UInt8)).length=L.length+1+j:=by simp only [List.length_append,List.length_singleton,List.length_replicate]
 refine zw0 (L.length+1+j) 64 (by rw [hl4]) rfl (by omega) ?_
 refine zan (fun hne=>?_) (fun h56=>?_)
 ·have hjlt:j < (119-L.length % 64) % 64:=by omega
  refine zt5 0 rfl rfl hx4 (Nat.le_refl _) hO4 hB4 (by rw [hl4,hlj]) (by rw [hlj];omega) ?_
  intro x5 w5 hO5 hl5 hx5 hB5
  have hrep:L++[128]++List.replicate j 0++[0]=L++[128]++List.replicate (j+1) 0:=by
   rw [List.append_assoc,<-List.replicate_succ']
  rw [hrep] at hO5
  refine hK (m-1) _ _ (by omega) ⟨j+1,by omega,hO5,?_,hx5,hB5⟩
  rw [hl5,List.length_append,hlj];simp;omega
 have hjz:j=(119-L.length % 64) % 64:=by omega
 subst hjz
 clear hK K h56 hj
 refine zf6 (by omega) (by omega) ?_
 refine qd3 ((8 * L.length:Nat):Int) (by omega) (by omega) (by omega) ?_
 generalize hD:L++[128]++List.replicate ((119-L.length % 64) % 64) (0:UInt8)=D at *
 refine jg (fun (s:(Option Addr×Nat×Nat)×Int) w=>∃ (i:Nat),s.2=(i:Int)/\i<=8/\Mine w.heap H1.size qw 1 s.1 (byteCells (D++(Sha.be8 (L.length * 8)).take i))/\s.1.2.1=D.length+i/\Ext [] H1 w.heap/\H1.size<=w.heap.size)
  (fun s _=>(8-s.2).toNat) ⟨0,rfl,by omega,by simpa using hO4,by rw [hl4,hlj];rfl,hx4,hB4⟩ ?_
 clear hO4 hl4 hx4 hB4
 rintro ⟨x5,_⟩ w5 ⟨i,rfl,hi,hO5,hl5,hx5,hB5⟩
 have hli:(D++(Sha.be8 (L.length * 8)).take i).length=D.length+i:=by simp [Sha.be8];omega
 refine zx (fun hlt=>?_) (fun hge=>?_)
 ·have hlt:i < 8:=by simp only at hlt;omega
  refine zfo ((8 * i:Nat):Int) (by simp only;omega) (by omega) (by omega) ?_
  refine zb3 ((56-8 * i:Nat):Int) (by omega) (by omega) (by omega) ?_
  refine zf6 (by omega) (by omega) ?_
  refine qh3 (56-8 * i) rfl (by omega) ?_
  refine cv8 ?_
  refine zt5 (UInt8.ofNat (8 * L.length / 2 ^ (56-8 * i))) rfl rfl hx5 (Nat.le_refl _) hO5 hB5 (by rw [hli];exact hl5) (by rw [hli];omega) ?_
  intro x6 w6 hO6 hl6 hx6 hB6
  have ht:(Sha.be8 (L.length * 8)).take i++[UInt8.ofNat (8 * L.length / 2 ^ (56-8 * i))]=(Sha.be8 (L.length * 8)).take (i+1):=by
   rw [List.take_add_one,show (Sha.be8 (L.length * 8))[i]?=some (UInt8.ofNat (8 * L.length / 2 ^ (56-8 * i))) from by simp [Sha.be8,hlt,Nat.mul_comm]]
   rfl
  rw [List.append_assoc,ht] at hO6
  refine jd ((i+1:Nat):Int) (by simp only;omega) (by omega) (by omega) ?_
  refine⟨⟨i+1,rfl,by omega,hO6,?_,hx6,hB6⟩,by simp only;omega⟩
  rw [hl6,List.length_append,hli];simp;omega
 have hi8:i=8:=by simp only at hge;omega
 subst hi8
 clear hge hi
 have hpad:D++(Sha.be8 (L.length * 8)).take 8=Sha.pad L:=by
  rw [List.take_of_length_le (by simp [Sha.be8])]
  rw [<-hD];rfl
 rw [hpad] at hO5 hli
 simp only at hl5
 generalize hM:Sha.pad L=M at *
 have hM64:M.length % 64=0:=by rw [hli];omega
 have hlM:M.length < 140737488351233+200:=by rw [hli];omega
 obtain⟨xa,xl,xc⟩:=x5
 obtain⟨bb,o,cm,Tm,frm,hxa,hbm,hcm,hbs⟩:=hO5.cells.bytes (by intro h;rw [h] at hli;simp at hli)
 simp only at hl5 hxa
 obtain rfl:xl=M.length:=by omega
 subst hxa
 clear hO5
 generalize hHp:w5.heap=Hp at *
 have h2p:=hx5.get h2 (by simp)
 have hxp0:Ext [] H Hp:=hx1.trans hx5
 have hs2:H.size < Hp.size:=lt_of_get h2p
 have hbmp:=lt_of_get hbm
 clear hx5 hB5 hO hxp
 refine qm (s:=.any) _ (z3v w5) ?_
 refine jm hHp fun w6 hw6=>?_
 refine zay (z3p.trans (by simp [Value.cells])) (by simp [Value.cells]) zt9 hw6 zk (by rw [qf2];simp [Value.cells]) fun w7 hw7=>?_
 rw [show setCells (zc P vk) 0 (Value.cells (.agg (W32 Sha.init 8))).toList=W32 Sha.init 8 from by rw [zak (by rw [qf2];simp [Value.cells])];simp [Value.cells]] at hw7
 refine jm hw7 fun w8 hw8=>?_
 generalize hb7:((Hp.push (Obj.cells (zc P vk) vk (0,0))).setIfInBounds Hp.size (.cells (W32 Sha.init 8) vk (0,0))).size=b7 at *
 have hb7':b7=Hp.size+1:=by rw [<-hb7];simp
 generalize hH8:((Hp.push (Obj.cells (zc P vk) vk (0,0))).setIfInBounds Hp.size (.cells (W32 Sha.init 8) vk (0,0))).push (Obj.cells (zc P zas) zas (0,0))=H8 at *
 have hx8:Ext [] Hp H8:=by rw [<-hH8];exact ((Ext.push _).set_own (.inl (Nat.le_refl _))).push_own
 have h6:H8[Hp.size]?=some (.cells (W32 Sha.init 8) vk (0,0)):=by rw [<-hH8];exact zc6 (qc zk)
 have h7:H8[b7]?=some (.cells (zc P zas) zas (0,0)):=by rw [<-hH8,<-hb7];exact zk
 refine jg (fun s w=>∃ (k:Nat) (H':Heap) (c6 c7:Array Value),s=((64 * k:Nat):Int)/\k<=M.length / 64/\w.heap=H'/\Ext [] Hp H'/\H'[Hp.size]?=some (.cells c6 vk (0,0))/\c6.size=8/\Words c6 0 (Sha.blocks M k) 8 /\
   H'[b7]?=some (.cells c7 zas (0,0))/\c7.size=64)
  (fun s _=>((M.length:Int)-s).toNat) ⟨0,_,_,_,rfl,by omega,hw8,hx8,h6,by simp,zj8,h7,by rw [qh6];simp⟩ ?_
 clear hx8 h6 h7 hw8 hH8 hw7 hw6 hb7
 rintro _ w9 ⟨k,H9,c6,c7,rfl,hk,hw9,hx9,h6,hs6,hV6,h7,hs7⟩
 refine zx (fun hlt=>?_) (fun hge=>?_)
 ·have hk:64 * k+64<=M.length:=by simp only at hlt;omega
  clear hlt
  generalize hf:(fun j=>Sha.nth M (64 * k+j))=f
  have hfa:∀ j,Sha.nth M (64 * k+j)=f j:=fun j=>by rw [<-hf]
  refine jg (fun s w=>∃ (t:Nat) (H':Heap) (c7:Array Value),s=(t:Int)/\t<=64/\w.heap=H'/\Ext [b7] H9 H'/\H'[b7]?=some (.cells c7 zas (0,0))/\c7.size=64/\Words c7 0 (Sha.W (Sha.word f)) t)
   (fun s _=>(64-s).toNat) ⟨0,_,_,rfl,by omega,hw9,.refl _ _,h7,hs7,fun i hi=>by omega⟩ ?_
  clear h7 hs7 hw9 c7
  rintro _ w10 ⟨t,H10,c7,rfl,ht,hw10,hx10,h7,hs7,hW⟩
  refine zx (fun hlt=>?_) (fun hge=>?_)
  ·have hlt:t < 64:=by omega
   refine zar ?_
   refine zar ?_
   refine zx (fun hlt16=>?_) (fun hge16=>?_)
   ·have hlt16:t < 16:=by omega
    refine zeg t rfl (by omega) ?_
    refine zbd hw10 h7 (by omega) fun w11 hw11=>?_
    refine jg (fun s w=>∃ (j:Nat) (H':Heap) (c7:Array Value),s=(j:Int)/\j<=4/\w.heap=H'/\Ext [b7] H9 H'/\H'[b7]?=some (.cells c7 zas (0,0))/\c7.size=64/\Words c7 0 (Sha.W (Sha.word f)) t/\c7[t]?=some (.int .u32 ((pw f t j).toNat:Int)))
     (fun s _=>(4-s).toNat) ⟨0,_,_,rfl,by omega,hw11,hx10.set_own (.inr (by simp)),qc h7,by simpa using hs7,(hW.put t (by omega) 0).congr (fun i hi=>by simp only [if_neg (show ¬i=t by omega)]),by simp [pw,show t < c7.size by omega]⟩ ?_
    clear hw11 hw10 hx10 h7 hs7 hW c7
    rintro _ w12 ⟨j,H12,c7,rfl,hj,hw12,hx12,h7,hs7,hW,hpw⟩
    refine zx (fun hltj=>?_) (fun hgej=>?_)
    ·have hltj:j < 4:=by omega
     refine jv hw12 fun w13 hw13=>?_
     refine zeg t rfl (by omega) ?_
     refine zfo ((4 * t:Nat):Int) (by omega) (by omega) (by omega) ?_
     refine jd ((64 * k+4 * t:Nat):Int) (by omega) (by omega) (by omega) ?_
     refine jd ((64 * k+4 * t+j:Nat):Int) (by omega) (by omega) (by omega) ?_
     refine zkk (64 * k+4 * t+j) rfl (by simp only;omega) ?_
     refine je hw13 h7 hpw ?_
     refine qfy _ 8 rfl (by omega) ?_
     refine je hw13 ((hx12.get (hx9.get hbm (by simp)) (by simp;omega))) (hbs (64 * k+4 * t+j) (by omega)) ?_
     refine cvB ?_
     refine orW _ _ ?_
     refine zeg t rfl (by omega) ?_
     refine zbd hw13 h7 (by omega) fun w14 hw14=>?_
     refine jd ((j+1:Nat):Int) (by omega) (by omega) (by omega) ?_
     refine⟨⟨j+1,_,_,rfl,by omega,hw14,hx12.set_own (.inr (by simp)),qc h7,by simpa using hs7,(hW.put t (by omega) _).congr (fun i hi=>by simp only [if_neg (show ¬i=t by omega)]),?_⟩,by omega⟩
     have hfj:f (4 * t+j)=M.getD (64 * k+4 * t+j) 0:=by rw [<-hfa,Nat.add_assoc];rfl
     rw [Array.getElem?_setIfInBounds_self_of_lt (by omega)]
     simp only [pw,hfj]
    have hj4:j=4:=by omega
    subst hj4
    refine jd ((t+1:Nat):Int) (by omega) (by omega) (by omega) ?_
    refine⟨⟨t+1,_,_,rfl,by omega,hw12,hx12,h7,hs7,?_⟩,by omega⟩
    intro i hi
    by_cases hit:i < t
    ·exact hW i hit
    ·obtain rfl:i=t:=by omega
     rw [Nat.zero_add,hpw,qfv,Sha.W_lt hlt16]
   ·refine zb3 ((t-2:Nat):Int) (by omega) (by omega) (by omega) ?_
    refine zeg (t-2) rfl (by omega) ?_
    refine je hw10 h7 (hW.at (t-2) (by omega)) ?_
    refine zb3 ((t-15:Nat):Int) (by omega) (by omega) (by omega) ?_
    refine zeg (t-15) rfl (by omega) ?_
    refine je hw10 h7 (hW.at (t-15) (by omega)) ?_
    refine jv hw10 fun w11 hw11=>?_
    refine qa7 _ 10 rfl (by omega) ?_
    refine zb3 ((t-7:Nat):Int) (by omega) (by omega) (by omega) ?_
    refine zeg (t-7) rfl (by omega) ?_
    refine qa7 _ 3 rfl (by omega) ?_
    refine zb3 ((t-16:Nat):Int) (by omega) (by omega) (by omega) ?_
    refine zeg (t-16) rfl (by omega) ?_
    refine zbw (l:=[.int .u32]) _ (zoh _ 17 rfl (by omega) (by omega) _) ?_
    refine zbw (l:=[.int .u32]) _ (zoh _ 19 rfl (by omega) (by omega) _) ?_
    refine zv4 _ _ ?_
    refine zv4 _ _ ?_
    refine je hw11 h7 (hW.at (t-7) (by omega)) ?_
    refine zv2 _ _ ?_
    refine zbw (l:=[.int .u32]) _ (zoh _ 7 rfl (by omega) (by omega) _) ?_
    refine zbw (l:=[.int .u32]) _ (zoh _ 18 rfl (by omega) (by omega) _) ?_
    refine zv4 _ _ ?_
    refine zv4 _ _ ?_
    refine zv2 _ _ ?_
    refine je hw11 h7 (hW.at (t-16) (by omega)) ?_
    refine zv2 _ _ ?_
    refine zeg t rfl (by omega) ?_
    refine zbd hw11 h7 (by omega) fun w12 hw12=>?_
    refine jd ((t+1:Nat):Int) (by omega) (by omega) (by omega) ?_
    refine⟨⟨t+1,_,_,rfl,by omega,hw12,hx10.set_own (.inr (by simp)),qc h7,by simpa using hs7,?_⟩,by omega⟩
    exact hW.snoc (by omega) (by rw [Sha.W_ge (show 16<=t by omega)])
  have ht64:t=64:=by omega
  subst ht64
  clear hge ht
  have h6':=hx10.get h6 (by simp;omega)
  refine zhc hw10 h6' (by omega) ?_
  rw [hV6.extract (by omega)]
  refine jm hw10 fun w11 hw11=>?_
  refine zay (z3p.trans (by simp [Value.cells])) (by simp [Value.cells]) zt9 hw11 zk (by rw [qf2];simp [Value.cells]) fun w12 hw12=>?_
  rw [show setCells (zc P vk) 0 (Value.cells (.agg (W32 (Sha.blocks M k) 8))).toList=W32 (Sha.blocks M k) 8 from by rw [zak (by rw [qf2];simp [Value.cells])];simp [Value.cells]] at hw12
  have hb7l:=lt_of_get h7
  generalize hs:Sha.blocks M k=s at *
  refine jg (fun s' w=>∃ (t:Nat) (H':Heap) (c8:Array Value),s'=(t:Int)/\t<=64/\w.heap=H'/\Ext [] H10 H'/\H'[H10.size]?=some (.cells c8 vk (0,0))/\c8.size=8/\Words c8 0 (Sha.rnd (Sha.W (Sha.word f)) s t) 8)
   (fun s _=>(64-s).toNat) ⟨0,_,_,rfl,by omega,hw12,(Ext.push _).set_own (.inl (Nat.le_refl _)),qc zk,by simp,zj8⟩ ?_
  clear hw12 hw11
  rintro _ w13 ⟨t,H13,c8,rfl,ht,hw13,hx13,hc8,hs8,hV⟩
  refine zx (fun hlt=>?_) (fun hge=>?_)
  ·have hlt:t < 64:=by omega
   have h7':=hx13.get h7 (by simp)
   generalize hVs:Sha.rnd (Sha.W (Sha.word f)) s t=V at *
   refine je hw13 hc8 (hV.at 4 (by omega)) ?_
   refine je hw13 hc8 (hV.at 0 (by omega)) ?_
   refine jv hw13 fun w14 hw14=>?_
   refine qce _ ?_
   refine zeg t rfl (by omega) ?_
   refine je hw14 hc8 (hV.at 7 (by omega)) ?_
   refine zbw (l:=[.int .u32]) _ (zoh _ 6 rfl (by omega) (by omega) _) ?_
   refine zbw (l:=[.int .u32]) _ (zoh _ 11 rfl (by omega) (by omega) _) ?_
   refine zv4 _ _ ?_
   refine zbw (l:=[.int .u32]) _ (zoh _ 25 rfl (by omega) (by omega) _) ?_
   refine zv4 _ _ ?_
   refine zv2 _ _ ?_
   refine je hw14 hc8 (hV.at 5 (by omega)) ?_
   refine qa5 _ _ ?_
   refine je hw14 hc8 (hV.at 6 (by omega)) ?_
   refine qa5 _ _ ?_
   refine zv4 _ _ ?_
   refine zv2 _ _ ?_
   refine je hw14 h7' (hW.at t (by omega)) ?_
   refine zl (l:=[.int .u32]) (z5z hw14 hlt) ?_
   rintro e w15 ⟨rfl,hx15⟩
   refine⟨((Sha.K t).toNat:Int),rfl,?_⟩
   generalize hH15:w15.heap=H15 at *
   have hc15:=hx15.get hc8 (by simp)
   refine⟨je hH15 (hx15.get h7' (by simp)) (hW.at t (by omega)) rfl,je hH15 hc15 (hV.at 6 (by omega)) rfl,je hH15 hc15 (hV.at 5 (by omega)) rfl,je hH15 hc15 (hV.at 7 (by omega)) rfl,?_⟩
   refine zv2 _ _ ?_
   refine zv2 _ _ ?_
   refine jv hH15 fun w16 hw16=>?_
   refine zbw (l:=[.int .u32]) _ (zoh _ 2 rfl (by omega) (by omega) _) ?_
   refine zbw (l:=[.int .u32]) _ (zoh _ 13 rfl (by omega) (by omega) _) ?_
   refine zv4 _ _ ?_
   refine zbw (l:=[.int .u32]) _ (zoh _ 22 rfl (by omega) (by omega) _) ?_
   refine zv4 _ _ ?_
   refine je hw16 hc15 (hV.at 1 (by omega)) ?_
   refine qa5 _ _ ?_
   refine je hw16 hc15 (hV.at 2 (by omega)) ?_
   refine qa5 _ _ ?_
   refine zv4 _ _ ?_
   refine je hw16 hc15 (hV.at 1 (by omega)) ?_
   refine je hw16 hc15 (hV.at 2 (by omega)) ?_
   refine qa5 _ _ ?_
   refine zv4 _ _ ?_
   refine zv2 _ _ ?_
   refine jg (fun s' w=>∃ (j:Nat) (H':Heap) (c8:Array Value),s'=(j:Int)/\j<=7/\w.heap=H'/\Ext [] H10 H'/\H'[H10.size]?=some (.cells c8 vk (0,0))/\c8.size=8/\Words c8 0 (sh V j) 8)
    (fun s _=>s.toNat) ⟨7,_,_,rfl,by omega,hw16,hx13.trans hx15,hc15,hs8,hV.congr fun i hi=>by simp only [sh,if_pos (show i<=7 by omega)]⟩ ?_
   clear hc15 hw16 hx15 hx13 hc8 hs8 hV hH15 hw14 hw13 h7' c8
   rintro _ w17 ⟨j,H17,c8,rfl,hj,hw17,hx17,hc8,hs8,hV⟩
   refine zx (fun hltj=>?_) (fun hgej=>?_)
   ·have hltj:0 < j:=by omega
    refine zb3 ((j-1:Nat):Int) (by omega) (by omega) (by omega) ?_
    refine zeg (j-1) rfl (by omega) ?_
    refine je hw17 hc8 (hV.at (j-1) (by omega)) ?_
    refine zeg j rfl (by omega) ?_
    refine zbd hw17 hc8 (by omega) fun w18 hw18=>?_
    refine zb3 ((j-1:Nat):Int) (by omega) (by omega) (by omega) ?_
    refine⟨⟨j-1,_,_,rfl,by omega,hw18,hx17.set_own (.inl (Nat.le_refl _)),qc hc8,by simpa using hs8,(hV.put j (by omega) _).congr fun i hi=>?_⟩,by omega⟩
    simp only [sh]
    by_cases e:i=j
    ·subst e;simp only [if_true,if_pos (show i-1<=i by omega),if_neg (show ¬i<=i-1 by omega)]
    ·simp only [if_neg e]
     by_cases e2:i<=j
     ·rw [if_pos e2,if_pos (by omega)]
     ·rw [if_neg e2,if_neg (by omega)]
   have hj0:j=0:=by omega
   subst hj0
   refine je hw17 hc8 (hV.at 4 (by omega)) ?_
   refine zv2 _ _ ?_
   refine zbd hw17 hc8 (by omega) fun w18 hw18=>?_
   refine zv2 _ _ ?_
   refine zbd hw18 (qc hc8) (by simp;omega) fun w19 hw19=>?_
   rw [set_set] at hw19
   refine jd ((t+1:Nat):Int) (by omega) (by omega) (by omega) ?_
   refine⟨⟨t+1,_,_,rfl,by omega,hw19,hx17.set_own (.inl (Nat.le_refl _)),qc hc8,by simpa using hs8,((hV.put 4 (by omega) _).put 0 (by simp;omega) _).congr fun i hi=>?_⟩,by omega⟩
   simp only [Sha.rnd,hVs]
   match i,hi with
   | 0,_=>rfl
   | 1,_=>rfl
   | 2,_=>rfl
   | 3,_=>rfl
   | 4,_=>rfl
   | 5,_=>rfl
   | 6,_=>rfl
   | 7,_=>rfl
  have ht64:t=64:=by omega
  subst ht64
  clear hge ht
  have h613:=hx13.get h6' (by simp)
  have hne:Hp.size≠H10.size:=by have:=lt_of_get h6';omega
  have hx913:Ext [] Hp H13:=hx9.own (hx10.trans (hx13.mono (by simp))) (by simp;omega)
  have h713:=hx13.get h7 (by simp)
  refine jg (fun s' w=>∃ (t:Nat) (H':Heap) (c':Array Value),s'=(t:Int)/\t<=8/\w.heap=H'/\Ext [] Hp H'/\H'[Hp.size]?=some (.cells c' vk (0,0))/\c'.size=8/\H'[H10.size]?=some (.cells c8 vk (0,0)) /\
    Words c' 0 (Sha.comp s (Sha.word f)) t/\(∀ i,t<=i->c'[i]?=c6[i]?)/\H'[b7]?=some (.cells c7 zas (0,0)))
   (fun s _=>(8-s).toNat) ⟨0,_,_,rfl,by omega,hw13,hx913,h613,hs6,hc8,fun i hi=>by omega,fun i _=>rfl,h713⟩ ?_
  rintro _ w14 ⟨t,H14,c',rfl,ht,hw14,hx14,hH14,hsz14,hc84,hV14,hold,h714⟩
  refine zx (fun hlt=>?_) (fun hge=>?_)
  ·have hlt:t < 8:=by omega
   refine jv hw14 fun w15 hw15=>?_
   refine zeg t rfl (by omega) ?_
   refine zeg t rfl (by omega) ?_
   refine je hw15 hH14 ((hold t (Nat.le_refl _)).trans (hV6.at t (by omega))) ?_
   refine je hw15 hc84 (hV.at t (by omega)) ?_
   refine zv2 _ _ ?_
   refine zeg t rfl (by omega) ?_
   refine zbd hw15 hH14 (by omega) fun w16 hw16=>?_
   refine jd ((t+1:Nat):Int) (by omega) (by omega) (by omega) ?_
   refine⟨⟨t+1,_,_,rfl,by omega,hw16,hx14.set_own (.inl (Nat.le_refl _)),qc hH14,by simpa using hsz14,zfn hc84 (Ne.symm hne),hV14.snoc (by omega) rfl,?_,zfn h714 (by omega)⟩,by omega⟩
   intro i hi
   rw [Array.getElem?_setIfInBounds_ne (by omega)]
   exact hold i (by omega)
  have ht8:t=8:=by omega
  subst ht8
  refine jd ((64 * (k+1):Nat):Int) (by omega) (by omega) (by omega) ?_
  refine⟨⟨k+1,_,_,_,rfl,by omega,hw14,hx14,hH14,hsz14,?_,h714,hs7⟩,by omega⟩
  simp only [Sha.blocks,hs,hf]
  exact hV14
 have hkM:k=M.length / 64:=by simp only at hge;omega
 subst hkM
 refine jm hw9 fun w10 hw10=>?_
 generalize hs:Sha.blocks M (M.length / 64)=s at *
 refine jg (fun s' w=>∃ (i:Nat) (H':Heap) (c7:Array Value),s'=(i:Int)/\i<=32/\w.heap=H'/\Ext [] H9 H'/\H'[H9.size]?=some (.cells c7 zf (0,0))/\c7.size=32/\Bytes c7 0 (Sha.out s) i)
  (fun s _=>(32-s).toNat) ⟨0,_,_,rfl,by omega,hw10,.push _,zk,by rw [zsj];simp,fun i hi=>by omega⟩ ?_
 rintro _ w11 ⟨i,H11,c9,rfl,hi,hw11,hx11,hp11,hsz11,hB11⟩
 refine zx (fun hlt=>?_) (fun hge=>?_)
 ·have hlt:i < 32:=by omega
  refine z3t i 4 rfl rfl (by omega) (by omega) ?_
  refine zeg (i / 4) rfl (by omega) ?_
  refine je hw11 (hx11.get h6 (by simp)) (hV6.at (i / 4) (by omega)) ?_
  refine zw0 i 4 rfl rfl (by omega) ?_
  refine zfo ((8 * (i % 4):Nat):Int) (by omega) (by omega) (by omega) ?_
  refine zb3 ((24-8 * (i % 4):Nat):Int) (by omega) (by omega) (by omega) ?_
  refine zf6 (by omega) (by omega) ?_
  refine qa7 _ (24-8 * (i % 4)) rfl (by omega) ?_
  refine cvL _ ?_
  refine zeg i rfl (by omega) ?_
  refine zbd hw11 hp11 (by omega) fun w12 hw12=>?_
  refine jd ((i+1:Nat):Int) (by omega) (by omega) (by omega) ?_
  exact⟨⟨i+1,_,_,rfl,by omega,hw12,hx11.set_own (.inl (Nat.le_refl _)),qc hp11,by simpa using hsz11,hB11.snoc (by omega) rfl⟩,by omega⟩
 have hi32:i=32:=by omega
 subst hi32
 refine qp hw11 hp11 hsz11 ?_
 have hc7:c9=B8 (Sha.out s) 32:=by
  have:=hB11.extract (by omega)
  rw [<-this]
  exact (Array.extract_eq_self_of_le (by omega)).symm
 subst hc7
 have h211:H11[H.size]?=some (.cells (zc P zf) zf (0,0)):=hx11.get (hx9.get h2p (by simp)) (by simp)
 refine zay (zjj.trans (by simp [Value.cells])) (by simp [Value.cells]) qd1 hw11 h211 (by rw [zsj];simp [Value.cells]) fun w12 hw12=>?_
 rw [show setCells (zc P zf) 0 (Value.cells (.agg (B8 (Sha.out s) 32))).toList=B8 (Sha.out s) 32 from by rw [zak (by rw [zsj];simp [Value.cells])];simp [Value.cells]] at hw12
 refine qp hw12 (qc h211) (by simp) ?_
 refine⟨?_,?_⟩
 ·unfold arr Sha.sum B8 byteCells
  rw [hM,hs]
  simp
 ·rw [hw12]
  exact ((hxp0.trans hx9).trans hx11).set_own (.inl (Nat.le_refl _))
theorem u27:P.underlying zf=some (.array 32 qw):=by kernel_rfl
theorem u5:P.underlying qw=some (.int .u8):=by kernel_rfl
theorem c5:P.cellsOf qw=1:=by kernel_rfl
theorem g27:P.eqGuardType P.depth zf=false:=by kernel_rfl
theorem u57:P.underlying jh=some (.map zf zi):=by kernel_rfl
theorem z22 (w:World):(zeroValue zi).run P w=.ok (.slice none 0 0) w:=by kernel_rfl
theorem K27:KeyOk P zf (List UInt8) (fun L=>L.length=32) arr:=.arr u27 u5 c5
theorem b27 (w:World):(Instr.build zf #[]).run P w=.ok (arr (List.replicate 32 0)) w:=by kernel_rfl
theorem b59 (a:Int) (m:Option Nat) (w:World):(Instr.build zgc #[(0,.int .i64 a),(2,.map m)]).run P w=.ok (.agg #[.int .i64 a,.int .i64 0,.map m]) w:=by kernel_rfl
abbrev BV:=(Option Addr×Nat×Nat)×List UInt8
abbrev SM:=ML (List UInt8) BV
def bv (x:BV):Value:=zb2 x.1
def total (r:SM):Nat:=(r.map fun x=>x.2.1.2.length).sum
def vw (r:SM) (k:List UInt8):Option (List UInt8):=(zbk r k).map (·.2)
def z1q (H:Heap) (fp:List Nat) (r:SM):Prop:=∀ x∈r,Mine H 0 qw 1 x.2.1.1 (byteCells x.2.1.2)/\∀ b∈jk x.2.1.1,b∈fp
def Apart (r:SM):Prop:=∀ x∈r,∀ y∈r,x.1≠y.1->∀ b∈jk x.2.1.1,b∉jk y.2.1.1
def Store (H:Heap) (fp:List Nat) (p:Nat) (q:Int) (r:SM) (c:Nat):Prop:=
 ∃ m,H[p]?=some (.cells #[.int .i64 q,.int .i64 (total r:Int),.map (some m)] zgc (0,0))/\H[m]?=some (.map (ents arr (vl bv r)) c)/\MOk (fun L=>L.length=32) r c/\p∈fp/\m∈fp/\z1q H fp r/\Apart r
theorem z1q.ext {M fp:List Nat}{H H':Heap}{r:SM}(h:z1q H fp r) (hx:Ext M H H') (hM:∀ b∈fp,b∉M):z1q H' fp r:=
 fun x hxr=>⟨(h x hxr).1.ext hx fun b hb=>hM b ((h x hxr).2 b hb),(h x hxr).2⟩
theorem Store.ext {M fp:List Nat}{H H':Heap}{p:Nat}{q:Int}{r:SM}{c:Nat}(h:Store H fp p q r c) (hx:Ext M H H') (hM:∀ b∈fp,b∉M):Store H' fp p q r c:=by
 obtain⟨m,h1,h2,h3,h4,h5,h6,h7⟩:=h
 exact⟨m,hx.get h1 (hM p h4),hx.get h2 (hM m h5),h3,h4,h5,h6.ext hx hM,h7⟩
theorem Store.lt {fp:List Nat}{H:Heap}{p:Nat}{q:Int}{r:SM}{c:Nat}(h:Store H fp p q r c):p < H.size:=by
 obtain⟨m,h1,_⟩:=h;exact lt_of_get h1
theorem z9t {w:World}{H:Heap}(q:Int) (hw:w.heap=H):zy P zna #[.int .i64 q] w fun e w'=>∃ p fp,e=.returned (.pointer (some ⟨p,0,none⟩))/\Store w'.heap fp p (max q 0) [] 0/\Ext [] H w'.heap/\∀ b∈fp,H.size<=b/\b < w'.heap.size:=by
 refine z2z ?_
 unfold zwu
 refine qm (s:=.int .i64) (max q 0) ?_ ?_
 ·rw [run_max_int2]
  congr 2
  show (if (0:Int) > q then 0 else q)=max q 0
  split <;> omega
 refine zah (s:=.map) (some H.size) _ (zii hw) ?_
 refine qm (s:=.any) _ (b59 _ _ _) ?_
 refine jm (H:=H.push (.map #[] 0)) rfl fun w2 hw2=>?_
 refine⟨(H.push (.map #[] 0)).size,[(H.push (.map #[] 0)).size,H.size],rfl,⟨H.size,?_,?_,.nil,by simp,by simp,(by intro x hx;cases hx),(by intro x hx;cases hx)⟩,?_,by rw [hw2];simp;omega⟩
 ·rw [hw2];exact zk
 ·rw [hw2];exact zc6 zk
 ·rw [hw2];exact (Ext.push _).push_own
theorem z9g {w:World}{H:Heap}{a:Option Addr}{l lc:Nat}{L:List UInt8}(hw:w.heap=H) (hL:Cells H a (byteCells L)) (hl:l=L.length) (hlen:L.length < 140000000000000) :
  zy P zck #[.slice a l lc] w fun e w'=>∃ x,e=.returned (zb2 x)/\Mine w'.heap H.size qw 1 x (byteCells L)/\Ext [] H w'.heap:=by
 subst hl
 refine ziu ?_
 unfold zfm
 cases a with
 | none=>
  refine zai rfl ?_
  have:byteCells L=[]:=by rcases hL with h | ⟨b,o,c,T,fr,h,_⟩;exact h;cases h
  exact⟨(none,0,0),rfl,.inl ⟨rfl,this⟩,by rw [hw];exact .refl _ _⟩
 | some a=>
  refine jr rfl ?_
  refine zah (s:=.slc) (some ⟨H.size,0,none⟩,0,0) { w with heap:=H.push (.cells #[] qw) } (by rw [<-hw];kernel_rfl) ?_
  have hxp:Ext [] H (H.push (.cells #[] qw)):=.push _
  have hO:Mine (H.push (.cells #[] qw)) H.size qw 1 (some ⟨H.size,0,none⟩,0,0) []:=.inr ⟨H.size,#[],rfl,Nat.le_refl _,zk,rfl,rfl,Nat.le_refl _,rfl⟩
  refine zte (w:={ w with heap:=H.push (.cells #[] qw) }) rfl hO (by simp) (Src.slc rfl (hL.ext hxp (by simp)) (by simp [byteCells])) jo (by simp only;omega) ?_
  intro x2 w2 hO2 hl2 hx2 hm2
  rw [List.nil_append] at hO2
  exact⟨x2,rfl,hO2,hxp.own hx2 (by intro b hb;simp [jk] at hb;omega)⟩
theorem z88 {w:World}{H:Heap}{fp:List Nat}{p:Nat}{q:Int}{r:SM}{c:Nat}(hw:w.heap=H) (hS:Store H fp p q r c):zy P ze3 #[.pointer (some ⟨p,0,none⟩)] w fun e w'=>e=.returned (.int .i64 (r.length:Int))/\w'=w:=by
 obtain⟨m,h1,h2,_⟩:=hS
 refine zo0 ?_
 unfold zjl
 refine jr rfl ?_
 simp only [qg]
 refine je (t:=some m) hw h1 rfl ?_
 refine qm (s:=.int .i64) _ (z8p u57 hw h2) ?_
 exact⟨rfl,trivial⟩
theorem z3f {w:World}{H:Heap}{fp:List Nat}{p:Nat}{q:Int}{r:SM}{c:Nat}(hw:w.heap=H) (hS:Store H fp p q r c):zy P zgr #[.pointer (some ⟨p,0,none⟩)] w fun e w'=>e=.returned (.int .i64 (total r:Int))/\w'=w:=by
 obtain⟨m,h1,h2,_⟩:=hS
 refine zo6 ?_
 unfold zje
 refine jr rfl ?_
 simp only [qg]
 exact je (t:=(total r:Int)) hw h1 rfl ⟨rfl,trivial⟩
theorem qil {w:World}{H:Heap}{fp:List Nat}{p:Nat}{q:Int}{r:SM}{c:Nat}{k:List UInt8}(hw:w.heap=H) (hS:Store H fp p q r c) (hk:k.length=32):zy P zhs #[.pointer (some ⟨p,0,none⟩),arr k] w fun e w'=>e=.returned (.bool (vw r k).isSome)/\Ext [] H w'.heap:=by
 obtain⟨m,h1,h2,h3,_⟩:=hS
 refine zrj ?_
 unfold zl2
 refine jm hw fun w1 hw1=>?_
 refine jr rfl ?_
 refine jv hw1 fun w2 hw2=>?_
 simp only [qg]
 refine je (t:=some m) hw2 (zc6 h1) rfl ?_
 refine qp hw2 zk (by simp [arr,Value.cells,byteCells,hk]) ?_
 refine zgg (l:=[.slc,.bool]) (((zbk r k).map (·.1)).getD (none,0,0),(zbk r k).isSome) ?_ ?_
 ·refine (ze1 K27 u57 z22 hw2 (zc6 h2) h3 hk).trans ?_
  cases zbk r k <;> rfl
 ·refine⟨?_,by rw [hw2];exact .push _⟩
  unfold vw;cases zbk r k <;> rfl
theorem zvx {r:SM}{c:Nat}(h:MOk (fun L=>L.length=32) r c){k:List UInt8}{v:BV}(hg:zbk r k=some v):∃ b,(k,v,b)∈r/\k.length=32:=by
 obtain⟨b,hb⟩:=zcc hg
 exact⟨b,hb,h.fine _ hb⟩
def got (o:Option (List UInt8)) (k:List UInt8):Int:=match o with | none=>50 | some L=>if Sha.sum L=k then 0 else 51
theorem qe7 {w:World}{H:Heap}{fp:List Nat}{p:Nat}{q:Int}{r:SM}{c:Nat}{k:List UInt8}(hw:w.heap=H) (hS:Store H fp p q r c) (hk:k.length=32) (hR:Rounds H) (hlen:∀ L,vw r k=some L->L.length < 1099511627776) :
  zy P zfz #[.pointer (some ⟨p,0,none⟩),arr k] w fun e w'=>∃ x,e=.returned (.tuple #[zb2 x,.int .i64 (got (vw r k) k)])/\Ext [] H w'.heap /\
   (got (vw r k) k=0->∃ L,vw r k=some L/\Mine w'.heap H.size qw 1 x (byteCells L))/\(got (vw r k) k≠0->x=(none,0,0)):=by
 obtain⟨m,h1,h2,h3,h4,h5,h6,h7⟩:=hS
 refine zq0 ?_
 unfold zls
 refine jm hw fun w1 hw1=>?_
 have hx1:Ext [] H (H.push (.cells (Value.cells (arr k)) zf (0,0))):=.push _
 generalize hH1:H.push (.cells (Value.cells (arr k)) zf (0,0))=H1 at *
 have hk1:H1[H.size]?=some (.cells (byteCells k).toArray zf (0,0)):=by rw [<-hH1];exact zk
 refine jr rfl ?_
 refine jv hw1 fun w2 hw2=>?_
 simp only [qg]
 refine je (t:=some m) hw2 (hx1.get h1 (by simp)) rfl ?_
 refine qp hw2 hk1 (by simp [byteCells,hk]) ?_
 cases hg:zbk r k with
 | none=>
  have hv:vw r k=none:=by simp [vw,hg]
  rw [hv]
  refine zgg (l:=[.slc,.bool]) ((none,0,0),false) (by refine (ze1 K27 u57 z22 hw2 (hx1.get h2 (by simp)) h3 hk).trans ?_;rw [hg];rfl) ?_
  refine zai rfl ?_
  exact⟨(none,0,0),rfl,by rw [hw2];exact hx1,(by intro h;simp [got] at h),fun _=>rfl⟩
 | some v=>
  have hv:vw r k=some v.2:=by simp [vw,hg]
  obtain⟨b,hb,_⟩:=zvx h3 hg
  obtain⟨hO,hOf⟩:=h6 _ hb
  have hO:Mine H 0 qw 1 v.1 (byteCells v.2):=hO
  have hlv:=hlen _ hv
  rw [hv]
  refine zgg (l:=[.slc,.bool]) (v.1,true) (by refine (ze1 K27 u57 z22 hw2 (hx1.get h2 (by simp)) h3 hk).trans ?_;rw [hg];rfl) ?_
  refine jr rfl ?_
  refine jv hw2 fun w3 hw3=>?_
  refine qp hw3 hk1 (by simp [byteCells,hk]) ?_
  have hO1:=hO.ext hx1 (by simp)
  have hlen1:=hO.len
  have hle:v.1.2.1<=v.1.2.2:=by
   rcases hO with⟨h,_⟩ | ⟨_,_,_,_,_,_,_,h,_⟩
   ·rw [h];exact Nat.le_refl _
   ·exact h
  refine zl (z9w hw3 hO1.cells (by rw [<-jl,hlen1,Nat.mul_one]) hle (hR.ext hx1 (by simp)) (by omega)) ?_
  rintro e w4 ⟨rfl,hx4⟩
  refine⟨arr (Sha.sum v.2),rfl,?_⟩
  refine⟨qp rfl (hx4.get hk1 (by simp)) (by simp [byteCells,hk]) rfl,?_⟩
  refine qm (s:=.bool) _ (ztb u27 u5 c5 g27 zae hk) ?_
  by_cases hs:Sha.sum v.2=k
  ·refine jr (by simp [hs]) ?_
   refine zl (z9g rfl (hO1.ext hx4 (by simp)).cells (by rw [<-jl,hlen1,Nat.mul_one]) (by omega)) ?_
   rintro e w5 ⟨x,rfl,hxO,hx5⟩
   refine⟨x,rfl,?_⟩
   have hgot:got (some v.2) k=0:=by simp [got,hs]
   refine⟨x,by rw [hgot];rfl,(hx1.trans hx4).trans hx5,fun _=>⟨_,rfl,hxO.mono (hx1.trans hx4).1⟩,fun h=>absurd hgot h⟩
  ·refine zai (by simp [hs]) ?_
   have hgot:got (some v.2) k=51:=by simp [got,hs]
   exact⟨(none,0,0),by rw [hgot];rfl,hx1.trans hx4,(fun h=>by rw [hgot] at h;cases h),fun _=>rfl⟩
theorem zvl {r:SM}{c:Nat}(h:MOk (fun L=>L.length=32) r c){k:List UInt8}{v:BV}(hg:zbk r k=some v):total (zi9 r k)+v.2.length=total r:=by
 have hk:=h.keys
 clear h
 induction r with
 | nil=>simp [zbk] at hg
 | cons x r ih=>
  simp only [List.map_cons,List.nodup_cons] at hk
  by_cases e:x.1=k
  ·rw [zb7 e,Option.some.injEq] at hg
   rw [zm2 e,zpu fun y hy h=>hk.1 (by rw [e,<-h];exact List.mem_map.2 ⟨y,hy,rfl⟩),<-hg]
   simp [total,Nat.add_comm]
  ·rw [zb4 e] at hg
   have:=ih hg hk.2
   rw [zml e]
   simp only [total,List.map_cons,List.sum_cons] at this |-
   omega
theorem zyl {r:SM}{k:List UInt8}{x:List UInt8×BV×Nat}(h:x∈zi9 r k):x∈r:=(List.mem_filter.1 h).1
theorem zs9 {r:SM}{k k':List UInt8}:vw (zi9 r k) k'=if k'=k then none else vw r k':=by
 unfold vw;rw [qbj];split <;> rfl
theorem qd7 {w:World}{H:Heap}{fp:List Nat}{p:Nat}{q:Int}{r:SM}{c:Nat}{k:List UInt8}(hw:w.heap=H) (hS:Store H fp p q r c) (hk:k.length=32) (ht:total r < 1125899906842624) :
  zy P zfg #[.pointer (some ⟨p,0,none⟩),arr k] w fun e w'=>e=.returned (.int .i64 (if (vw r k).isSome then 0 else 50))/\Store w'.heap fp p q (zi9 r k) c/\Ext fp H w'.heap:=by
 have hS0:=hS
 obtain⟨m,h1,h2,h3,h4,h5,h6,h7⟩:=hS
 refine zqb ?_
 unfold zko
 refine jm hw fun w1 hw1=>?_
 have hx1:Ext [] H (H.push (.cells (Value.cells (arr k)) zf (0,0))):=.push _
 generalize hH1:H.push (.cells (Value.cells (arr k)) zf (0,0))=H1 at *
 have hk1:H1[H.size]?=some (.cells (byteCells k).toArray zf (0,0)):=by rw [<-hH1];exact zk
 refine jr rfl ?_
 refine jv hw1 fun w2 hw2=>?_
 simp only [qg]
 refine je (t:=some m) hw2 (hx1.get h1 (by simp)) rfl ?_
 refine qp hw2 hk1 (by simp [byteCells,hk]) ?_
 cases hg:zbk r k with
 | none=>
  have hv:vw r k=none:=by simp [vw,hg]
  rw [hv]
  refine zgg (l:=[.slc,.bool]) ((none,0,0),false) (by refine (ze1 K27 u57 z22 hw2 (hx1.get h2 (by simp)) h3 hk).trans ?_;rw [hg];rfl) ?_
  refine zai rfl ?_
  have:zi9 r k=r:=zpu (zmw hg)
  exact⟨rfl,by rw [hw2,this];exact hS0.ext hx1 (by simp),by rw [hw2];exact hx1.mono (by simp)⟩
 | some v=>
  have hv:vw r k=some v.2:=by simp [vw,hg]
  obtain⟨b,hb,_⟩:=zvx h3 hg
  obtain⟨hO,hOf⟩:=h6 _ hb
  have hO:Mine H 0 qw 1 v.1 (byteCells v.2):=hO
  have htd:=zvl h3 hg
  have hvl:v.2.length=v.1.2.1:=by have:=hO.len;rw [jl] at this;omega
  rw [hv]
  refine zgg (l:=[.slc,.bool]) (v.1,true) (by refine (ze1 K27 u57 z22 hw2 (hx1.get h2 (by simp)) h3 hk).trans ?_;rw [hg];rfl) ?_
  refine jr rfl ?_
  have hp1:=hx1.get h1 (by simp)
  refine je (t:=(total r:Int)) hw2 hp1 rfl ?_
  refine zb3 ((total (zi9 r k):Nat):Int) (by simp only;omega) (by omega) (by omega) ?_
  refine zbd hw2 hp1 (by simp) fun w3 hw3=>?_
  refine jv hw3 fun w4 hw4=>?_
  have hpH:p < H.size:=lt_of_get h1
  have hpm:p≠m:=by
   intro e;rw [e] at h1;rw [h1] at h2;cases h2
  have hp3:w3.heap[p]?=some (.cells #[Value.int .i64 q,.int .i64 (total (zi9 r k):Int),.map (some m)] zgc (0,0)):=by rw [hw3];exact qc hp1
  have hm3:w3.heap[m]?=some (.map (ents arr (vl bv r)) c):=by rw [hw3];exact zfn (hx1.get h2 (by simp)) (Ne.symm hpm)
  have hk3:w3.heap[H.size]?=some (.cells (byteCells k).toArray zf (0,0)):=by rw [hw3];exact zfn hk1 (show H.size≠p by omega)
  have hx3:Ext [p] H w3.heap:=by rw [hw3];exact (hx1.mono (by simp)).trans (Ext.set _ (by simp))
  rw [<-hw3] at hw4
  generalize w3.heap=H3 at *
  refine je (t:=some m) hw4 hp3 rfl ?_
  refine qp hw4 hk3 (by simp [byteCells,hk]) ?_
  refine zah (s:=.any) _ _ (qb4 K27 u57 hw4 hm3 h3 hk) ?_
  have hx5:Ext [p,m] H (H3.setIfInBounds m (.map (ents arr (vl bv (zi9 r k))) c)):=(hx3.mono (by simp)).trans (Ext.set _ (by simp))
  refine⟨rfl,⟨m,zfn hp3 hpm,qc hm3,h3.del k,h4,h5,?_,?_⟩,hx5.mono (by simp [h4,h5])⟩
  ·intro x hx
   obtain⟨hO',hf'⟩:=h6 x (zyl hx)
   refine⟨hO'.ext hx5 ?_,hf'⟩
   intro b hb
   rcases hO' with⟨h,_⟩ | ⟨bb,cc,h,_,hbb,_⟩
   ·simp [jk,h] at hb
   ·simp only [jk,h,List.mem_singleton] at hb
    subst hb
    simp only [List.mem_cons,List.not_mem_nil,or_false,not_or]
    exact⟨fun e=>(by rw [e,h1] at hbb;cases hbb),fun e=>(by rw [e,h2] at hbb;cases hbb)⟩
  ·intro x hx y hy
   exact h7 x (zyl hx) y (zyl hy)
def spoilt (L:List UInt8) (at_:Int) (t:UInt8):List UInt8:=L.set at_.toNat (L.getD at_.toNat 0 ^^^ t)
def zct (o:Option (List UInt8)) (at_:Int) (t:UInt8):Int:=match o with | none=>50 | some L=>if at_ < 0\/(L.length:Int)<=at_\/t=0 then 1 else 0
theorem qe0 {w:World}{H:Heap}{fp:List Nat}{p:Nat}{q:Int}{r:SM}{c:Nat}{k:List UInt8}{at_:Int}{t:UInt8}(hw:w.heap=H) (hS:Store H fp p q r c) (hk:k.length=32) :
  zy P zgp #[.pointer (some ⟨p,0,none⟩),arr k,.int .i64 at_,.int .u8 (t.toNat:Int)] w fun e w'=>e=.returned (.int .i64 (zct (vw r k) at_ t))/\∃ r',Store w'.heap fp p q r' c/\Ext fp H w'.heap /\
   total r'=total r/\r'.length=r.length/\∀ k',vw r' k'=if zct (vw r k) at_ t=0/\k'=k then (vw r k).map fun L=>spoilt L at_ t else vw r k':=by
 have hS0:=hS
 obtain⟨m,h1,h2,h3,h4,h5,h6,h7⟩:=hS
 refine zox ?_
 unfold zjn
 refine jm hw fun w1 hw1=>?_
 have hx1:Ext [] H (H.push (.cells (Value.cells (arr k)) zf (0,0))):=.push _
 generalize hH1:H.push (.cells (Value.cells (arr k)) zf (0,0))=H1 at *
 have hk1:H1[H.size]?=some (.cells (byteCells k).toArray zf (0,0)):=by rw [<-hH1];exact zk
 refine jr rfl ?_
 refine jv hw1 fun w2 hw2=>?_
 simp only [qg]
 refine je (t:=some m) hw2 (hx1.get h1 (by simp)) rfl ?_
 refine qp hw2 hk1 (by simp [byteCells,hk]) ?_
 have keep:∀ (C:Int),C≠0->zct (vw r k) at_ t=C->(Ending.returned (.int .i64 C)=Ending.returned (.int .i64 (zct (vw r k) at_ t))/\∃ r',Store w2.heap fp p q r' c/\Ext fp H w2.heap /\
   total r'=total r/\r'.length=r.length/\∀ k',vw r' k'=if zct (vw r k) at_ t=0/\k'=k then (vw r k).map fun L=>spoilt L at_ t else vw r k'):=by
  intro C hC hs
  refine⟨by rw [hs],r,by rw [hw2];exact hS0.ext hx1 (by simp),by rw [hw2];exact hx1.mono (by simp),rfl,rfl,fun k'=>?_⟩
  rw [if_neg (by rw [hs];exact fun h=>hC h.1)]
 cases hg:zbk r k with
 | none=>
  have hv:vw r k=none:=by simp [vw,hg]
  refine zgg (l:=[.slc,.bool]) ((none,0,0),false) (by refine (ze1 K27 u57 z22 hw2 (hx1.get h2 (by simp)) h3 hk).trans ?_;rw [hg];rfl) ?_
  refine zai rfl ?_
  exact keep 50 (by omega) (by rw [hv];rfl)
 | some v=>
  have hv:vw r k=some v.2:=by simp [vw,hg]
  obtain⟨b,hb,_⟩:=zvx h3 hg
  obtain⟨hO,hOf⟩:=h6 _ hb
  have hO:Mine H 0 qw 1 v.1 (byteCells v.2):=hO
  have hvl:v.2.length=v.1.2.1:=by have:=hO.len;rw [jl] at this;omega
  refine zgg (l:=[.slc,.bool]) (v.1,true) (by refine (ze1 K27 u57 z22 hw2 (hx1.get h2 (by simp)) h3 hk).trans ?_;rw [hg];rfl) ?_
  refine jr rfl ?_
  have one:∀ h:at_ < 0\/(v.2.length:Int)<=at_\/t=0,zct (vw r k) at_ t=1:=by intro h;rw [hv];simp only [zct,if_pos h]
  refine zar ?_
  refine zx (fun h=>keep 1 (by omega) (one (.inl h))) (fun ha0=>?_)
  refine zx (fun h=>keep 1 (by omega) (one (.inr (.inl (by simp only at h;omega))))) (fun hal=>?_)
  refine zbo (fun h=>keep 1 (by omega) (one (.inr (.inr (UInt8.toNat_inj.1 (by simpa using h)))))) (fun ht=>?_)
  obtain⟨i,rfl⟩:∃ i:Nat,at_=(i:Int):=⟨at_.toNat,by omega⟩
  have hil:i < v.2.length:=by simp only at hal;omega
  have hs0:zct (vw r k) (i:Int) t=0:=by
   rw [hv]
   simp only [zct]
   rw [if_neg]
   rintro (h | h | h)
   ·omega
   ·omega
   ·subst h;exact ht rfl
  obtain⟨bb,cc,hxa,hbb,hic,hci,hput⟩:=(hO.ext hx1 (by simp)).put (i:=i) (by simpa using hil) (.int .u8 ((v.2.getD i 0 ^^^ t).toNat:Int))
  have hva:v.1.1=some ⟨bb,0,none⟩:=hxa
  simp only
  rw [hva]
  refine zkk i rfl (by omega) ?_
  rw [Nat.zero_add]
  refine je (t:=((v.2.getD i 0).toNat:Int)) hw2 hbb (by rw [hci,zc9 hil];rfl) ?_
  refine qju _ _ ?_
  refine zkk i rfl (by omega) ?_
  rw [Nat.zero_add]
  refine zbd hw2 hbb hic fun w3 hw3=>?_
  rw [<-hw3] at hput
  have hbf:bb∈fp:=hOf bb (by simp only [jk];rw [hva];simp)
  have hx3:Ext [bb] H w3.heap:=by rw [hw3];exact (hx1.mono (by simp)).trans (Ext.set _ (by simp))
  have hbl:bb < H.size:=by
   rcases hO with⟨h,_⟩ | ⟨b2,c2,h,_,hb2,_⟩
   ·rw [h] at hva;cases hva
   ·rw [hva] at h;cases h;exact lt_of_get hb2
  have hbb0:H[bb]?=some (.cells cc qw (0,0)):=by
   have:=hx1.2 bb hbl (by simp)
   rw [<-this,hbb]
  have hmd:(zbk r k).isSome=true:=by rw [hg];rfl
  have hvb:vl bv (zhm r k (v.1,spoilt v.2 (i:Int) t) c)=vl bv r:=by
   rw [zfr hmd]
   simp only [vl,List.map_map]
   apply List.map_congr_left
   intro x hx
   simp only [Function.comp]
   by_cases e:x.1=k
   ·have:=zdu h3.keys (k:=x.1) (v:=x.2.1) (c:=x.2.2) hx
    rw [e,hg] at this
    simp only [if_pos e]
    cases this
    rfl
   ·simp only [if_neg e]
  have hmemr:∀ x∈zhm r k (v.1,spoilt v.2 (i:Int) t) c,(x.1=k/\x.2.1=(v.1,spoilt v.2 (i:Int) t))\/(x.1≠k/\x∈r):=by
   intro x hx
   rw [zfr hmd] at hx
   obtain⟨y,hy,rfl⟩:=List.mem_map.1 hx
   by_cases e:y.1=k
   ·rw [if_pos e];exact .inl ⟨e,rfl⟩
   ·rw [if_neg e];exact .inr ⟨e,hy⟩
  have hok:=h3.upd (k:=k) hk (v.1,spoilt v.2 (i:Int) t)
  rw [show zk7 r k c=c from by simp [zk7,hg]] at hok
  have hlen:(spoilt v.2 (i:Int) t).length=v.2.length:=by simp [spoilt]
  have hsp:byteCells (spoilt v.2 (i:Int) t)=(byteCells v.2).set i (.int .u8 ((v.2.getD i 0 ^^^ t).toNat:Int)):=by
   simp only [spoilt,byteCells,Int.toNat_natCast,List.map_set]
  refine⟨by rw [hs0],zhm r k (v.1,spoilt v.2 (i:Int) t) c,?_,hx3.mono (by simpa using hbf),?_,?_,?_⟩
  ·have htot:total (zhm r k (v.1,spoilt v.2 (i:Int) t) c)=total r:=by
    rw [zfr hmd]
    simp only [total,List.map_map]
    congr 1
    apply List.map_congr_left
    intro x hx
    simp only [Function.comp]
    by_cases e:x.1=k
    ·have:=zdu h3.keys (k:=x.1) (v:=x.2.1) (c:=x.2.2) hx
     rw [e,hg] at this
     simp only [if_pos e]
     cases this
     exact hlen
    ·simp only [if_neg e]
   refine⟨m,?_,?_,hok,h4,h5,?_,?_⟩
   ·rw [htot]
    exact hx3.get h1 (by simp only [List.mem_singleton];intro e;rw [<-e,h1] at hbb0;cases hbb0)
   ·rw [hvb]
    exact hx3.get h2 (by simp only [List.mem_singleton];intro e;rw [<-e,h2] at hbb0;cases hbb0)
   ·intro x hx
    rcases hmemr x hx with⟨e,hx2⟩ | ⟨e,hx2⟩
    ·rw [hx2]
     refine⟨?_,hOf⟩
     rw [hsp];exact hput
    ·refine⟨(h6 x hx2).1.ext hx3 fun b' hb'=>?_,(h6 x hx2).2⟩
     simp only [List.mem_singleton]
     intro e'
     exact h7 x hx2 _ hb e b' hb' (by simp only [jk];rw [hva];simp [e'])
   ·intro x hx y hy hne
    have sl:∀ z∈zhm r k (v.1,spoilt v.2 (i:Int) t) c,∃ z'∈r,z'.1=z.1/\z'.2.1.1=z.2.1.1:=by
     intro z hz
     rcases hmemr z hz with⟨e,hz2⟩ | ⟨e,hz2⟩
     ·exact⟨_,hb,e.symm,by rw [hz2]⟩
     ·exact⟨z,hz2,rfl,rfl⟩
    obtain⟨x',hx',ex1,ex2⟩:=sl x hx
    obtain⟨y',hy',ey1,ey2⟩:=sl y hy
    rw [<-ex2,<-ey2]
    exact h7 x' hx' y' hy' (by rw [ex1,ey1];exact hne)
  ·rw [zfr hmd]
   simp only [total,List.map_map]
   congr 1
   apply List.map_congr_left
   intro x hx
   simp only [Function.comp]
   by_cases e:x.1=k
   ·have:=zdu h3.keys (k:=x.1) (v:=x.2.1) (c:=x.2.2) hx
    rw [e,hg] at this
    simp only [if_pos e]
    cases this
    exact hlen
   ·simp only [if_neg e]
  ·rw [zfr hmd];simp
  ·intro k'
   rw [hs0]
   simp only [vw,zjq,true_and]
   by_cases e:k'=k
   ·subst e;simp [hg]
   ·simp [e]
abbrev BL:=List (List UInt8×List UInt8)
def znl (F:BL) (k:List UInt8):Option (List UInt8):=(F.find? fun x=>x.1==k).map (·.2)
def zpy (F:BL) (L:List UInt8):BL:=if (znl F (Sha.sum L)).isSome then F else F++[(Sha.sum L,L)]
def fresh (Ls:List (List UInt8)):BL:=Ls.foldl zpy []
def extra (r:SM) (F:BL):Nat:=((F.filter fun x=>(vw r x.1).isNone).map fun x=>x.2.length).sum
def zwo (V:Option (List UInt8)) (o:Option (List UInt8)) (k:List UInt8):Option (List UInt8):=match o with
 | none=>V
 | some L=>match V with
  | none=>some L
  | some old=>if Sha.sum old=k then some old else some L
def long (Ls:List (List UInt8)):Prop:=∃ L∈Ls,4096 < L.length
def Rows (H:Heap) (a:Option Addr) (n:Nat) (Ls:List (List UInt8)):Prop:=n=Ls.length/\∀ i (h:i < Ls.length),∃ b o c T fr x,a=some ⟨b,o,none⟩/\H[b]?=some (.cells c T fr)/\c[o+i]?=some (zb2 x)/\Cells H x.1 (byteCells Ls[i]) /\
 x.2.1=Ls[i].length/\x.2.1<=x.2.2
def view (fr:SM):BL:=fr.map fun x=>(x.1,x.2.1.2)
theorem zpd {fr:SM}{k:List UInt8}:znl (view fr) k=vw fr k:=by
 induction fr with
 | nil=>rfl
 | cons x l ih=>
  simp only [znl,view,List.map_cons,List.find?_cons] at ih |-
  unfold vw
  by_cases e:x.1=k
  ·rw [zb7 e];simp [e]
  ·rw [zb4 e]
   have:(x.1==k)=false:=by simp [e]
   simp only [this]
   exact ih
theorem zq6 {Ls:List (List UInt8)}{i:Nat}(h:i < Ls.length):fresh (Ls.take (i+1))=zpy (fresh (Ls.take i)) Ls[i]:=by
 unfold fresh
 rw [List.take_add_one,List.getElem?_eq_getElem h,Option.toList_some,List.foldl_append]
 rfl
theorem Store.mono {H:Heap}{fp fp':List Nat}{p:Nat}{q:Int}{r:SM}{c:Nat}(h:Store H fp p q r c) (hf:∀ b∈fp,b∈fp'):Store H fp' p q r c:=by
 obtain⟨m,h1,h2,h3,h4,h5,h6,h7⟩:=h
 exact⟨m,h1,h2,h3,hf p h4,hf m h5,fun x hx=>⟨(h6 x hx).1,fun b hb=>hf b ((h6 x hx).2 b hb)⟩,h7⟩
def qa6 (r:SM) (k:List UInt8):Nat:=match vw r k with | none=>0 | some L=>L.length
theorem zzt {r:SM}{c c':Nat}(h:MOk (fun L=>L.length=32) r c){k:List UInt8}{v:BV}:total (zhm r k v c')+qa6 r k=total r+v.2.length:=by
 unfold qa6 vw
 cases hg:zbk r k with
 | none=>
  rw [zkj hg]
  simp [total]
 | some v'=>
  rw [zfr (by rw [hg];rfl)]
  simp only [Option.map_some]
  have hk:=h.keys
  clear h
  induction r with
  | nil=>simp [zbk] at hg
  | cons x r ih=>
   simp only [List.map_cons,List.nodup_cons] at hk
   by_cases e:x.1=k
   ·rw [zb7 e,Option.some.injEq] at hg
    have:r.map (fun x=>if x.1=k then (x.1,v,x.2.2) else x)=r:=by
     rw [List.map_congr_left (g:=id),List.map_id]
     intro y hy
     rw [if_neg];rfl
     intro h;exact hk.1 (by rw [e,<-h];exact List.mem_map.2 ⟨y,hy,rfl⟩)
    rw [List.map_cons,if_pos e,this,<-hg]
    simp only [total,List.map_cons,List.sum_cons]
    omega
   ·rw [zb4 e] at hg
    have:=ih hg hk.2
    rw [List.map_cons,if_neg e]
    simp only [total,List.map_cons,List.sum_cons] at this |-
    omega
theorem qcf {r:SM}{k k':List UInt8}{v:BV}{c:Nat}:vw (zhm r k v c) k'=if k'=k then some v.2 else vw r k':=by
 unfold vw;rw [zjq];split <;> rfl
def Ph1 (H:Heap) (r:SM) (Ls:List (List UInt8)) (i:Nat) (x:Int) (w:World):Prop:=
 ∃ (fr:SM) (cf:Nat),i<=Ls.length/\x=(extra r (view fr):Int)/\view fr=fresh (Ls.take i)/\Ext [] H w.heap/\w.heap[H.size]?=some (.map (ents arr (vl bv fr)) cf)/\MOk (fun L=>L.length=32) fr cf/\fr.length<=i /\
  (∀ x∈fr,Mine w.heap H.size qw 1 x.2.1.1 (byteCells x.2.1.2)/\x.2.1.2.length<=4096)/\Apart fr/\(∀ L∈Ls.take i,L.length<=4096)
theorem z3x {r:SM}{fr:SM}(h:∀ x∈fr,x.2.1.2.length<=4096):extra r (view fr)<=4096 * fr.length:=by
 induction fr with
 | nil=>simp [extra,view]
 | cons x l ih=>
  have h1:=ih fun y hy=>h y (by simp [hy])
  have h2:=h x (by simp)
  simp only [extra,view,List.map_cons,List.filter_cons] at h1 |-
  split
  ·simp only [List.map_cons,List.sum_cons,List.length_cons];omega
  ·simp only [List.length_cons];omega
def Ph3 (H:Heap) (fp:List Nat) (p:Nat) (q:Int) (r fr:SM) (cf it:Nat) (n:Nat) (w:World):Prop:=
 ∃ (seen:Array Nat) (r':SM) (c':Nat),Store w.heap (fp++fr.flatMap fun x=>jk x.2.1.1) p q r' c'/\Ext fp H w.heap/\w.heap[H.size]?=some (.map (ents arr (vl bv fr)) cf)/\w.heap[it]?=some (.mapIter (some H.size) cf seen cf)/\H.size<=it /\
  (∀ x∈fr,Mine w.heap H.size qw 1 x.2.1.1 (byteCells x.2.1.2))/\(∀ k,vw r' k=if ∃ x∈fr,x.1=k/\x.2.2∈seen then zwo (vw r k) (vw fr k) k else vw r k) /\
  n=(fr.filter fun y=>!seen.contains y.2.2).length/\total r'+4096 * n<=total r+4096 * fr.length/\(∀ y∈r',(∀ b∈jk y.2.1.1,b∈fp)\/∃ z∈fr,z.1=y.1/\z.2.1=y.2.1)
def zl0 (q:Int) (r:SM) (Ls:List (List UInt8)) (code:Int) (r':SM):Prop:=
 (long Ls->code=2/\r'=r)/\(¬long Ls->q < total r+extra r (fresh Ls)->code=3/\r'=r) /\
 (¬long Ls->¬q < total r+extra r (fresh Ls)->code=0/\∀ k,vw r' k=zwo (vw r k) (znl (fresh Ls) k) k)
set_option maxHeartbeats 8000000 in
theorem z4p {w:World}{H:Heap}{fp:List Nat}{p:Nat}{q:Int}{r:SM}{c:Nat}{a:Option Addr}{n nc:Nat}{Ls:List (List UInt8)}(hw:w.heap=H) (hS:Store H fp p q r c) (hfp:∀ b∈fp,b < H.size) (hR:Rounds H) (h0:0∉fp)
  (hL:Rows H a n Ls) (hb:total r+4096 * Ls.length < 1125899906842624) (hq:0<=q) (hq2:q<=9223372036854775807) (hlen:∀ k L,vw r k=some L->L.length < 1099511627776) :
  zy P zek #[.pointer (some ⟨p,0,none⟩),.slice a n nc] w fun e w'=>∃ code r' c' fp',e=.returned (.int .i64 code)/\Store w'.heap fp' p q r' c'/\Ext fp H w'.heap/\(∀ b∈fp',b < w'.heap.size)/\(∀ b∈fp',b∈fp\/H.size<=b)/\zl0 q r Ls code r' /\
   total r'<=total r+4096 * Ls.length:=by
 obtain⟨rfl,hL⟩:=hL
 have hH0:0 < H.size:=by obtain⟨_,_,_,h,_⟩:=hR;exact lt_of_get h
 refine znr ?_
 unfold zi3
 refine jr rfl ?_
 refine zah (s:=.map) (some H.size) _ (zii hw) ?_
 refine jg (fun (s:Int×Int) w=>∃ i:Nat,s.2=(i:Int)/\Ph1 H r Ls i s.1 w) (fun s _=>(Ls.length-s.2).toNat) ⟨0,rfl,[],0,by omega,rfl,rfl,.push _,zk,.nil,by simp,(by intro x hx;cases hx),(by intro x hx;cases hx),(by simp)⟩ ?_
 rintro ⟨x,_⟩ w2 ⟨i,rfl,fr,cf,hi,rfl,hF,hx2,hm2,hok,hfl,hown,hap,hsm⟩
 refine zx (fun hlt=>?_) (fun hge=>?_)
 ·have hlt:i < Ls.length:=by simp only at hlt;omega
  refine joinP_of (fun s w=>Ph1 H r Ls (i+1) s w) ?_ ?_
  rotate_left
  ·intro s2 w3 h3
   refine jd ((i+1:Nat):Int) (by simp only;omega) (by omega) (by omega) ?_
   exact⟨⟨i+1,rfl,h3⟩,by simp only;omega⟩
  obtain⟨ba,oa,ca,Ta,fra,xs,rfl,hba,hca,hxc,hxl,hxc2⟩:=hL i hlt
  refine zkk i rfl hlt ?_
  refine je (s:=.slc) (t:=xs) rfl (hx2.get hba (by simp)) hca ?_
  refine zx (fun hbig=>?_) (fun hsmall=>?_)
  ·-- too long
   have hlo:long Ls:=⟨Ls[i],List.getElem_mem hlt,by omega⟩
   exact⟨2,r,c,fp,rfl,hS.ext hx2 (by simp),hx2.mono (by simp),fun b hb=>Nat.lt_of_lt_of_le (hfp b hb) hx2.1,fun b hb=>.inl hb,⟨fun _=>⟨rfl,rfl⟩,fun h=>absurd hlo h,fun h=>absurd hlo h⟩,by omega⟩
  have hlen4:Ls[i].length<=4096:=by omega
  generalize hLi:Ls[i]=L at *
  generalize hH2:w2.heap=H2 at *
  have hxc':=hxc.ext hx2 (by simp)
  refine zl (z9w hH2 hxc' hxl hxc2 (hR.ext hx2 (by simp)) (by omega)) ?_
  rintro e w3 ⟨rfl,hx3⟩
  refine⟨arr (Sha.sum L),rfl,?_⟩
  generalize hH3:w3.heap=H3 at *
  have hx23:Ext [] H H3:=hx2.trans hx3
  refine jm hH3 fun w4 hw4=>?_
  refine zay (zjj.trans (by rw [xq,zae])) (by rw [xq,zae];omega) jo hw4 zk (by rw [zsj,xq,zae];simp) fun w5 hw5=>?_
  rw [show setCells (zc P zf) 0 (Value.cells (arr (Sha.sum L))).toList=(byteCells (Sha.sum L)).toArray from by rw [zak (by rw [zsj,Array.length_toList,xq,zae];simp)];simp [Value.cells,arr]] at hw5
  have hx5:Ext [] H3 w5.heap:=by rw [hw5];exact (Ext.push _).set_own (.inl (Nat.le_refl _))
  have hk5:w5.heap[H3.size]?=some (.cells (byteCells (Sha.sum L)).toArray zf (0,0)):=by rw [hw5];exact qc zk
  generalize hH5:w5.heap=H5 at *
  have hx25:Ext [] H2 H5:=hx3.trans hx5
  have hm5:=hx25.get hm2 (by simp)
  refine qp hH5 hk5 (by simp [byteCells,zae]) ?_
  have hown5:∀ x∈fr,Mine H5 H.size qw 1 x.2.1.1 (byteCells x.2.1.2)/\x.2.1.2.length<=4096:=fun x hx=>⟨(hown x hx).1.ext hx25 (by simp),(hown x hx).2⟩
  cases hg:zbk fr (Sha.sum L) with
  | some v=>
   refine zgg (l:=[.slc,.bool]) (v.1,true) (by refine (ze1 K27 u57 z22 hH5 hm5 hok zae).trans ?_;rw [hg];rfl) ?_
   refine zai rfl ?_
   refine⟨fr,cf,hlt,rfl,?_,?_,?_,hok,by omega,?_,hap,?_⟩
   ·rw [zq6 hlt,<-hF,hLi]
    unfold zpy
    rw [zpd,if_pos (by simp [vw,hg])]
   ·rw [hH5];exact hx2.trans hx25
   ·rw [hH5];exact hm5
   ·rw [hH5];exact hown5
   ·intro M hM
    rw [List.take_add_one,List.mem_append] at hM
    rcases hM with hM | hM
    ·exact hsm M hM
    ·rw [List.getElem?_eq_getElem hlt] at hM;simp at hM;rw [hM,hLi];exact hlen4
  | none=>
   refine zgg (l:=[.slc,.bool]) ((none,0,0),false) (by refine (ze1 K27 u57 z22 hH5 hm5 hok zae).trans ?_;rw [hg];rfl) ?_
   refine jr rfl ?_
   refine jv hH5 fun w6 hw6=>?_
   refine qp hw6 hk5 (by simp [byteCells,zae]) ?_
   refine zl (z9g hw6 (hxc'.ext hx25 (by simp)) hxl (by omega)) ?_
   rintro e w7 ⟨y,rfl,hyO,hx7⟩
   refine⟨y,rfl,?_⟩
   generalize hH7:w7.heap=H7 at *
   refine⟨qp hH7 (hx7.get hk5 (by simp)) (by simp [byteCells,zae]) rfl,?_⟩
   have hm7:=hx7.get hm5 (by simp)
   refine zmh _ (zjm K27 u57 hH7 hm7 hok zae (y,L) rfl) ?_
   refine jv rfl fun w8 hw8=>?_
   simp only [qg]
   obtain⟨m,h1,h2,h3,h4,h5,h6,h7⟩:=hS
   have hx57:Ext [] H H7:=(hx2.trans hx25).trans hx7
   have hx8:Ext [] H (H7.setIfInBounds H.size (.map (ents arr (vl bv (zhm fr (Sha.sum L) (y,L) cf))) (zk7 fr (Sha.sum L) cf))):=hx57.set_own (.inl (Nat.le_refl _))
   have hx78:Ext [H.size] H7 (H7.setIfInBounds H.size (.map (ents arr (vl bv (zhm fr (Sha.sum L) (y,L) cf))) (zk7 fr (Sha.sum L) cf))):=Ext.set _ (by simp)
   have hk8:(H7.setIfInBounds H.size (.map (ents arr (vl bv (zhm fr (Sha.sum L) (y,L) cf))) (zk7 fr (Sha.sum L) cf)))[H3.size]?=some (.cells (byteCells (Sha.sum L)).toArray zf (0,0)):=
    zfn (hx7.get hk5 (by simp)) (by have:=lt_of_get hm2;have:=hx3.1;omega)
   have hm8:(H7.setIfInBounds H.size (.map (ents arr (vl bv (zhm fr (Sha.sum L) (y,L) cf))) (zk7 fr (Sha.sum L) cf)))[H.size]?=some (.map (ents arr (vl bv (zhm fr (Sha.sum L) (y,L) cf))) (zk7 fr (Sha.sum L) cf)):=qc hm7
   generalize (H7.setIfInBounds H.size (.map (ents arr (vl bv (zhm fr (Sha.sum L) (y,L) cf))) (zk7 fr (Sha.sum L) cf)))=H8 at *
   refine je (t:=some m) hw8 (hx8.get h1 (by simp)) rfl ?_
   refine qp hw8 hk8 (by simp [byteCells,zae]) ?_
   have hupd:zhm fr (Sha.sum L) (y,L) cf=fr++[(Sha.sum L,(y,L),cf)]:=zkj hg
   have hvw:view (zhm fr (Sha.sum L) (y,L) cf)=view fr++[(Sha.sum L,L)]:=by rw [hupd];simp [view]
   have hVw:view fr++[(Sha.sum L,L)]=fresh (Ls.take (i+1)):=by
    rw [zq6 hlt,<-hF,hLi]
    unfold zpy
    rw [zpd,if_neg (by simp [vw,hg])]
   have fin:∀ (X:Int),X=(extra r (view fr++[(Sha.sum L,L)]):Int)->Ph1 H r Ls (i+1) X w8:=by
    intro X hX
    refine⟨zhm fr (Sha.sum L) (y,L) cf,zk7 fr (Sha.sum L) cf,hlt,by rw [hvw];exact hX,by rw [hvw,hVw],by rw [hw8];exact hx8,by rw [hw8];exact hm8,hok.upd zae _,by rw [hupd];simp;omega,?_,?_,?_⟩
    ·intro z hz
     rw [hw8]
     rcases zmf hz with⟨hz1,hz2⟩ | ⟨_,hz2⟩
     ·rw [hz2]
      refine⟨(hyO.ext hx78 fun b hb=>?_).mono (hx2.trans hx25).1,hlen4⟩
      have:=qx hyO b hb
      have:=lt_of_get hm5
      simp;omega
     ·refine⟨((hown5 z hz2).1.ext hx7 (by simp)).ext hx78 fun b hb=>?_,(hown5 z hz2).2⟩
      rcases (hown5 z hz2).1 with⟨h,_⟩ | ⟨bb,cc,h,_,hbb,_⟩
      ·simp [jk,h] at hb
      ·simp only [jk,h,List.mem_singleton] at hb
       subst hb
       simp only [List.mem_singleton]
       intro e;rw [e,hm5] at hbb;cases hbb
    ·have far:∀ z∈fr,∀ b∈jk z.2.1.1,b < H5.size:=by
      intro z hz b hb
      rcases (hown5 z hz).1 with⟨h,_⟩ | ⟨bb,cc,h,_,hbb,_⟩
      ·simp [jk,h] at hb
      ·simp only [jk,h,List.mem_singleton] at hb
       subst hb;exact lt_of_get hbb
     intro z hz z' hz' hne b hb hb'
     rcases zmf hz with⟨hz1,hz2⟩ | ⟨hz1,hz2⟩ <;> rcases zmf hz' with⟨hz1',hz2'⟩ | ⟨hz1',hz2'⟩
     ·exact hne (hz1.trans hz1'.symm)
     ·rw [hz2] at hb
      have:=qx hyO b hb
      have:=far z' hz2' b hb'
      omega
     ·rw [hz2'] at hb'
      have:=qx hyO b hb'
      have:=far z hz2 b hb
      omega
     ·exact hap z hz2 z' hz2' hne b hb hb'
    ·intro M hM
     rw [List.take_add_one,List.mem_append] at hM
     rcases hM with hM | hM
     ·exact hsm M hM
     ·rw [List.getElem?_eq_getElem hlt] at hM;simp at hM;rw [hM,hLi];exact hlen4
   have hxl2:(xs.2.1:Int)=(L.length:Int):=by rw [hxl]
   cases hgr:zbk r (Sha.sum L) with
   | none=>
    refine zgg (l:=[.slc,.bool]) ((none,0,0),false) (by refine (ze1 K27 u57 z22 hw8 (hx8.get h2 (by simp)) h3 zae).trans ?_;rw [hgr];rfl) ?_
    refine zai rfl ?_
    have hel:=z3x (r:=r) fun x hx=>(hown x hx).2
    refine jd ((extra r (view fr)+L.length:Nat):Int) (by omega) (by omega) (by omega) ?_
    refine fin _ ?_
    simp only [extra,List.filter_append,List.map_append,List.sum_append]
    have:(vw r (Sha.sum L)).isNone=true:=by simp [vw,hgr]
    simp [this]
   | some v=>
    refine zgg (l:=[.slc,.bool]) (v.1,true) (by refine (ze1 K27 u57 z22 hw8 (hx8.get h2 (by simp)) h3 zae).trans ?_;rw [hgr];rfl) ?_
    refine jr rfl ?_
    refine fin _ ?_
    simp only [extra,List.filter_append,List.map_append,List.sum_append]
    have:(vw r (Sha.sum L)).isNone=false:=by simp [vw,hgr]
    simp [this]
 have hiL:i=Ls.length:=by simp only at hge;omega
 subst hiL
 rw [List.take_length] at hF hsm
 have hnl:¬long Ls:=fun ⟨L,hL',h⟩=>by have:=hsm L hL';omega
 have hex:=z3x (r:=r) (fr:=fr) fun x hx=>(hown x hx).2
 have hS0:=hS
 obtain⟨m,h1,h2,h3,h4,h5,h6,h7⟩:=hS
 refine jv rfl fun w3 hw3=>?_
 generalize hH2:w2.heap=H2 at *
 simp only [qg]
 refine je (t:=q) hw3 (hx2.get h1 (by simp)) rfl ?_
 refine je (t:=(total r:Int)) hw3 (hx2.get h1 (by simp)) rfl ?_
 refine zb3 (q-total r) rfl (by omega) (by omega) ?_
 refine zx (fun hbig=>?_) (fun hfit=>?_)
 ·have hbig:q < total r+extra r (fresh Ls):=by rw [<-hF];omega
  exact⟨3,r,c,fp,rfl,by rw [hw3];exact hS0.ext hx2 (by simp),by rw [hw3];exact hx2.mono (by simp),fun b hb=>by rw [hw3];exact Nat.lt_of_lt_of_le (hfp b hb) hx2.1,fun b hb=>.inl hb,⟨fun h=>absurd h hnl,fun _ _=>⟨rfl,rfl⟩,fun _ h=>absurd hbig h⟩,by omega⟩
 have hfit:¬q < total r+extra r (fresh Ls):=by rw [<-hF];omega
 have hHH:H.size < H2.size:=lt_of_get hm2
 refine zah (s:=.ptr) (some ⟨H2.size,0,none⟩) _ (zy7 u57 hw3 hm2) ?_
 have hxr:Ext [] H2 (H2.push (.mapIter (some H.size) cf #[] cf)):=.push _
 refine zjd (fun n _ w=>Ph3 H fp p q r fr cf H2.size n w) fr.length
  ⟨#[],r,c,((hS0.ext hx2 (by simp)).ext hxr (by simp)).mono fun b hb=>List.mem_append.2 (.inl hb),(hx2.trans hxr).mono (by simp),hxr.get hm2 (by simp),zk,Nat.le_of_lt hHH,fun x hx=>(hown x hx).1.ext hxr (by simp),?_,?_,by omega,fun y hy=>.inl (h6 y hy).2⟩ ?_
 ·intro k
  rw [if_neg]
  rintro ⟨x,_,_,h⟩
  simp at h
 ·rw [List.filter_eq_self.2]
  intro y _;simp
 rintro n _ w4 ⟨seen,r',c',hS4,hx4,hm4,hit4,hitl,hown4,hview,hn,htot,hsrc⟩ K hK
 have hFB:∀ b∈fp++fr.flatMap (fun x=>jk x.2.1.1),b < w4.heap.size/\b≠H.size/\b≠H2.size/\(b∈fp\/H.size<=b):=by
  intro b hb
  rcases List.mem_append.1 hb with hb | hb
  ·have:=hfp b hb
   have:=hx4.1
   exact⟨by omega,by omega,by omega,.inl hb⟩
  ·obtain⟨x,hx,hb⟩:=List.mem_flatMap.1 hb
   rcases hown4 x hx with⟨h,_⟩ | ⟨bb,cc,h,hge',hbb,_⟩
   ·simp [jk,h] at hb
   ·simp only [jk,h,List.mem_singleton] at hb
    subst hb
    exact⟨lt_of_get hbb,fun e=>(by rw [e,hm4] at hbb;cases hbb),fun e=>(by rw [e,hit4] at hbb;cases hbb),.inr hge'⟩
 have hfrlen:fr.length<=Ls.length:=hfl
 rcases z3u (P:=P) (ty:=0) rfl hm4 hit4 hok.old (Nat.le_refl _) with⟨hall,w5,hr5,hcm5,hw5⟩ | ⟨x,hx,hns,w5,hr5,hcm5,hw5⟩
 ·refine zah (s:=.any) _ w5 hr5 ?_ hcm5
  refine zkc (s:=.bool) false rfl rfl ?_
  refine jr rfl ?_
  refine⟨0,r',c',_,rfl,by rw [hw5];exact hS4,by rw [hw5];exact hx4,fun b hb=>by rw [hw5];exact (hFB b hb).1,fun b hb=>(hFB b hb).2.2.2,⟨fun h=>absurd h hnl,fun _ h=>absurd h hfit,fun _ _=>⟨rfl,fun k=>?_⟩⟩,by omega⟩
  rw [hview,<-hF,zpd]
  by_cases hk:∃ x∈fr,x.1=k/\x.2.2∈seen
  ·rw [if_pos hk]
  ·rw [if_neg hk]
   have:vw fr k=none:=by
    unfold vw
    rw [zhn];rfl
    intro x hx e
    exact hk ⟨x,hx,e,hall x hx⟩
   rw [this];rfl
 ·refine zah (s:=.any) _ w5 hr5 ?_ hcm5
  refine zkc (s:=.bool) true rfl rfl ?_
  refine zai rfl ?_
  refine joinP_of (fun _ w=>∃ n',n' < n/\Ph3 H fp p q r fr cf H2.size n' w) ?_ (fun _ w h=>by obtain⟨n',hn',hp⟩:=h;exact hK n' _ _ hn' hp)
  have hx1:x.1.length=32:=hok.fine x hx
  generalize hH4:w4.heap=H4 at *
  have hit5:w5.heap[H2.size]?=some (.mapIter (some H.size) cf (seen.push x.2.2) cf):=by rw [hw5];exact qc hit4
  have hx45:Ext [H2.size] H4 w5.heap:=by rw [hw5];exact Ext.set _ (by simp)
  generalize hH5:w5.heap=H5 at *
  clear hw5
  have hm5:=hx45.get hm4 (by simp;omega)
  refine qm (s:=.any) _ (zyx (last:=cf) hH5 hm5 hit5 hx hok) ?_
  refine zkc (s:=.any) (arr x.1) rfl rfl ?_
  refine zkc (s:=.slc) x.2.1.1 rfl rfl ?_
  refine jm hH5 fun w6 hw6=>?_
  refine zay (zjj.trans (by rw [xq,hx1])) (by rw [xq,hx1];omega) jo hw6 zk (by rw [zsj,xq,hx1];simp) fun w7 hw7=>?_
  rw [show setCells (zc P zf) 0 (Value.cells (arr x.1)).toList=(byteCells x.1).toArray from by rw [zak (by rw [zsj,Array.length_toList,xq,hx1];simp)];simp [Value.cells,arr]] at hw7
  have hx57:Ext [] H5 w7.heap:=by rw [hw7];exact (Ext.push _).set_own (.inl (Nat.le_refl _))
  have hk7:w7.heap[H5.size]?=some (.cells (byteCells x.1).toArray zf (0,0)):=by rw [hw7];exact qc zk
  generalize hH7:w7.heap=H7 at *
  clear hw7
  have hx47:Ext [H2.size] H4 H7:=hx45.trans (hx57.mono (by simp))
  have hS7:=hS4.ext hx47 fun b hb=>by simpa using (hFB b hb).2.2.1
  have hx7:Ext fp H H7:=hx4.own hx47 (by intro b hb hlt;simp at hb;omega)
  have hm7:=hx57.get hm5 (by simp)
  have hit7:=hx57.get hit5 (by simp)
  have hown7:∀ x∈fr,Mine H7 H.size qw 1 x.2.1.1 (byteCells x.2.1.2):=fun y hy=>(hown4 y hy).ext hx47 fun b hb=>by
   simpa using (hFB b (List.mem_append.2 (.inr (List.mem_flatMap.2 ⟨y,hy,hb⟩)))).2.2.1
  have hR7:=hR.ext hx7 h0
  obtain⟨m',g1,g2,g3,g4,g5,g6,g7⟩:=hS7
  have hvx:vw r' x.1=vw r x.1:=by
   rw [hview,if_neg]
   rintro ⟨y,hy,e,hs⟩
   rw [key_inj hok hy hx e] at hs
   exact hns hs
  have hfx:vw fr x.1=some x.2.1.2:=by
   unfold vw
   rw [zdu hok.keys (k:=x.1) (v:=x.2.1) (c:=x.2.2) hx];rfl
  have hdone:∀ k,(∃ y∈fr,y.1=k/\y.2.2∈seen.push x.2.2) ↔ (k=x.1\/∃ y∈fr,y.1=k/\y.2.2∈seen):=by
   intro k
   constructor
   ·rintro ⟨y,hy,e,hs⟩
    rcases Array.mem_push.1 hs with hs | hs
    ·exact .inr ⟨y,hy,e,hs⟩
    ·rw [<-e,Go.Fw.born_inj hok hy hx hs];exact .inl rfl
   ·rintro (rfl | ⟨y,hy,e,hs⟩)
    ·exact⟨x,hx,rfl,Array.mem_push.2 (.inr rfl)⟩
    ·exact⟨y,hy,e,Array.mem_push.2 (.inl hs)⟩
  have hlt:=zrh (l:=fr) hx hns
  have fin:∀ (w:World) (r2:SM) (c2:Nat),Store w.heap (fp++fr.flatMap fun x=>jk x.2.1.1) p q r2 c2->Ext fp H7 w.heap->Ext [p,m'] H7 w.heap->(∀ k,vw r2 k=if k=x.1 then zwo (vw r k) (some x.2.1.2) k else vw r' k) ->
    total r2<=total r'+4096->(∀ y∈r2,(∀ b∈jk y.2.1.1,b∈fp)\/∃ z∈fr,z.1=y.1/\z.2.1=y.2.1)->∃ n',n' < n/\Ph3 H fp p q r fr cf H2.size n' w:=by
   intro w r2 c2 hS2 hxe hxe2 hv2 ht2 hs2
   have np:∀ b,(b=H.size\/b=H2.size)->b∉[p,m']:=by
    intro b hb hb'
    simp only [List.mem_cons,List.not_mem_nil,or_false] at hb'
    rcases hb' with rfl | rfl
    ·have:=hFB b g4;omega
    ·have:=hFB b g5;omega
   refine⟨(fr.filter fun y=>!(seen.push x.2.2).contains y.2.2).length,by omega,seen.push x.2.2,r2,c2,hS2,hx7.trans hxe,hxe2.get hm7 (np _ (.inl rfl)),hxe2.get hit7 (np _ (.inr rfl)),hitl,?_,?_,rfl,by omega,hs2⟩
   ·intro y hy
    refine (hown7 y hy).ext hxe2 fun b hb hb'=>?_
    rcases hown7 y hy with⟨h,_⟩ | ⟨bb,cc,h,_,hbb,_⟩
    ·simp [jk,h] at hb
    ·simp only [jk,h,List.mem_singleton] at hb
     subst hb
     simp only [List.mem_cons,List.not_mem_nil,or_false] at hb'
     rcases hb' with e | e
     ·rw [e,g1] at hbb;cases hbb
     ·rw [e,g2] at hbb;cases hbb
   ·intro k
    rw [hv2]
    by_cases hk:k=x.1
    ·rw [if_pos hk,if_pos ((hdone k).2 (.inl hk)),hk,hfx]
    ·rw [if_neg hk,hview]
     by_cases hd:∃ y∈fr,y.1=k/\y.2.2∈seen
     ·rw [if_pos hd,if_pos ((hdone k).2 (.inr hd))]
     ·rw [if_neg hd,if_neg fun h=>by rcases (hdone k).1 h with h | h;exact hk h;exact hd h]
  refine jv hH7 fun w8 hw8=>?_
  refine je (t:=some m') hw8 g1 rfl ?_
  refine qp hw8 hk7 (by simp [byteCells,hx1]) ?_
  refine zgg (l:=[.slc,.bool]) (((zbk r' x.1).map (·.1)).getD (none,0,0),(zbk r' x.1).isSome) ?_ ?_
  ·refine (ze1 K27 u57 z22 hw8 g2 g3 hx1).trans ?_
   cases zbk r' x.1 <;> rfl
  refine joinP_of (fun _ w=>Ext [] H7 w.heap/\∀ old,vw r x.1=some old->Sha.sum old≠x.1) ?_ ?_
  ·refine jv hw8 fun w9 hw9=>?_
   cases hg:zbk r' x.1 with
   | none=>
    refine jr rfl ?_
    refine⟨trivial,by rw [hw9];exact .refl _ _,fun old ho=>?_⟩
    rw [<-hvx] at ho
    simp [vw,hg] at ho
   | some v=>
    have hv:vw r x.1=some v.2:=by rw [<-hvx];simp [vw,hg]
    obtain⟨bv',hbv,_⟩:=zvx g3 hg
    have hO:Mine H7 0 qw 1 v.1 (byteCells v.2):=(g6 _ hbv).1
    have hvl:=hlen _ _ hv
    have hle:v.1.2.1<=v.1.2.2:=by
     rcases hO with⟨h,_⟩ | ⟨_,_,_,_,_,_,_,h,_⟩
     ·rw [h];exact Nat.le_refl _
     ·exact h
    have hll:=hO.len
    rw [jl,Nat.mul_one] at hll
    refine zai rfl ?_
    refine qp hw9 hk7 (by simp [byteCells,hx1]) ?_
    refine zl (z9w hw9 hO.cells (by simp only [Option.map_some,Option.getD_some];exact hll.symm) (by simpa using hle) hR7 (by omega)) ?_
    rintro e w10 ⟨rfl,hx10⟩
    refine⟨arr (Sha.sum v.2),rfl,?_⟩
    refine⟨qp rfl (hx10.get hk7 (by simp)) (by simp [byteCells,hx1]) rfl,?_⟩
    refine qm (s:=.bool) _ (zym u27 u5 c5 g27 zae hx1) ?_
    refine zx (fun hs=>?_) (fun hs=>?_)
    ·-- whole already
     refine fin _ r' c' ?_ (hx10.mono (by simp)) (hx10.mono (by simp)) (fun k=>?_) (by omega) hsrc
     ·have:=(show Store H7 (fp++fr.flatMap fun x=>jk x.2.1.1) p q r' c' from ⟨m',g1,g2,g3,g4,g5,g6,g7⟩)
      exact this.ext hx10 (by simp)
     ·by_cases hk:k=x.1
      ·subst hk
       rw [if_pos rfl,hvx,hv]
       simp [zwo,hs]
      ·rw [if_neg hk]
    ·refine⟨hx10,fun old ho=>?_⟩
     rw [hv] at ho
     cases ho
     exact hs
  ·rintro _ w9 ⟨hx79,hold⟩
   generalize hH9:w9.heap=H9 at *
   have g1':=hx79.get g1 (by simp)
   have hol:(((((zbk r' x.1).map fun v:BV=>v.1).getD ((none,0,0):Option Addr×Nat×Nat)).2.1:Nat):Int)=(qa6 r x.1:Int):=by
    unfold qa6
    rw [<-hvx]
    unfold vw
    cases hg:zbk r' x.1 with
    | none=>rfl
    | some v=>
     obtain⟨bv',hbv,_⟩:=zvx g3 hg
     have hO:Mine H7 0 qw 1 v.1 (byteCells v.2):=(g6 _ hbv).1
     have hll:=hO.len
     rw [jl,Nat.mul_one] at hll
     simp [hll]
   have hxlen:x.2.1.1.2.1=x.2.1.2.length:=by
    have:=(hown7 x hx).len
    rw [jl] at this;omega
   have hx4k:=(hown x hx).2
   have htu:=zzt g3 (k:=x.1) (v:=x.2.1) (c':=c')
   have hol2:qa6 r' x.1=qa6 r x.1:=by unfold qa6;rw [hvx]
   rw [hol2] at htu
   have htb:total r'<=total r+4096 * fr.length:=by omega
   refine je (t:=(total r':Int)) hH9 g1' rfl ?_
   refine zb3 ((x.2.1.2.length:Int)-(qa6 r x.1:Int)) (by rw [hol,hxlen]) (by omega) (by omega) ?_
   refine jd ((total (zhm r' x.1 x.2.1 c'):Nat):Int) (by omega) (by omega) (by omega) ?_
   refine zbd hH9 g1' (by simp) fun w10 hw10=>?_
   refine jv hw10 fun w11 hw11=>?_
   have hpm:p≠m':=by intro e;rw [e] at g1;rw [g1] at g2;cases g2
   have g2':=hx79.get g2 (by simp)
   have hk9:=hx79.get hk7 (by simp)
   have hp10:w10.heap[p]?=some (.cells #[Value.int .i64 q,.int .i64 (total (zhm r' x.1 x.2.1 c'):Int),.map (some m')] zgc (0,0)):=by rw [hw10];exact qc g1'
   have hm10:w10.heap[m']?=some (.map (ents arr (vl bv r')) c'):=by rw [hw10];exact zfn g2' (Ne.symm hpm)
   have hk10:w10.heap[H5.size]?=some (.cells (byteCells x.1).toArray zf (0,0)):=by
    rw [hw10];exact zfn hk9 (show H5.size≠p from fun e=>by rw [<-e,hk7] at g1;injection g1 with g1;injection g1 with _ g1;exact absurd g1 (by decide))
   have hx10:Ext [p] H7 w10.heap:=by rw [hw10];exact (hx79.mono (by simp)).trans (Ext.set _ (by simp))
   rw [<-hw10] at hw11
   generalize w10.heap=H10 at *
   refine je (t:=some m') hw11 hp10 rfl ?_
   refine qp hw11 hk10 (by simp [byteCells,hx1]) ?_
   refine zmh _ (zjm K27 u57 hw11 hm10 g3 hx1 x.2.1 rfl) ?_
   have hx11:Ext [p,m'] H7 (H10.setIfInBounds m' (.map (ents arr (vl bv (zhm r' x.1 x.2.1 c'))) (zk7 r' x.1 c'))):=(hx10.mono (by simp)).trans (Ext.set _ (by simp))
   have hpf:p∈fp:=h4
   have hpm':m'∈fp:=by
    rcases List.mem_append.1 g5 with h | h
    ·exact h
    ·obtain⟨z,hz,hb⟩:=List.mem_flatMap.1 h
     rcases hown7 z hz with⟨h,_⟩ | ⟨bb,cc,h,_,hbb,_⟩
     ·simp [jk,h] at hb
     ·simp only [jk,h,List.mem_singleton] at hb
      subst hb
      rw [g2] at hbb;cases hbb
   refine fin _ (zhm r' x.1 x.2.1 c') (zk7 r' x.1 c') ⟨m',zfn hp10 hpm,qc hm10,g3.upd hx1 _,g4,g5,?_,?_⟩ (hx11.mono (by simp [hpf,hpm'])) hx11 (fun k=>?_) (by omega) ?_
   ·intro y hy
    have ex:∀ (s:BV),(∀ b∈jk s.1,b∈fp++fr.flatMap fun x=>jk x.2.1.1)->∀ B,Mine H7 B qw 1 s.1 (byteCells s.2)->Mine (H10.setIfInBounds m' (.map (ents arr (vl bv (zhm r' x.1 x.2.1 c'))) (zk7 r' x.1 c'))) 0 5 1 s.1 (byteCells s.2):=by
     intro s _ B hO
     refine (hO.mono (Nat.zero_le _)).ext hx11 fun b hb hb'=>?_
     rcases hO with⟨h,_⟩ | ⟨bb,cc,h,_,hbb,_⟩
     ·simp [jk,h] at hb
     ·simp only [jk,h,List.mem_singleton] at hb
      subst hb
      simp only [List.mem_cons,List.not_mem_nil,or_false] at hb'
      rcases hb' with e | e
      ·rw [e,g1] at hbb;cases hbb
      ·rw [e,g2] at hbb;cases hbb
    rcases zmf hy with⟨hy1,hy2⟩ | ⟨hy1,hy2⟩
    ·rw [hy2]
     have hsub:∀ b∈jk x.2.1.1,b∈fp++fr.flatMap fun x=>jk x.2.1.1:=fun b hb=>List.mem_append.2 (.inr (List.mem_flatMap.2 ⟨x,hx,hb⟩))
     exact⟨ex _ hsub _ (hown7 x hx),hsub⟩
    ·exact⟨ex _ (g6 y hy2).2 _ (g6 y hy2).1,(g6 y hy2).2⟩
   ·-- apart
    have sep:∀ y∈r',y.1≠x.1->∀ b∈jk y.2.1.1,b∉jk x.2.1.1:=by
     intro y hy hne b hb hb'
     rcases hsrc y hy with h | ⟨z,hz,hz1,hz2⟩
     ·have:=hfp b (h b hb)
      have:=qx (hown7 x hx) b hb'
      omega
     ·rw [<-hz2] at hb
      exact hap z hz x hx (by rw [hz1];exact hne) b hb hb'
    intro y hy y' hy' hne b hb hb'
    rcases zmf hy with⟨a1,a2⟩ | ⟨a1,a2⟩ <;> rcases zmf hy' with⟨b1,b2⟩ | ⟨b1,b2⟩
    ·exact hne (a1.trans b1.symm)
    ·rw [a2] at hb
     exact sep y' b2 b1 b hb' hb
    ·rw [b2] at hb'
     exact sep y a2 a1 b hb hb'
    ·exact g7 y a2 y' b2 hne b hb hb'
   ·rw [qcf]
    by_cases hk:k=x.1
    ·rw [if_pos hk,if_pos hk]
     subst hk
     cases hv:vw r x.1 with
     | none=>rfl
     | some old=>simp only [zwo,if_neg (hold old hv)]
    ·rw [if_neg hk,if_neg hk]
   ·intro y hy
    rcases zmf hy with⟨a1,a2⟩ | ⟨a1,a2⟩
    ·exact .inr ⟨x,hx,a1.symm,a2.symm⟩
    ·exact hsrc y a2
theorem qj6 (a:Option Addr) (l c:Nat) (w:World):(Instr.buildSlice jq 1 #[(0,.slice a l c)]).run P w=.ok (.slice (some ⟨w.heap.size,0,none⟩) 1 1) { w with heap:=w.heap.push (.cells #[.slice a l c] zi) }:=by kernel_rfl
theorem z9m (L:List UInt8):fresh [L]=[(Sha.sum L,L)]:=rfl
theorem qcs (L:List UInt8):long [L] ↔ 4096 < L.length:=by simp [long]
def nought:List UInt8:=List.replicate 32 0
theorem zbf:nought.length=32:=by simp [nought]
def Small (r:SM):Prop:=∀ k L,vw r k=some L->L.length < 1099511627776
theorem qi0 {w:World}{H:Heap}{fp:List Nat}{p:Nat}{q:Int}{r:SM}{c:Nat}{a:Option Addr}{l lc:Nat}{L:List UInt8}(hw:w.heap=H) (hS:Store H fp p q r c) (hfp:∀ b∈fp,b < H.size) (hR:Rounds H) (h0:0∉fp)
  (hL:Cells H a (byteCells L)) (hl:l=L.length) (hc:l<=lc) (ha:L≠[]->∀ y,a=some y->y.block∉fp)
  (hb:total r+4096 < 1125899906842624) (hq:0<=q) (hq2:q<=9223372036854775807) (hlen:Small r) :
  zy P zhp #[.pointer (some ⟨p,0,none⟩),.slice a l lc] w fun e w'=>∃ code r' c' fp',e=.returned (.tuple #[arr (if code=0 then Sha.sum L else nought),.int .i64 code])/\Store w'.heap fp' p q r' c'/\Ext fp H w'.heap/\(∀ b∈fp',b < w'.heap.size)/\(∀ b∈fp',b∈fp\/H.size<=b)/\zl0 q r [L] code r' /\
   total r'<=total r+4096:=by
 refine zqz ?_
 unfold zlw
 refine jm hw fun w1 hw1=>?_
 have hx1:Ext [] H (H.push (.cells (zc P zf) zf)):=.push _
 have hz1:(H.push (.cells (zc P zf) zf (0,0)))[H.size]?=some (.cells (zc P zf) zf (0,0)):=zk
 generalize hH1:H.push (.cells (zc P zf) zf (0,0))=H1 at *
 refine zah (s:=.slc) (some ⟨H1.size,0,none⟩,1,1) _ (by rw [qj6,hw1];rfl) ?_
 have hx2:Ext [] H1 (H1.push (.cells #[.slice a l lc] zi (0,0))):=.push _
 have hl2:(H1.push (.cells #[.slice a l lc] zi (0,0)))[H1.size]?=some (.cells #[.slice a l lc] zi (0,0)):=zk
 generalize hH2:H1.push (.cells #[.slice a l lc] zi (0,0))=H2 at *
 have hx02:=hx1.trans hx2
 have hs1:H1.size=H.size+1:=by rw [<-hH1];simp
 have hs2:H2.size=H.size+2:=by rw [<-hH2];simp [hs1]
 refine zl (z4p (w:={ w1 with heap:=H2 }) (H:=H2) (Ls:=[L]) rfl (hS.ext hx02 (by simp)) (fun b hb=>by have:=hfp b hb;omega) (hR.ext hx02 (by simp)) h0 ⟨by simp,fun i hi=>?_⟩ (by simpa using hb) hq hq2 hlen) ?_
 ·obtain rfl:i=0:=by simp at hi;omega
  exact⟨H1.size,0,_,_,_,(a,l,lc),rfl,hl2,rfl,hL.ext hx02 (by simp),hl,hc⟩
 rintro e w3 ⟨code,r',c',fp',rfl,hS3,hx3,hfp3,hsub,hres,htot⟩
 refine⟨code,rfl,?_⟩
 have hx03:Ext fp H w3.heap:=(hx02.mono (by simp)).trans hx3
 have hz3:=(hx3.get (hx2.get hz1 (by simp)) (fun h=>absurd (hfp _ h) (by omega)))
 generalize hH3:w3.heap=H3 at *
 have hsub':∀ b∈fp',b∈fp\/H.size<=b:=fun b hb=>by rcases hsub b hb with h | h;exact .inl h;exact .inr (by omega)
 have hn3:H.size∉fp':=fun h=>by rcases hsub _ h with h | h;exact absurd (hfp _ h) (by omega);omega
 refine zan (fun hne=>?_) (fun heq=>?_)
 ·refine qm (s:=.any) (arr nought) (b27 _) ?_
  refine zay (zjj.trans (by rw [xq,zbf])) (by rw [xq,zbf];omega) jo hH3 hz3 (by rw [zsj,xq,zbf];simp) fun w5 hw5=>?_
  rw [show setCells (zc P zf) 0 (Value.cells (arr nought)).toList=(byteCells nought).toArray from by rw [zak (by rw [zsj,Array.length_toList,xq,zbf];simp)];simp [Value.cells,arr]] at hw5
  refine qp hw5 (qc hz3) (by simp [byteCells,nought]) ?_
  have hx5:Ext [H.size] H3 w5.heap:=by rw [hw5];exact Ext.set _ (by simp)
  refine⟨code,r',c',fp',by rw [if_neg hne];rfl,hS3.ext hx5 (fun b hb=>?_),hx03.own hx5 (by intro b hb hlt;simp at hb;omega),fun b hb=>Nat.lt_of_lt_of_le (hfp3 b hb) hx5.1,hsub',hres,by simpa using htot⟩
  simp only [List.mem_singleton]
  rintro rfl
  exact hn3 hb
 ·subst heq
  have hlens:L.length<=4096:=by
   by_cases h:4096 < L.length
   ·exact absurd (hres.1 ((qcs L).2 h)).1 (by decide)
   ·omega
  refine zl (z9w hH3 (hL.ext hx03 fun y hy hv=>ha (by rintro rfl;exact hv rfl) y hy) hl hc (hR.ext hx03 h0) (by omega)) ?_
  rintro e w4 ⟨rfl,hx4⟩
  refine⟨arr (Sha.sum L),rfl,?_⟩
  have hz4:=hx4.get hz3 (by simp)
  refine zay (zjj.trans (by rw [xq,zae])) (by rw [xq,zae];omega) jo rfl hz4 (by rw [zsj,xq,zae];simp) fun w5 hw5=>?_
  rw [show setCells (zc P zf) 0 (Value.cells (arr (Sha.sum L))).toList=(byteCells (Sha.sum L)).toArray from by rw [zak (by rw [zsj,Array.length_toList,xq,zae];simp)];simp [Value.cells,arr]] at hw5
  refine qp hw5 (qc hz4) (by simp [byteCells,zae]) ?_
  have hx5:Ext [H.size] H3 w5.heap:=by rw [hw5];exact (hx4.mono (by simp)).trans (Ext.set _ (by simp))
  refine⟨0,r',c',fp',by rw [if_pos rfl];rfl,hS3.ext hx5 (fun b hb=>?_),hx03.own hx5 (by intro b hb hlt;simp at hb;omega),fun b hb=>Nat.lt_of_lt_of_le (hfp3 b hb) hx5.1,hsub',hres,by simpa using htot⟩
  simp only [List.mem_singleton]
  rintro rfl
  exact hn3 hb
end Go.Proofs.YtbmegmbnlajbbaaGreatDoor.Bl
namespace Go.Fw.Sha
open Go.Fw
def M32:Nat:=4294967296
def rN (x n:Nat):Nat:=x >>> n ||| (x <<< (32-n)) % M32
def force (n:Nat) (k:Nat->List Nat):List Nat:=Nat.rec (k 0) (fun m _=>k (Nat.succ m)) n
theorem force_eq (n:Nat) (k:Nat->List Nat):force n k=k n:=by cases n <;> rfl
def qel (ws:List Nat):Nat:=
 let x:=ws.getD 1 0
 let y:=ws.getD 14 0
 ((((rN x 17 ^^^ rN x 19 ^^^ x >>> 10)+ws.getD 6 0) % M32+(rN y 7 ^^^ rN y 18 ^^^ y >>> 3)) % M32+ws.getD 15 0) % M32
def z0s:Nat->List Nat->List Nat
 | 0,ws=>ws
 | n+1,ws=>force (qel ws) fun v=>z0s n (v :: ws)
def qjt (x:Nat):Nat:=4294967295-x
def qjm (e f g h k w:Nat):Nat:=((((h+(rN e 6 ^^^ rN e 11 ^^^ rN e 25)) % M32+(e &&& f ^^^ qjt e &&& g)) % M32+k) % M32+w) % M32
def qjn (a b c:Nat):Nat:=((rN a 2 ^^^ rN a 13 ^^^ rN a 22)+(a &&& b ^^^ a &&& c ^^^ b &&& c)) % M32
def zyh:List Nat->List Nat->(a b c d e f g h:Nat)->List Nat
 | k :: ks,w :: ws,a,b,c,d,e,f,g,h=>
  force (qjm e f g h k w) fun t1=>force ((t1+qjn a b c) % M32) fun a'=>force ((d+t1) % M32) fun e'=>zyh ks ws a' a b c e' e f g
 | _,_,a,b,c,d,e,f,g,h=>[a,b,c,d,e,f,g,h]
def nums (f:Nat->BitVec 32) (n:Nat):List Nat:=(List.range n).map fun i=>(f i).toNat
def zl3 (f:Nat->BitVec 32):Nat->List Nat
 | 0=>[]
 | n+1=>(f n).toNat :: zl3 f n
theorem zm5 (f:Nat->BitVec 32):∀ (n i:Nat),i < n->(zl3 f n).getD i 0=(f (n-1-i)).toNat
 | 0,_,h=>by omega
 | n+1,0,_=>by simp [zl3]
 | n+1,i+1,h=>by
  have:=zm5 f n i (by omega)
  simp only [zl3,List.getD_cons_succ,this]
  congr 2
  omega
theorem zy8 (x:BitVec 32) (n:Nat):(rotr x n).toNat=rN x.toNat n:=by
 simp [rotr,rN,M32]
theorem qcp (m:Nat->BitVec 32){t:Nat}(h:16<=t):qel (zl3 (W m) t)=(W m t).toNat:=by
 rw [W_ge h]
 simp only [qel,zm5 _ _ _ (show 1 < t by omega),zm5 _ _ _ (show 14 < t by omega),zm5 _ _ _ (show 6 < t by omega),zm5 _ _ _ (show 15 < t by omega),BitVec.toNat_add,BitVec.toNat_xor,zy8,BitVec.toNat_ushiftRight]
 rw [show t-1-1=t-2 from by omega,show t-1-14=t-15 from by omega,show t-1-6=t-7 from by omega,show t-1-15=t-16 from by omega]
 rfl
theorem z4h (m:Nat->BitVec 32):∀ (n t:Nat),16<=t->z0s n (zl3 (W m) t)=zl3 (W m) (t+n)
 | 0,t,_=>rfl
 | n+1,t,h=>by
  rw [z0s,force_eq,qcp m h]
  show z0s n (zl3 (W m) (t+1))=_
  rw [z4h m n (t+1) (by omega),show t+1+n=t+(n+1) from by omega]
theorem qhb (s:Nat->BitVec 32) (k w:BitVec 32):(one s k w).toNat=qjm (s 4).toNat (s 5).toNat (s 6).toNat (s 7).toNat k.toNat w.toNat:=by
 simp only [one,qjm,BitVec.toNat_add,BitVec.toNat_xor,zy8,BitVec.toNat_and,BitVec.toNat_not,qjt]
 rfl
theorem qhl (s:Nat->BitVec 32):(two s).toNat=qjn (s 0).toNat (s 1).toNat (s 2).toNat:=by
 simp only [two,qjn,BitVec.toNat_add,BitVec.toNat_xor,zy8,BitVec.toNat_and]
 rfl
def zpc (f:Nat->BitVec 32) (t:Nat):Nat->List Nat
 | 0=>[]
 | n+1=>(f t).toNat :: zpc f (t+1) n
theorem z0c (w s:Nat->BitVec 32):∀ (n t:Nat),zyh (zpc K t n) (zpc w t n) (rnd w s t 0).toNat (rnd w s t 1).toNat (rnd w s t 2).toNat (rnd w s t 3).toNat (rnd w s t 4).toNat (rnd w s t 5).toNat (rnd w s t 6).toNat (rnd w s t 7).toNat =
  nums (rnd w s (t+n)) 8
 | 0,t=>rfl
 | n+1,t=>by
  simp only [zpc,zyh,force_eq]
  rw [<-qhb,<-qhl]
  have h:=z0c w s n (t+1)
  rw [show t+1+n=t+(n+1) from by omega] at h
  rw [<-h]
  congr 1
theorem z0i (f:Nat->BitVec 32):∀ (n:Nat) (l:List Nat),(zl3 f n).reverse++l=zpc f 0 n++l:=by
 have key:∀ (n t:Nat),zpc f t (n+1)=zpc f t n++[(f (t+n)).toNat]:=by
  intro n
  induction n with
  | zero=>intro t;rfl
  | succ n ih=>
   intro t
   rw [zpc,ih (t+1),show t+1+n=t+(n+1) from by omega]
   rfl
 intro n
 induction n with
 | zero=>intro l;rfl
 | succ n ih=>
  intro l
  rw [zl3,List.reverse_cons,List.append_assoc,ih,key,Nat.zero_add]
  simp
def qef (ms:List Nat) (s:List Nat):List Nat:=
 let ws:=(z0s 48 ms.reverse).reverse
 (zyh kc ws (s.getD 0 0) (s.getD 1 0) (s.getD 2 0) (s.getD 3 0) (s.getD 4 0) (s.getD 5 0) (s.getD 6 0) (s.getD 7 0)).zipWith (fun x y=>(y+x) % M32) s
theorem qiu:zpc K 0 64=kc:=by kernel_rfl
theorem qe4 (s m:Nat->BitVec 32):qef (zpc m 0 16) (nums s 8)=nums (comp s m) 8:=by
 have h1:(zpc m 0 16).reverse=zl3 (W m) 16:=by
  have h2:zl3 (W m) 16=zl3 m 16:=by
   have:∀ n,n<=16->zl3 (W m) n=zl3 m n:=by
    intro n
    induction n with
    | zero=>intro _;rfl
    | succ n ih=>
     intro hn
     rw [zl3,zl3,ih (by omega),W_lt (by omega)]
   exact this 16 (Nat.le_refl _)
  rw [h2]
  have:=z0i m 16 []
  simp only [List.append_nil] at this
  rw [<-this,List.reverse_reverse]
 have h3:((zl3 (W m) 64).reverse)=zpc (W m) 0 64:=by
  have:=z0i (W m) 64 []
  simpa using this
 unfold qef
 simp only [h1]
 rw [z4h m 48 16 (Nat.le_refl _),h3,<-qiu]
 have h4:=z0c (W m) s 64 0
 have h5:∀ i,i < 8->(nums s 8).getD i 0=(rnd (W m) s 0 i).toNat:=by
  intro i hi
  simp [nums,List.getD_eq_getElem?_getD,hi,rnd]
 rw [h5 0 (by omega),h5 1 (by omega),h5 2 (by omega),h5 3 (by omega),h5 4 (by omega),h5 5 (by omega),h5 6 (by omega),h5 7 (by omega),h4]
 simp only [nums,Nat.zero_add]
 rw [List.zipWith_map,List.zipWith_self]
 apply List.map_congr_left
 intro i _
 simp only [comp,BitVec.toNat_add]
 rfl
def qd9 (l:List UInt8) (n t:Nat):Nat:=((nth l (64 * n+4 * t)).toNat <<< 24) % M32 ||| ((nth l (64 * n+(4 * t+1))).toNat <<< 16) % M32 ||| ((nth l (64 * n+(4 * t+2))).toNat <<< 8) % M32 ||| (nth l (64 * n+(4 * t+3))).toNat
def z4b (l:List UInt8) (n:Nat):Nat->Nat->List Nat
 | _,0=>[]
 | t,k+1=>qd9 l n t :: z4b l n (t+1) k
def zy3 (l:List UInt8):Nat->List Nat
 | 0=>ic
 | n+1=>qef (z4b l n 0 16) (zy3 l n)
theorem qfk (b:UInt8):(b32 b).toNat=b.toNat:=by
 have:=b.toNat_lt
 simp [b32]
theorem qb9 (l:List UInt8) (n t:Nat):qd9 l n t=(word (fun j=>nth l (64 * n+j)) t).toNat:=by
 simp only [qd9,word,BitVec.toNat_or,BitVec.toNat_shiftLeft,qfk]
 rfl
theorem z0g (l:List UInt8) (n:Nat):∀ (k t:Nat),z4b l n t k=zpc (word (fun j=>nth l (64 * n+j))) t k
 | 0,_=>rfl
 | k+1,t=>by rw [z4b,zpc,qb9,z0g l n k (t+1)]
theorem qic:nums init 8=ic:=by kernel_rfl
theorem zww (l:List UInt8):∀ n,zy3 l n=nums (blocks l n) 8
 | 0=>qic.symm
 | n+1=>by rw [zy3,blocks,<-qe4,zww l n,z0g]
def qj2 (l:List UInt8):List UInt8:=
 let s:=zy3 (pad l) ((pad l).length / 64)
 (List.range 32).map fun i=>UInt8.ofNat (s.getD (i / 4) 0 >>> (24-8 * (i % 4)))
theorem sum_eq (l:List UInt8):sum l=qj2 l:=by
 unfold sum qj2
 apply List.map_congr_left
 intro i hi
 have hi:i < 32:=by simpa using hi
 simp only [zww,out]
 have:(nums (blocks (pad l) ((pad l).length / 64)) 8).getD (i / 4) 0=(blocks (pad l) ((pad l).length / 64) (i / 4)).toNat:=by
  have:i / 4 < 8:=by omega
  simp [nums,List.getD_eq_getElem?_getD,this]
 rw [this]
 simp [lo8]
end Go.Fw.Sha
namespace Go.Proofs.YtbmegmbnlajbbaaGreatDoor.Bl
open Go Go.Fw Go.Proofs
theorem z7h {r:SM}(hk:(r.map (·.1)).Nodup){k:List UInt8}{v:BV}(hg:zbk r k=some v):(zi9 r k).length+1=r.length:=by
 induction r with
 | nil=>simp [zbk] at hg
 | cons x r ih=>
  simp only [List.map_cons,List.nodup_cons] at hk
  by_cases e:x.1=k
  ·rw [zm2 e,zpu fun y hy h=>hk.1 (by rw [e,<-h];exact List.mem_map.2 ⟨y,hy,rfl⟩)]
   simp
  ·rw [zb4 e] at hg
   have:=ih hk.2 hg
   rw [zml e]
   simp only [List.length_cons]
   omega
theorem z6d {r:SM}(hk:(r.map (·.1)).Nodup){k:List UInt8}{v:BV}(hg:zbk r k=some v):total (zi9 r k)+v.2.length=total r:=by
 induction r with
 | nil=>simp [zbk] at hg
 | cons x r ih=>
  simp only [List.map_cons,List.nodup_cons] at hk
  by_cases e:x.1=k
  ·rw [zb7 e,Option.some.injEq] at hg
   rw [zm2 e,zpu fun y hy h=>hk.1 (by rw [e,<-h];exact List.mem_map.2 ⟨y,hy,rfl⟩),<-hg]
   simp [total,Nat.add_comm]
  ·rw [zb4 e] at hg
   have:=ih hk.2 hg
   rw [zml e]
   simp only [total,List.map_cons,List.sum_cons] at this |-
   omega
theorem zik:∀ {r s:SM},(r.map (·.1)).Nodup->(s.map (·.1)).Nodup->(∀ k,vw r k=vw s k)->total r=total s/\r.length=s.length
 | [],s,_,_,h=>by
  cases s with
  | nil=>exact⟨rfl,rfl⟩
  | cons y s=>
   have:=h y.1
   unfold vw at this
   rw [zb7 rfl] at this
   simp [zbk] at this
 | x :: r,s,hr,hs,h=>by
  simp only [List.map_cons,List.nodup_cons] at hr
  have h1:=h x.1
  unfold vw at h1
  rw [zb7 rfl] at h1
  cases hg:zbk s x.1 with
  | none=>rw [hg] at h1;simp at h1
  | some v=>
   rw [hg] at h1
   simp only [Option.map_some,Option.some.injEq] at h1
   have hd:((zi9 s x.1).map (·.1)).Nodup:=hs.sublist (List.Sublist.map _ List.filter_sublist)
   obtain⟨i1,i2⟩:=zik (r:=r) (s:=zi9 s x.1) hr.2 hd fun k=>by
    rw [zs9]
    by_cases e:k=x.1
    ·rw [if_pos e]
     unfold vw
     rw [zhn];rfl
     intro y hy e2
     exact hr.1 (by rw [<-e,<-e2];exact List.mem_map.2 ⟨y,hy,rfl⟩)
    ·rw [if_neg e,<-h k]
     unfold vw
     rw [zb4 (Ne.symm e)]
   have t1:=z6d hs hg
   have t2:=z7h hs hg
   simp only [total,List.map_cons,List.sum_cons,List.length_cons] at i1 t1 |-
   rw [h1]
   omega
theorem qjo {w:World}{H:Heap}{k:List UInt8}(hw:w.heap=H) (hk:k.length=32){K:Nat->World->Prop}
  (hK:∀ w',w'.heap[H.size]?=some (.cells (byteCells k).toArray zf (0,0))->Ext [] H w'.heap->H.size < w'.heap.size->K H.size w') :
  zbm (zc P zf) zf w fun b w1=>zb8 P (storeVar zf (⟨b,0,none⟩:Addr) (arr k)) w1 fun w2=>K b w2:=by
 refine jm hw fun w1 hw1=>?_
 refine zay (zjj.trans (by rw [xq,hk])) (by rw [xq,hk];omega) jo hw1 zk (by rw [zsj,xq,hk];simp) fun w5 hw5=>?_
 rw [show setCells (zc P zf) 0 (Value.cells (arr k)).toList=(byteCells k).toArray from by rw [zak (by rw [zsj,Array.length_toList,xq,hk];simp)];simp [Value.cells,arr]] at hw5
 exact hK w5 (by rw [hw5];exact qc zk) (by rw [hw5];exact (Ext.push _).set_own (.inl (Nat.le_refl _))) (by rw [hw5];simp)
end Go.Proofs.YtbmegmbnlajbbaaGreatDoor.Bl
namespace Go.Proofs
open Go.Shelf
def Tryz.sortD_ren:Go.Shelf.Ren:=⟨fun | 6=>149 | 15=>161 | 14=>183 | 28=>198 | 29=>199 | 20=>208 | 21=>209 | 22=>210 | 23=>211 | 24=>212 | 25=>213 | 26=>214 | 27=>215 | 46=>225 | 47=>218 | 48=>219 | 49=>226 | 50=>227 | 57=>230 | n=>n,fun | 22=>59 | 24=>30 | 25=>177 | 3=>3 | 39=>64 | 0=>0 | 53=>163 | 55=>162 | 4=>4 | 46=>279 | 45=>278 | 50=>149 | 5=>5 | 9=>9 | 66=>298 | 70=>301 | 76=>307 | 77=>308 | n=>n,fun | n=>n⟩
theorem Tryz.sortD:Go.Proofs.SlLaysF0.n6 Tryz.prog Tryz.sortD_ren:={
 mixed:=by kernel_rfl
 f6:=⟨Tryz.f149.name,by decide,Tryz.func149.trans (congrArg some (by kernel_rfl))⟩
 f14:=⟨Tryz.f183.name,by decide,Tryz.func183.trans (congrArg some (by kernel_rfl))⟩
 f15:=Tryz.func161.trans (congrArg some (by kernel_rfl))
 f20:=⟨Tryz.f208.name,by decide,Tryz.func208.trans (congrArg some (by kernel_rfl))⟩
 f21:=⟨Tryz.f209.name,by decide,Tryz.func209.trans (congrArg some (by kernel_rfl))⟩
 f22:=⟨Tryz.f210.name,by decide,Tryz.func210.trans (congrArg some (by kernel_rfl))⟩
 f23:=⟨Tryz.f211.name,by decide,Tryz.func211.trans (congrArg some (by kernel_rfl))⟩
 f24:=⟨Tryz.f212.name,by decide,Tryz.func212.trans (congrArg some (by kernel_rfl))⟩
 f25:=⟨Tryz.f213.name,by decide,Tryz.func213.trans (congrArg some (by kernel_rfl))⟩
 f26:=⟨Tryz.f214.name,by decide,Tryz.func214.trans (congrArg some (by kernel_rfl))⟩
 f27:=⟨Tryz.f215.name,by decide,Tryz.func215.trans (congrArg some (by kernel_rfl))⟩
 f28:=Tryz.func198.trans (congrArg some (by kernel_rfl))
 f29:=Tryz.func199.trans (congrArg some (by kernel_rfl))
 f46:=⟨Tryz.f225.name,by decide,Tryz.func225.trans (congrArg some (by kernel_rfl))⟩
 f47:=Tryz.func218.trans (congrArg some (by kernel_rfl))
 f48:=Tryz.func219.trans (congrArg some (by kernel_rfl))
 f49:=⟨Tryz.f226.name,by decide,Tryz.func226.trans (congrArg some (by kernel_rfl))⟩
 f50:=⟨Tryz.f227.name,by decide,Tryz.func227.trans (congrArg some (by kernel_rfl))⟩
 f57:=⟨Tryz.f230.name,by decide,Tryz.func230.trans (congrArg some (by kernel_rfl))⟩
 t0:=Tryz.underlying0
 a0:=Tryz.isAgg0
 z0:=Tryz.sizeOf0
 v0:=Tryz.zeroValue0
 t3:=Tryz.underlying3
 a3:=Tryz.isAgg3
 z3:=Tryz.sizeOf3
 v3:=Tryz.zeroValue3
 t4:=Tryz.underlying4
 a4:=Tryz.isAgg4
 z4:=Tryz.sizeOf4
 v4:=Tryz.zeroValue4
 t5:=Tryz.underlying5
 a5:=Tryz.isAgg5
 z5:=Tryz.sizeOf5
 v5:=Tryz.zeroValue5
 t9:=Tryz.underlying9
 a9:=Tryz.isAgg9
 z9:=Tryz.sizeOf9
 v9:=Tryz.zeroValue9
 t22:=Tryz.underlying59
 a22:=Tryz.isAgg59
 z22:=Tryz.sizeOf59
 v22:=Tryz.zeroValue59
 t25:=Tryz.underlying177
 a25:=Tryz.isAgg177
 z25:=Tryz.sizeOf177
 v25:=Tryz.zeroValue177
 t39:=Tryz.underlying64
 a39:=Tryz.isAgg64
 z39:=Tryz.sizeOf64
 v39:=Tryz.zeroValue64
 t45:=Tryz.underlying278
 a45:=Tryz.isAgg278
 z45:=Tryz.sizeOf278
 v45:=Tryz.zeroValue278
 t46:=Tryz.underlying279
 a46:=Tryz.isAgg279
 z46:=Tryz.sizeOf279
 v46:=Tryz.zeroValue279
 t50:=Tryz.underlying149
 a50:=Tryz.isAgg149
 z50:=Tryz.sizeOf149
 v50:=Tryz.zeroValue149
 t53:=Tryz.underlying163
 a53:=Tryz.isAgg163
 z53:=Tryz.sizeOf163
 v53:=Tryz.zeroValue163
 t55:=Tryz.underlying162
 a55:=Tryz.isAgg162
 z55:=Tryz.sizeOf162
 v55:=Tryz.zeroValue162
 t66:=Tryz.underlying298
 a66:=Tryz.isAgg298
 z66:=Tryz.sizeOf298
 v66:=Tryz.zeroValue298
 t70:=Tryz.underlying301
 a70:=Tryz.isAgg301
 z70:=Tryz.sizeOf301
 v70:=Tryz.zeroValue301
 t76:=Tryz.underlying307
 a76:=Tryz.isAgg307
 z76:=Tryz.sizeOf307
 v76:=Tryz.zeroValue307
 t77:=Tryz.underlying308
 a77:=Tryz.isAgg308
 z77:=Tryz.sizeOf308
 v77:=Tryz.zeroValue308 }
def Tryz.sortE_ren:Go.Shelf.Ren:=⟨fun | 6=>109 | 15=>161 | 14=>160 | 28=>198 | 29=>199 | 20=>190 | 21=>191 | 22=>192 | 23=>193 | 24=>194 | 25=>195 | 26=>196 | 27=>197 | 46=>217 | 47=>218 | 48=>219 | 49=>220 | 50=>221 | 57=>229 | n=>n,fun | 22=>105 | 24=>117 | 25=>191 | 3=>3 | 39=>64 | 0=>0 | 53=>163 | 55=>162 | 4=>4 | 46=>279 | 45=>278 | 50=>149 | 5=>5 | 9=>9 | 66=>298 | 70=>301 | 76=>307 | 77=>308 | n=>n,fun | n=>n⟩
theorem Tryz.sortE:Go.Proofs.SlLaysF0.n6 Tryz.prog Tryz.sortE_ren:={
 mixed:=by kernel_rfl
 f6:=⟨Tryz.f109.name,by decide,Tryz.func109.trans (congrArg some (by kernel_rfl))⟩
 f14:=⟨Tryz.f160.name,by decide,Tryz.func160.trans (congrArg some (by kernel_rfl))⟩
 f15:=Tryz.func161.trans (congrArg some (by kernel_rfl))
 f20:=⟨Tryz.f190.name,by decide,Tryz.func190.trans (congrArg some (by kernel_rfl))⟩
 f21:=⟨Tryz.f191.name,by decide,Tryz.func191.trans (congrArg some (by kernel_rfl))⟩
 f22:=⟨Tryz.f192.name,by decide,Tryz.func192.trans (congrArg some (by kernel_rfl))⟩
 f23:=⟨Tryz.f193.name,by decide,Tryz.func193.trans (congrArg some (by kernel_rfl))⟩
 f24:=⟨Tryz.f194.name,by decide,Tryz.func194.trans (congrArg some (by kernel_rfl))⟩
 f25:=⟨Tryz.f195.name,by decide,Tryz.func195.trans (congrArg some (by kernel_rfl))⟩
 f26:=⟨Tryz.f196.name,by decide,Tryz.func196.trans (congrArg some (by kernel_rfl))⟩
 f27:=⟨Tryz.f197.name,by decide,Tryz.func197.trans (congrArg some (by kernel_rfl))⟩
 f28:=Tryz.func198.trans (congrArg some (by kernel_rfl))
 f29:=Tryz.func199.trans (congrArg some (by kernel_rfl))
 f46:=⟨Tryz.f217.name,by decide,Tryz.func217.trans (congrArg some (by kernel_rfl))⟩
 f47:=Tryz.func218.trans (congrArg some (by kernel_rfl))
 f48:=Tryz.func219.trans (congrArg some (by kernel_rfl))
 f49:=⟨Tryz.f220.name,by decide,Tryz.func220.trans (congrArg some (by kernel_rfl))⟩
 f50:=⟨Tryz.f221.name,by decide,Tryz.func221.trans (congrArg some (by kernel_rfl))⟩
 f57:=⟨Tryz.f229.name,by decide,Tryz.func229.trans (congrArg some (by kernel_rfl))⟩
 t0:=Tryz.underlying0
 a0:=Tryz.isAgg0
 z0:=Tryz.sizeOf0
 v0:=Tryz.zeroValue0
 t3:=Tryz.underlying3
 a3:=Tryz.isAgg3
 z3:=Tryz.sizeOf3
 v3:=Tryz.zeroValue3
 t4:=Tryz.underlying4
 a4:=Tryz.isAgg4
 z4:=Tryz.sizeOf4
 v4:=Tryz.zeroValue4
 t5:=Tryz.underlying5
 a5:=Tryz.isAgg5
 z5:=Tryz.sizeOf5
 v5:=Tryz.zeroValue5
 t9:=Tryz.underlying9
 a9:=Tryz.isAgg9
 z9:=Tryz.sizeOf9
 v9:=Tryz.zeroValue9
 t22:=Tryz.underlying105
 a22:=Tryz.isAgg105
 z22:=Tryz.sizeOf105
 v22:=Tryz.zeroValue105
 t25:=Tryz.underlying191
 a25:=Tryz.isAgg191
 z25:=Tryz.sizeOf191
 v25:=Tryz.zeroValue191
 t39:=Tryz.underlying64
 a39:=Tryz.isAgg64
 z39:=Tryz.sizeOf64
 v39:=Tryz.zeroValue64
 t45:=Tryz.underlying278
 a45:=Tryz.isAgg278
 z45:=Tryz.sizeOf278
 v45:=Tryz.zeroValue278
 t46:=Tryz.underlying279
 a46:=Tryz.isAgg279
 z46:=Tryz.sizeOf279
 v46:=Tryz.zeroValue279
 t50:=Tryz.underlying149
 a50:=Tryz.isAgg149
 z50:=Tryz.sizeOf149
 v50:=Tryz.zeroValue149
 t53:=Tryz.underlying163
 a53:=Tryz.isAgg163
 z53:=Tryz.sizeOf163
 v53:=Tryz.zeroValue163
 t55:=Tryz.underlying162
 a55:=Tryz.isAgg162
 z55:=Tryz.sizeOf162
 v55:=Tryz.zeroValue162
 t66:=Tryz.underlying298
 a66:=Tryz.isAgg298
 z66:=Tryz.sizeOf298
 v66:=Tryz.zeroValue298
 t70:=Tryz.underlying301
 a70:=Tryz.isAgg301
 z70:=Tryz.sizeOf301
 v70:=Tryz.zeroValue301
 t76:=Tryz.underlying307
 a76:=Tryz.isAgg307
 z76:=Tryz.sizeOf307
 v76:=Tryz.zeroValue307
 t77:=Tryz.underlying308
 a77:=Tryz.isAgg308
 z77:=Tryz.sizeOf308
 v77:=Tryz.zeroValue308 }
end Go.Proofs
namespace Go.Proofs.YtbmegmbnlajbbaaGreatDoor.Bl
open Go Go.Fw Go.Proofs
theorem z6n:P.underlying zo=some (.slice zf):=by kernel_rfl
theorem E27:Elem P zf 32 32:=zmm (z:=arr (List.replicate 32 0)) (by kernel_rfl) rfl
theorem sz5:(P.info? qw).map (·.size)=some 1:=by kernel_rfl
theorem z6f {w:World}{H:Heap}{a a':Option Addr}{l c l' c':Nat}{L L':List UInt8}(hw:w.heap=H) (hL:Cells H a (byteCells L)) (hl:l=L.length) (hL':Cells H a' (byteCells L')) (hl':l'=L'.length) :
  zy P ziy #[.slice a l c,.slice a' l' c'] w fun e w'=>e=.returned (.int .i64 (Lib.compareBytes L L'))/\w'=w:=by
 refine zsy ?_
 unfold zl5
 refine zux (l:=[.int .i64]) (t:=Lib.compareBytes L L') ?_ ⟨rfl,rfl⟩
 rw [zja (e:=Extern.BytealgCompare.compare) (by kernel_rfl),zv7 hw hL hl hL' hl']
 rfl
theorem zjc {k:List UInt8}:zcl (Value.cells (arr k)).toList:=jo
theorem zu1 {w:World}{k k':List UInt8}(hk:k.length=32) (hk':k'.length=32) :
  zy P zed #[arr k,arr k'] w fun e w'=>e=.returned (.int .i64 (Lib.compareBytes k k'))/\Ext [] w.heap w'.heap:=by
 refine zwm ?_
 unfold zpo
 refine jm rfl fun w1 hw1=>?_
 refine jm hw1 fun w2 hw2=>?_
 refine jv hw2 fun w3 hw3=>?_
 refine qm (s:=.slc) (some ⟨w.heap.size,0,none⟩,32,32) (zdp u27 sz5 .no .no (Nat.zero_le _) (Nat.le_refl _)) ?_
 refine qm (s:=.slc) (some ⟨(w.heap.push (.cells (Value.cells (arr k)) zf)).size,0,none⟩,32,32) (zdp u27 sz5 .no .no (Nat.zero_le _) (Nat.le_refl _)) ?_
 refine zl (z6f (L:=k) (L':=k') hw3 ?_ hk.symm ?_ hk'.symm) ?_
 ·exact .inr ⟨_,0,_,_,_,rfl,zc6 zk,by simp [arr,Value.cells,byteCells],by rw [Nat.zero_add];simp [arr,Value.cells,byteCells,List.take_of_length_le]⟩
 ·exact .inr ⟨_,0,_,_,_,rfl,zk,by simp [arr,Value.cells,byteCells],by rw [Nat.zero_add];simp [arr,Value.cells,byteCells,List.take_of_length_le]⟩
 rintro e w4 ⟨rfl,rfl⟩
 exact⟨_,rfl,rfl,by rw [hw3];exact (Ext.push _).trans (Ext.push _)⟩
theorem qdd {w:World}{H:Heap}{b m:Nat}{r:SM}{c:Nat}(hw:w.heap=H) (hb:H[b]?=some (.cells #[.map (some m)] jh (0,0))) (hm:H[m]?=some (.map (ents arr (vl bv r)) c)) (hr:MOk (fun L=>L.length=32) r c) :
  z7s P (.func (.func zaf) #[] #[.pointer (some ⟨b,0,none⟩)]) (fun xs=>xs.Perm (r.map (·.1))) (fun pre x=>x∈r.map (·.1)/\pre.length < r.length) (fun x=>#[arr x]) [b,m] w:=by
 refine⟨_,_,rfl,fun l I J w1 M hx1 hM hst h0 hY=>?_⟩
 have hb1:=(hw▸hx1).get hb (by simp)
 have hm1:=(hw▸hx1).get hm (by simp)
 refine zdd ?_
 unfold zbt
 simp only [qg]
 refine je (s:=.map) (t:=some m) rfl hb1 rfl ?_
 refine zah (s:=.ptr) (some ⟨w1.heap.size,0,none⟩) _ (zy7 u57 rfl hm1) ?_
 have hlt:m < w1.heap.size:=lt_of_get hm1
 refine zjd (fun n _ W=>∃ pre seen last,I pre W/\W.heap[m]?=some (.map (ents arr (vl bv r)) c)/\W.heap[w1.heap.size]?=some (.mapIter (some m) c seen last)/\c<=last /\
   pre.Perm ((r.filter fun y=>seen.contains y.2.2).map (·.1))/\n=(r.filter fun y=>!seen.contains y.2.2).length) (r.filter fun y=>!(#[]:Array Nat).contains y.2.2).length ?_ ?_
 ·refine⟨[],#[],c,hst _ _ _ h0 (.new (Nat.le_refl _) (.push _)),zc6 hm1,zk,Nat.le_refl _,?_,rfl⟩
  simp
 rintro n _ W ⟨pre,seen,last,hI,hmW,hrW,hcl,hpre,rfl⟩ K hK
 rcases z3u (P:=P) (ty:=zdb) rfl hmW hrW (fun x hx=>hr.old x hx) hcl with⟨hall,W1,hn,hc1,hh1⟩ | ⟨x,hx,hns,W1,hn,hc1,hh1⟩
 ·refine zah (s:=.any) _ W1 hn ?_ hc1
  refine zkc (s:=.bool) false rfl rfl ?_
  refine jr rfl ?_
  refine⟨⟨_,rfl⟩,.inl ⟨pre,?_,hst _ _ _ hI (.new (by have:=lt_of_get hrW;omega) (by rw [hh1];exact .refl _ _))⟩⟩
  have:(r.filter fun y=>seen.contains y.2.2)=r:=List.filter_eq_self.2 fun y hy=>by simpa using hall y hy
  rw [this] at hpre
  exact hpre
 ·refine zah (s:=.any) _ W1 hn ?_ hc1
  refine zkc (s:=.bool) true rfl rfl ?_
  refine zai rfl ?_
  have hrlt:=lt_of_get hrW
  have hr1:W1.heap[w1.heap.size]?=some (.mapIter (some m) c (seen.push x.2.2) c):=by rw [hh1];exact Array.getElem?_setIfInBounds_self_of_lt hrlt
  have hm2:W1.heap[m]?=some (.map (ents arr (vl bv r)) c):=by rw [hh1,Array.getElem?_setIfInBounds_ne (by omega)];exact hmW
  refine qm (s:=.any) _ (zyx (last:=c) rfl hm2 hr1 hx hr) ?_
  refine zkc (s:=.any) (arr x.1) rfl rfl ?_
  have hxl:x.1.length=32:=hr.fine x hx
  refine zv6 (P:=P) (H:=W1.heap) (zjj.trans (by rw [xq,hxl])) (by rw [zsj,xq,hxl];simp) (by rw [xq,hxl];omega) zjc rfl fun W2 hW2=>?_
  refine qp hW2 zk (by rw [xq,hxl]) ?_
  have hA:Beside w1.heap.size W W1:=⟨w1.heap.size,Nat.le_refl _,(fun o ho=>by rw [hrW] at ho;cases ho;intro _ _ _ h;cases h),(by rw [hh1];exact⟨by simp,fun b _ hn=>Array.getElem?_setIfInBounds_ne (by rintro rfl;exact hn (by simp))⟩)⟩
  have hs1:W1.heap.size=W.heap.size:=by rw [hh1];simp
  have hx12:Ext [] W1.heap W2.heap:=by rw [hW2];exact .push _
  have hI2:I pre W2:=hst _ _ _ (hst _ _ _ hI hA) (.new (by omega) hx12)
  have hm3:W2.heap[m]?=some (.map (ents arr (vl bv r)) c):=hx12.get hm2 (by simp)
  have hr2:W2.heap[w1.heap.size]?=some (.mapIter (some m) c (seen.push x.2.2) c):=hx12.get hr1 (by simp)
  have hplen:pre.length < r.length:=by
   rw [hpre.length_eq,List.length_map]
   have h1:=zrh hx hns
   have h2:(r.filter fun y=>seen.contains y.2.2).length+(r.filter fun y=>!seen.contains y.2.2).length=r.length:=by
    rw [<-List.length_append]
    exact (List.filter_append_perm (fun y:List UInt8×BV×Nat=>seen.contains y.2.2) r).length_eq
   omega
  refine ziv ((hY pre x.1 W2 ⟨List.mem_map_of_mem hx,hplen⟩ hI2).mono ?_)
  rintro e W3 ⟨hx3,⟨rfl,hI3⟩ | ⟨rfl,hJ3⟩⟩
  ·refine⟨true,rfl,?_⟩
   refine jr rfl ?_
   refine hK _ _ _ (zrh hx hns) ⟨pre++[x.1],seen.push x.2.2,c,hI3,hx3.get hm3 hlt (fun h=>(hM _ h).2 (by simp)),hx3.2.2 _ _ (Nat.le_refl _) hr2 (by intro _ _ _ h;cases h),Nat.le_refl _,?_,rfl⟩
   refine .trans ?_ ((z0b hr.born hx hns).map _).symm
   rw [List.map_append]
   exact hpre.append_right _
  ·refine⟨false,rfl,?_⟩
   exact zai rfl ⟨⟨_,rfl⟩,.inr hJ3⟩
def pad (L:List UInt8):List UInt8:=(L++List.replicate 32 0).take 32
theorem zmp (L:List UInt8):(pad L).length=32:=by simp [pad]
theorem z0z {L:List UInt8}(h:L.length=32):pad L=L:=by unfold pad;rw [<-h];simp
def zat (L:List UInt8):List Value:=byteCells (pad L)
theorem zab (L:List UInt8):(zat L).length=32:=by rw [zat,jl,zmp]
theorem za7 {L:List UInt8}(h:L.length=32):zat L=byteCells L:=by rw [zat,z0z h]
theorem qfi {L:List UInt8}(h:L.length=32):Value.agg (zat L).toArray=arr L:=by rw [za7 h];rfl
theorem zi4 {L:List UInt8}:zcl (zat L):=jo
theorem z2c {w:World}{H:Heap}{gv:Value}{S:List (List UInt8)->Prop}{nx:List (List UInt8)->List UInt8->Prop}{fp:List Nat}{n:Nat}(hw:w.heap=H) (hseq:z7s P gv S nx (fun x=>#[arr x]) fp w) (hfp:∀ b∈fp,b < H.size)
  (hnx:∀ pre x,nx pre x->x.length=32/\pre.length < n) (hn:n<=1099511627776) :
  zy P zbi #[.slice none 0 0,gv] w fun e w'=>∃ x xs,e=.returned (zb2 x)/\S xs/\xs.length<=n/\(∀ L∈xs,L.length=32)/\Mine w'.heap H.size zf 32 x (xs.flatMap zat)/\Ext [] H w'.heap:=by
 refine zej ?_
 unfold zcg
 refine jm hw fun w1 hw1=>?_
 have hx1:Ext [] H w1.heap:=by rw [hw1];exact .push _
 have hs1:w1.heap.size=H.size+1:=by rw [hw1];simp
 refine zy1 (α:=List UInt8) (shs:=[.any]) (tv:=fun x=>arr x) (fp:=fp) (hseq.later (by rw [hw];exact hx1)) [H.size] (fun b hb=>by simp only [List.mem_singleton] at hb;subst hb;exact⟨by omega,fun h=>by have:=hfp _ h;omega⟩) (fun b hb=>by have:=hfp b hb;omega)
  (fun pre W=>∃ x,Ext [] H W.heap/\W.heap[H.size]?=some (.cells #[zb2 x] zo (0,0))/\Mine W.heap (H.size+1) zf 32 x (pre.flatMap zat)/\pre.length<=n/\∀ L∈pre,L.length=32)
  (fun _=>False) (fun _ _=>False) ?_ (fun _ _ h _=>h.elim) (fun _ _ _ h _=>h.elim) ?_ ?_ ?_ (fun _ h=>h.elim) (fun _ _ h=>h.elim)
 ·rintro pre W W' ⟨x,h1,h2,h3,h4⟩ hB
  exact⟨x,hB.ext (by omega) h1,hB.cells h2,hB.mine h3,h4⟩
 ·exact⟨(none,0,0),hx1,by rw [hw1];exact zk,.inl ⟨rfl,rfl⟩,Nat.zero_le _,by simp⟩
 ·rintro pre k W hk ⟨x,h1,h2,h3,h4,h5⟩ hsz beg kc kr kx hbeg
  obtain⟨hk32,hpl⟩:=hnx pre k hk
  have hlx:x.2.1=pre.length:=by
   have:=h3.len
   rw [zq zat zab] at this
   omega
  refine zv6 (P:=P) (v:=arr k) (zjj.trans (by rw [xq,hk32])) (by rw [zsj,xq,hk32];simp) (by rw [xq,hk32];omega) zjc rfl fun W1 hW1=>?_
  have hx01:Ext [] W.heap W1.heap:=by rw [hW1];exact .push _
  refine hbeg W1 _ hx01 fun W2 hB2 hs2 hkc _ _=>?_
  have hb2:W2.heap[H.size]?=some (.cells #[zb2 x] zo (0,0)):=hB2.cells (hx01.get h2 (by simp))
  have hv2:W2.heap[W.heap.size]?=some (.cells (arr k).cells zf (0,0)):=hB2.cells (by rw [hW1];exact zk)
  have hm2:Mine W2.heap (H.size+1) zf 32 x (pre.flatMap zat):=hB2.mine (h3.ext hx01 (by simp))
  have he2:Ext [] H W2.heap:=hB2.ext (by omega) (h1.trans hx01)
  refine je (s:=.slc) (t:=x) rfl hb2 rfl ?_
  refine qp rfl hv2 (by rw [xq,hk32]) ?_
  refine zah (s:=.slc) (some ⟨W2.heap.size,0,none⟩,1,1) _ (zen E27 z6n (v:=.agg (arr k).cells) (by show (arr k).cells.size=32;rw [xq,hk32]) (by omega) (by omega)) ?_
  have hxp:Ext [] W2.heap (W2.heap.push (.cells (Value.agg (arr k).cells).cells zf)):=.push _
  have hc1:(Value.agg (arr k).cells).cells=(zat k).toArray:=by rw [za7 hk32];rfl
  refine zcj (bts:=32) (n:=1) (us:=zat k) (H:=W2.heap.push (.cells (Value.agg (arr k).cells).cells zf)) E27 (by omega) z6n (zbg z6n) rfl (hm2.ext hxp (by simp)) (by have:=he2.1;simp;omega)
   (Src.slc rfl (.inr ⟨W2.heap.size,0,_,_,_,rfl,zk,by rw [hc1];simp,by rw [hc1,Nat.zero_add];simp⟩) (by rw [zab])) zi4 (by omega) ?_
  intro x' W4 hm4 hl4 hx4 _
  have hb4:W4.heap[H.size]?=some (.cells #[zb2 x] zo (0,0)):=hx4.get (hxp.get hb2 (by simp)) (fun h=>by have:=qx hm2 _ h;omega)
  refine zbd rfl hb4 (by simp) fun W5 hW5=>?_
  have hg4:∀ b∈jk x',H.size+1<=b:=qx hm4
  have hx45:Ext [H.size] W4.heap W5.heap:=by rw [hW5];exact⟨by simp,fun b _ hn=>Array.getElem?_setIfInBounds_ne (by rintro rfl;exact hn (by simp))⟩
  have hx25:Ext (H.size :: jk x) W2.heap W5.heap:=(hxp.mono (by simp)).trans ((hx4.mono (by intro b hb;exact List.mem_cons_of_mem _ hb)).trans (hx45.mono (by simp)))
  have hK25:Keep [H.size] w1.heap.size W2.heap W5.heap:=by
   refine .of hx25 (fun b hb=>?_) (by simp;omega)
   rcases List.mem_cons.1 hb with rfl | hb
   ·exact .inl (by simp)
   ·right
    refine⟨by have:=qx hm2 b hb;omega,?_⟩
    rcases hm2 with⟨rfl,_⟩ | ⟨b',c,hx1',_,hbb,_⟩
    ·simp [jk] at hb
    ·simp [jk,hx1'] at hb;subst hb;exact⟨_,_,_,hbb⟩
  refine hkc W5 hK25 ⟨x',?_,?_,?_,by rw [List.length_append,List.length_singleton];omega,?_⟩
  ·exact hK25.ext he2 (by omega) (by intro b hb hm;simp only [List.mem_singleton] at hm;omega)
  ·rw [hW5];exact qc hb4
  ·rw [List.flatMap_append,List.flatMap_singleton]
   exact hm4.ext hx45 (fun b hb=>by have:=hg4 b hb;simp;omega)
  ·intro L hL
   rcases List.mem_append.1 hL with hL | hL
   ·exact h5 L hL
   ·simp only [List.mem_singleton] at hL;rw [hL];exact hk32
 ·rintro xs W hS ⟨x,h1,h2,h3,h4,h5⟩ hD
  refine je (s:=.slc) (t:=x) rfl h2 rfl ?_
  refine⟨hD,fun W' hW'=>⟨x,xs,rfl,hS,h4,h5,?_,?_⟩⟩
  ·have hB:Beside w1.heap.size W W':=by rw [hW'];exact .put (Nat.le_refl _) hD (by intro _ _ _ h;cases h)
   exact (hB.mine h3).mono (by omega)
  ·have hB:Beside w1.heap.size W W':=by rw [hW'];exact .put (Nat.le_refl _) hD (by intro _ _ _ h;cases h)
   exact hB.ext (by omega) h1
theorem z8g {w:World}{H:Heap}{gv:Value}{S:List (List UInt8)->Prop}{nx:List (List UInt8)->List UInt8->Prop}{fp:List Nat}{n:Nat}(hw:w.heap=H) (hseq:z7s P gv S nx (fun x=>#[arr x]) fp w) (hfp:∀ b∈fp,b < H.size)
  (hnx:∀ pre x,nx pre x->x.length=32/\pre.length < n) (hn:n<=1099511627776) :
  zy P zde #[gv] w fun e w'=>∃ x xs,e=.returned (zb2 x)/\S xs/\xs.length<=n/\(∀ L∈xs,L.length=32)/\Mine w'.heap H.size zf 32 x (xs.flatMap zat)/\Ext [] H w'.heap:=by
 refine zh4 ?_
 unfold zfc
 refine zl (z2c hw hseq hfp hnx hn) ?_
 rintro e w' ⟨x,xs,rfl,h⟩
 exact⟨x,rfl,x,xs,rfl,h⟩
def zvc (xs:List (List UInt8)):Prop:=xs.Pairwise fun a b=>¬Lib.compareBytes (pad b) (pad a) < 0
theorem z7a {w:World}{H:Heap}{B:Nat}{x:Option Addr×Nat×Nat}{xs:List (List UInt8)}(hw:w.heap=H) (hM:Mine H B zf 32 x (xs.flatMap zat)) (hn:xs.length<=1099511627776) :
  zy P zcq #[.slice x.1 x.2.1 x.2.2,.func (.func zed) #[] #[]] w fun e w'=>e=.returned (.tuple #[])/\∃ ys:List (List UInt8),ys.Perm xs/\zvc ys/\Mine w'.heap B zf 32 x (ys.flatMap zat)/\Ext (jk x) H w'.heap:=
 qgi (α:=List UInt8) Tryz.sortD (k:=32) (fun w=>by kernel_rfl) (fun w=>by kernel_rfl) zat zab (by omega) (fun x=>zi4) (fun x y=>Lib.compareBytes (pad x) (pad y)) (qcj pad) (g:=zed) (fun args w=>by kernel_rfl) (fun args w=>by kernel_rfl)
  (fun W x y=>zu1 (zmp x) (zmp y)) hw hM (by omega)
theorem zr4 {w:World}{H:Heap}{gv:Value}{S:List (List UInt8)->Prop}{nx:List (List UInt8)->List UInt8->Prop}{fp:List Nat}{n:Nat}(hw:w.heap=H) (hseq:z7s P gv S nx (fun x=>#[arr x]) fp w) (hfp:∀ b∈fp,b < H.size)
  (hnx:∀ pre x,nx pre x->x.length=32/\pre.length < n) (hn:n<=1099511627776) :
  zy P zbz #[gv,.func (.func zed) #[] #[]] w fun e w'=>∃ x xs ys,e=.returned (zb2 x)/\S xs/\ys.Perm xs/\zvc ys/\xs.length<=n/\(∀ L∈xs,L.length=32)/\Mine w'.heap H.size zf 32 x (ys.flatMap zat)/\Ext [] H w'.heap:=by
 refine zg6 ?_
 unfold zd9
 refine zl (z8g hw hseq hfp hnx hn) ?_
 rintro e w1 ⟨x,xs,rfl,hS,hl,h32,hM,hx⟩
 refine⟨x,rfl,?_⟩
 refine zl (l:=[]) (z7a rfl hM (by omega)) ?_
 rintro e w2 ⟨rfl,ys,hp,ho,hM2,hx2⟩
 exact⟨(),rfl,x,xs,ys,rfl,hS,hp,ho,hl,h32,hM2,hx.own hx2 (by intro b hb;have:=qx hM b hb;omega)⟩
theorem z5q {w:World}{H:Heap}{b:Nat}{x:Option Addr×Nat×Nat}{xs:List (List UInt8)}{B:Nat}(hw:w.heap=H) (hb:H[b]?=some (.cells #[zb2 x] zo (0,0))) (hM:Mine H B zf 32 x (xs.flatMap zat)) (h32:∀ L∈xs,L.length=32) (hn:xs.length<=1099511627776) :
  z7s P (.func (.func zaj) #[] #[.pointer (some ⟨b,0,none⟩)]) (fun ys=>ys=xs) (fun pre y=>∃ rest,xs=pre++y :: rest) (fun x=>#[arr x]) (b :: jk x) w:=by
 refine⟨_,_,rfl,fun l I J w1 M hx1 hMM hst h0 hY=>?_⟩
 have hx1:=hw▸hx1
 have hb1:=hx1.get hb (by simp)
 have hM1:Mine w1.heap B zf 32 x (xs.flatMap zat):=hM.ext hx1 (by simp)
 have hlx:x.2.1=xs.length:=by
  have:=hM.len
  rw [zq zat zab] at this
  omega
 refine zeu ?_
 unfold zcr
 simp only [qg]
 refine je (s:=.slc) (t:=x) rfl hb1 rfl ?_
 refine jg (fun s W=>∃ i:Nat,s=(i:Int)/\i<=xs.length/\I (xs.take i) W/\Mine W.heap B zf 32 x (xs.flatMap zat)/\w1.heap.size<=W.heap.size/\∀ b∈jk x,b < w1.heap.size) (fun s _=>(xs.length-s).toNat)
  ⟨0,rfl,Nat.zero_le _,h0,hM1,Nat.le_refl _,?_⟩ ?_
 ·intro b hb
  rcases hM1 with⟨rfl,_⟩ | ⟨b',c,hx1',_,hbb,_⟩
  ·simp [jk] at hb
  ·simp [jk,hx1'] at hb;subst hb;exact lt_of_get hbb
 rintro _ W ⟨i,rfl,hi,hI,hMW,hsz,hlt⟩
 refine zx (fun hil=>?_) (fun hil=>?_)
 ·have hil:i < xs.length:=by rw [hlx] at hil;omega
  have hk32:xs[i].length=32:=h32 _ (List.getElem_mem hil)
  refine zci (i:=i) zab (by omega) rfl hMW.cells hlx (List.getElem?_eq_getElem hil) rfl ?_
  rw [qfi hk32]
  refine zv6 (P:=P) (v:=arr xs[i]) (zjj.trans (by rw [xq,hk32])) (by rw [zsj,xq,hk32];simp) (by rw [xq,hk32];omega) zjc rfl fun W1 hW1=>?_
  have hx01:Ext [] W.heap W1.heap:=by rw [hW1];exact .push _
  refine qp (c:=(arr xs[i]).cells) hW1 zk (by rw [xq,hk32]) ?_
  refine ziv ((hY (xs.take i) xs[i] W1 ⟨xs.drop (i+1),by simp⟩ (hst _ _ _ hI (.new hsz hx01))).mono ?_)
  rintro e W2 ⟨hK,⟨rfl,hI2⟩ | ⟨rfl,hJ2⟩⟩
  ·refine⟨true,rfl,?_⟩
   refine jr rfl ?_
   refine jd ((i+1:Nat):Int) (by omega) (by omega) (by omega) ?_
   refine⟨⟨i+1,rfl,by omega,?_,?_,?_,hlt⟩,by omega⟩
   ·rw [List.take_add_one,List.getElem?_eq_getElem hil]
    exact hI2
   ·have hM01:=hMW.ext hx01 (by simp)
    rcases hM01 with h | ⟨b',c,hx1',h2,hbb,h4⟩
    ·exact .inl h
    ·exact .inr ⟨b',c,hx1',h2,hK.get hbb (hlt _ (by simp [jk,hx1'])) (fun h=>(hMM _ h).2 (by simp [jk,hx1'])),h4⟩
   ·exact Nat.le_trans hsz (Nat.le_trans hx01.1 hK.1)
  ·refine⟨false,rfl,?_⟩
   exact zai rfl ⟨⟨_,rfl⟩,.inr hJ2⟩
 ·have hil:i=xs.length:=by rw [hlx] at hil;omega
  refine⟨⟨_,rfl⟩,.inl ⟨xs,rfl,?_⟩⟩
  rw [hil,List.take_length] at hI
  exact hI
theorem qgh {w:World}{H:Heap}(m:Option Nat) (hw:w.heap=H):zy P za0 #[.map m] w fun e w'=>
  e=.returned (.func (.func zaf) #[] #[.pointer (some ⟨H.size,0,none⟩)])/\w'.heap=H.push (.cells #[.map m] jh):=by
 refine zdj ?_
 unfold zby
 refine jm hw fun w1 hw1=>?_
 exact qm (s:=.any) _ rfl ⟨rfl,hw1⟩
theorem qcw {w:World}{H:Heap}(x:Option Addr×Nat×Nat) (hw:w.heap=H):zy P zbr #[.slice x.1 x.2.1 x.2.2] w fun e w'=>
  e=.returned (.func (.func zaj) #[] #[.pointer (some ⟨H.size,0,none⟩)])/\w'.heap=H.push (.cells #[zb2 x] zo):=by
 refine ze7 ?_
 unfold zcz
 refine jm hw fun w1 hw1=>?_
 exact qm (s:=.any) _ rfl ⟨rfl,hw1⟩
def Listed (H:Heap) (B:Nat) (gv:Value) (ys:List (List UInt8)):Prop:=∃ b x,gv=.func (.func zaj) #[] #[.pointer (some ⟨b,0,none⟩)]/\B<=b/\H[b]?=some (.cells #[zb2 x] zo (0,0))/\Mine H B zf 32 x (ys.flatMap zat)/\∀ L∈ys,L.length=32
theorem qjr {w:World}{H:Heap}{fp:List Nat}{p:Nat}{q:Int}{r:SM}{c:Nat}(hw:w.heap=H) (hS:Store H fp p q r c) (hlen:r.length<=1099511627776) :
  zy P zhq #[.pointer (some ⟨p,0,none⟩)] w fun e w'=>∃ gv ys,e=.returned gv/\Ext [] H w'.heap/\Listed w'.heap H.size gv ys/\ys.Perm (r.map (·.1))/\zvc ys:=by
 obtain⟨m,h1,h2,h3,_⟩:=hS
 refine zq4 ?_
 unfold zl1
 refine joinP_of (fun (x:Option Addr×Nat×Nat) W=>∃ ys,Ext [] H W.heap/\Mine W.heap H.size zf 32 x (ys.flatMap zat)/\(∀ L∈ys,L.length=32)/\ys.Perm (r.map (·.1))/\zvc ys) ?_ ?_
 ·refine zai rfl ?_
  simp only [qg]
  refine je (t:=some m) hw h1 rfl ?_
  refine zl (qgh _ hw) ?_
  rintro e w1 ⟨rfl,hw1⟩
  refine⟨_,rfl,?_⟩
  have hx1:Ext [] H w1.heap:=by rw [hw1];exact .push _
  refine zl (zr4 (n:=r.length) rfl (qdd (b:=H.size) rfl (by rw [hw1];exact zk) (hx1.get h2 (by simp)) h3) ?_ ?_ hlen) ?_
  ·intro b hb
   have:=lt_of_get h2
   simp only [List.mem_cons,List.not_mem_nil,or_false] at hb
   rw [hw1];simp
   rcases hb with rfl | rfl <;> omega
  ·rintro pre x ⟨h,hl⟩
   obtain⟨y,hy,rfl⟩:=List.mem_map.1 h
   exact⟨h3.fine _ hy,hl⟩
  rintro e w2 ⟨x,xs,ys,rfl,hS,hp,ho,_,h32,hM,hx2⟩
  exact⟨x,rfl,ys,hx1.trans hx2,hM.mono hx1.1,fun L hL=>h32 L (hp.mem_iff.1 hL),hp.trans hS,ho⟩
 ·rintro x w2 ⟨ys,hx2,hM,h32,hp,ho⟩
  refine zl (qcw x rfl) ?_
  rintro e w3 ⟨rfl,hw3⟩
  have hx3:Ext [] w2.heap w3.heap:=by rw [hw3];exact .push _
  exact⟨_,rfl,_,ys,rfl,hx2.trans hx3,⟨_,x,rfl,hx2.1,by rw [hw3];exact zk,hM.ext hx3 (by simp),h32⟩,hp,ho⟩
theorem ztk {r:SM}(hk:(r.map (·.1)).Nodup){y:List UInt8×BV×Nat}(hy:y∈r):vw r y.1=some y.2.1.2:=by
 unfold vw
 rw [zdu hk hy]
 rfl
def zff (x:List UInt8×BV×Nat):List Value:=byteCells (pad x.1)++[zb2 x.2.1.1]
theorem zdq (x:List UInt8×BV×Nat):(zff x).length=33:=by simp [zff,jl,zmp]
theorem z4s {x:List UInt8×BV×Nat}:zcl (zff x):=by
 intro v hv
 rcases List.mem_append.1 hv with h | h
 ·exact jo v h
 ·simp only [List.mem_singleton] at h;subst h;rfl
def zi1 (rl:SM):Prop:=rl.Pairwise fun a b=>Lib.compareBytes a.1 b.1 < 0
structure ROk (rl:SM):Prop where
 len:∀ x∈rl,x.1.length=32
 rise:zi1 rl
def zdf (H:Heap) (fp:List Nat) (p:Nat) (q:Int) (rl:SM):Prop:=
 ∃ x,H[p]?=some (.cells #[.int .i64 q,zb2 x] zf3 (0,0))/\Mine H 0 za2 33 x (rl.flatMap zff)/\p∈fp/\(∀ b∈jk x,b∈fp)/\z1q H fp rl/\Apart rl/\ROk rl
theorem zdf.ext {M fp:List Nat}{H H':Heap}{p:Nat}{q:Int}{rl:SM}(h:zdf H fp p q rl) (hx:Ext M H H') (hM:∀ b∈fp,b∉M):zdf H' fp p q rl:=by
 obtain⟨x,h1,h2,h3,h4,h5,h6⟩:=h
 exact⟨x,hx.get h1 (hM p h3),h2.ext hx (fun b hb=>hM b (h4 b hb)),h3,h4,h5.ext hx hM,h6⟩
theorem zi1.nodup {rl:SM}(h:zi1 rl):(rl.map (·.1)).Nodup:=by
 unfold zi1 at h
 rw [List.nodup_iff_pairwise_ne,List.pairwise_map]
 exact h.imp fun {a b} hab e=>by rw [e,(zez).2 rfl] at hab;omega
theorem zep {H:Heap}{B:Nat}{x:Option Addr×Nat×Nat}{rl:SM}(h:Mine H B za2 33 x (rl.flatMap zff)):x.2.1=rl.length:=by
 have:=h.len
 rw [zq zff zdq] at this
 omega
theorem uB:P.underlying jc=some (.slice za2):=by kernel_rfl
theorem EB:Elem P za2 33 56:=zmm (z:=Value.agg ((List.replicate 32 (Value.int .u8 0))++[Value.slice none 0 0]).toArray) (by kernel_rfl) rfl
theorem szB:(P.info? za2).map (·.size)=some 33:=by kernel_rfl
theorem bR (a:Int) (w:World):(Instr.build zf3 #[(0,.int .i64 a)]).run P w=.ok (.agg #[.int .i64 a,.slice none 0 0]) w:=by kernel_rfl
theorem qhg {w:World}{H:Heap}(q:Int) (hw:w.heap=H):zy P zvw #[.int .i64 q] w fun e w'=>∃ p,e=.returned (.pointer (some ⟨p,0,none⟩))/\zdf w'.heap [p] p (max q 0) []/\Ext [] H w'.heap/\H.size<=p/\p < w'.heap.size:=by
 refine z6u ?_
 unfold z0x
 refine qm (s:=.int .i64) (max q 0) ?_ ?_
 ·rw [run_max_int2]
  congr 2
  show (if (0:Int) > q then 0 else q)=max q 0
  split <;> omega
 refine qm (s:=.any) _ (bR _ _) ?_
 refine jm hw fun w1 hw1=>?_
 refine⟨H.size,rfl,⟨(none,0,0),by rw [hw1];exact zk,.inl ⟨rfl,rfl⟩,by simp,by simp [jk],(by intro x hx;cases hx),(by intro x hx;cases hx),⟨by simp,.nil⟩⟩,by rw [hw1];exact .push _,Nat.le_refl _,by rw [hw1];simp⟩
theorem zd6 {α:Type}{enc:α->List Value}{sz:Nat}{H:Heap}{a:Option Addr}{len:Nat}(hk:∀ x,(enc x).length=sz) (h0:0 < sz){xs:List α}{v:α}{i:Nat}{n:Int}(hL:Cells H a (xs.flatMap enc))
  (hlen:len=xs.length) (hi:xs[i]?=some v) (hn:n=(i:Int)){K:Addr->Prop}(hK:∀ b o c T fr,a.map (·.block)=some b->H[b]?=some (.cells c T fr)->o+sz<=c.size->(∀ j,j < sz->c[o+j]?=(enc v)[j]?)->(a=some ⟨b,0,none⟩->o=i * sz)->K ⟨b,o,none⟩):ixS a len sz n K:=by
 have hlt:=(List.getElem?_eq_some_iff.1 hi).1
 rcases hL with h | ⟨b,o,c,T,fr,rfl,hb,hsz,hc⟩
 ·have:=congrArg List.length h
  rw [zq enc hk] at this
  have:=Nat.mul_pos (show 0 < xs.length by omega) h0
  simp_all
 ·refine z07 i hn (by omega) ?_
  have hm:i * sz+sz<=xs.length * sz:=by
   have:=Nat.mul_le_mul_right sz (show i+1<=xs.length by omega)
   rw [Nat.add_mul] at this;omega
  rw [zq enc hk] at hsz
  refine hK b (o+i * sz) c T fr rfl hb (by omega) (fun j hj=>?_) (fun h=>by cases h;omega)
  have h2:(xs.flatMap enc)[i * sz+j]?=(enc v)[j]?:=by
   rw [getElem_flatMap enc hk h0]
   have h3:(i * sz+j) / sz=i:=by
    rw [Nat.mul_comm,Nat.mul_add_div h0,Nat.div_eq_of_lt hj];rfl
   have h4:(i * sz+j) % sz=j:=by
    rw [Nat.mul_comm,Nat.mul_add_mod,Nat.mod_eq_of_lt hj]
   rw [h3,h4,hi];rfl
  rw [<-hc,Array.getElem?_toList,Array.getElem?_extract,zq enc hk,if_pos (by omega)] at h2
  rw [<-h2]
  congr 1;omega
theorem z1m {c:Array Value}{o:Nat}{x:List UInt8×BV×Nat}(h32:x.1.length=32) (hs:o+33<=c.size) (h:∀ j,j < 33->c[o+j]?=(zff x)[j]?):c.extract o (o+32)=(byteCells x.1).toArray:=by
 apply Array.ext_getElem?
 intro j
 rw [Array.getElem?_extract]
 by_cases hj:j < 32
 ·rw [if_pos (by omega),h j (by omega),zff,List.getElem?_append_left (by rw [jl,zmp];exact hj),z0z h32]
  simp
 ·rw [if_neg (by omega),Array.getElem?_eq_none (by simp [jl,h32];omega)]
theorem zx3 {c:Array Value}{o:Nat}{x:List UInt8×BV×Nat}(h:∀ j,j < 33->c[o+j]?=(zff x)[j]?):c[o+32]?=some (zb2 x.2.1.1):=by
 rw [h 32 (by omega),zff,List.getElem?_append_right (by rw [jl,zmp];omega),jl,zmp]
 rfl
theorem zqs {w:World}{H:Heap}{a:Option Addr}{len i:Nat}{n:Int}{rl:SM}{x:List UInt8×BV×Nat}(hw:w.heap=H) (hL:Cells H a (rl.flatMap zff)) (hlen:len=rl.length) (hi:rl[i]?=some x) (hn:n=(i:Int)) (h32:x.1.length=32){K:Array Value->Prop}
  (hK:K (byteCells x.1).toArray):ixS a len 33 n fun p=>ldA P 32 p w K:=by
 refine zd6 zdq (by omega) hL hlen hi hn fun b o c T fr _ hb hs hc _=>?_
 refine zhc hw hb (by omega) ?_
 rw [z1m h32 hs hc];exact hK
theorem zkv {w:World}{H:Heap}{a:Option Addr}{len i:Nat}{n:Int}{rl:SM}{x:List UInt8×BV×Nat}(hw:w.heap=H) (hL:Cells H a (rl.flatMap zff)) (hlen:len=rl.length) (hi:rl[i]?=some x) (hn:n=(i:Int)){K:Option Addr×Nat×Nat->Prop}
  (hK:K x.2.1.1):ixS a len 33 n fun p=>ld .slc (Addr.add p 32) w K:=by
 refine zd6 zdq (by omega) hL hlen hi hn fun b o c T fr _ hb hs hc _=>?_
 rw [vg]
 exact je (s:=.slc) hw hb (zx3 hc) hK
theorem zr5 {w:World}{k k':List UInt8}(hk:k.length=32) (hk':k'.length=32) :
  zy P zia #[arr k,arr k'] w fun e w'=>e=.returned (.int .i64 (Lib.compareBytes k k'))/\Ext [] w.heap w'.heap:=by
 refine zwk ?_
 unfold zpw
 refine jm rfl fun w1 hw1=>?_
 refine jm hw1 fun w2 hw2=>?_
 have hx2:Ext [] w.heap w2.heap:=by rw [hw2];exact (Ext.push _).trans (Ext.push _)
 have ha:w2.heap[w.heap.size]?=some (.cells (byteCells k).toArray zf (0,0)):=by rw [hw2];exact zc6 zk
 have hb:w2.heap[(w.heap.push (.cells (Value.cells (arr k)) zf)).size]?=some (.cells (byteCells k').toArray zf (0,0)):=by rw [hw2];exact zk
 generalize (w.heap.push (.cells (Value.cells (arr k)) zf)).size=b3 at *
 have hstep:∀ (L L':List UInt8),L.length=L'.length->∀ i,(∀ j,j < i->L[j]?=L'[j]?)->i<=L.length->Lib.compareBytes L L'=Lib.compareBytes (L.drop i) (L'.drop i):=by
  intro L
  induction L with
  | nil=>intro L' hl i _ hi;cases L' with
   | nil=>simp
   | cons=>simp at hl
  | cons x L ih=>
   intro L' hl i hj hi
   cases L' with
   | nil=>simp at hl
   | cons y L'=>
    cases i with
    | zero=>rfl
    | succ i=>
     have h0:=hj 0 (by omega)
     simp at h0
     subst h0
     simp only [Lib.compareBytes,UInt8.lt_irrefl,if_false,List.drop_succ_cons]
     exact ih L' (by simpa using hl) i (fun j h=>by have:=hj (j+1) (by omega);simpa using this) (by simpa using hi)
 refine jg (fun (s:Int) W=>∃ i:Nat,s=(i:Int)/\i<=32/\W.heap=w2.heap/\∀ j,j < i->k[j]?=k'[j]?) (fun s _=>(32-s).toNat) ⟨0,rfl,by omega,rfl,by intro j h;omega⟩ ?_
 rintro _ W ⟨i,rfl,hi,hW,heq⟩
 have hdrop:∀ (L:List UInt8) (h:i < L.length),L.drop i=L[i] :: L.drop (i+1):=fun L h=>List.drop_eq_getElem_cons h
 have hs:=hstep k k' (by omega) i heq (by omega)
 refine zx (fun hlt=>?_) (fun hge=>?_)
 ·have hik:i < k.length:=by omega
  have hik':i < k'.length:=by omega
  rw [hdrop k hik,hdrop k' hik'] at hs
  simp only [Lib.compareBytes] at hs
  refine jv hW fun W1 hW1=>?_
  refine zeg i rfl (by omega) ?_
  refine zeg i rfl (by omega) ?_
  refine je (s:=.int .u8) (t:=(k[i].toNat:Int)) hW1 ha (by rw [List.getElem?_toArray,zc9 hik,List.getD_eq_getElem?_getD,List.getElem?_eq_getElem hik];rfl) ?_
  refine je (s:=.int .u8) (t:=(k'[i].toNat:Int)) hW1 hb (by rw [List.getElem?_toArray,zc9 hik',List.getD_eq_getElem?_getD,List.getElem?_eq_getElem hik'];rfl) ?_
  refine zx (fun hl=>?_) (fun hnl=>?_)
  ·have:k[i] < k'[i]:=by rw [UInt8.lt_iff_toNat_lt];omega
   rw [if_pos this] at hs
   exact⟨by rw [hs],by rw [hW1];exact hx2⟩
  have hn1:¬k[i] < k'[i]:=by rw [UInt8.lt_iff_toNat_lt];omega
  rw [if_neg hn1] at hs
  refine jv hW1 fun W2 hW2=>?_
  refine zeg i rfl (by omega) ?_
  refine zeg i rfl (by omega) ?_
  refine je (s:=.int .u8) (t:=(k[i].toNat:Int)) hW2 ha (by rw [List.getElem?_toArray,zc9 hik,List.getD_eq_getElem?_getD,List.getElem?_eq_getElem hik];rfl) ?_
  refine je (s:=.int .u8) (t:=(k'[i].toNat:Int)) hW2 hb (by rw [List.getElem?_toArray,zc9 hik',List.getD_eq_getElem?_getD,List.getElem?_eq_getElem hik'];rfl) ?_
  refine zx (fun hl=>?_) (fun hnl2=>?_)
  ·have:k'[i] < k[i]:=by rw [UInt8.lt_iff_toNat_lt];omega
   rw [if_pos this] at hs
   exact⟨by rw [hs],by rw [hW2];exact hx2⟩
  refine jd ((i+1:Nat):Int) (by omega) (by omega) (by omega) ?_
  refine⟨⟨i+1,rfl,by omega,hW2,fun j hj=>?_⟩,by omega⟩
  by_cases e:j=i
  ·subst e
   rw [List.getElem?_eq_getElem hik,List.getElem?_eq_getElem hik']
   congr 1
   rw [<-UInt8.toNat_inj];omega
  ·exact heq j (by omega)
 ·have:i=32:=by omega
  subst this
  rw [List.drop_of_length_le (by omega),List.drop_of_length_le (by omega)] at hs
  exact⟨by rw [hs];rfl,by rw [hW];exact hx2⟩
structure Split (rl:SM) (k:List UInt8) (pre rest:SM):Prop where
 eq:rl=pre++rest
 lo:∀ x∈pre,Lib.compareBytes x.1 k < 0
 hi:∀ x∈rest,¬Lib.compareBytes x.1 k < 0
theorem qcx {rl:SM}{k:List UInt8}(hr:zi1 rl){i:Nat}(hi:i<=rl.length) (h1:∀ x∈rl.take i,Lib.compareBytes x.1 k < 0) (h2:∀ h:i < rl.length,¬Lib.compareBytes (rl[i]).1 k < 0):Split rl k (rl.take i) (rl.drop i):=by
 refine⟨(List.take_append_drop i rl).symm,h1,fun x hx=>?_⟩
 obtain⟨j,hj,rfl⟩:=List.mem_iff_getElem.1 hx
 simp only [List.length_drop] at hj
 rw [List.getElem_drop]
 by_cases hj0:j=0
 ·subst hj0;exact h2 (by omega)
 ·have h3:=h2 (by omega)
  have h4:Lib.compareBytes (rl[i]'(by omega)).1 (rl[i+j]'(by omega)).1 < 0:=List.pairwise_iff_getElem.1 hr i (i+j) (by omega) (by omega) (by omega)
  intro h5
  exact h3 (zdg.2 (List.lt_trans (zdg.1 h4) (zdg.1 h5)))
def hit (rest:SM) (k:List UInt8):Bool:=match rest with | []=>false | x :: _=>decide (x.1=k)
theorem zno {rl pre rest:SM}{k:List UInt8}(h:Split rl k pre rest) (hr:zi1 rl) (hh:hit rest k=false):vw rl k=none:=by
 unfold vw
 rw [zhn];rfl
 intro x hx e
 rw [h.eq] at hx
 rcases List.mem_append.1 hx with hx | hx
 ·have:=h.lo x hx;rw [e,zez.2 rfl] at this;omega
 ·cases rest with
  | nil=>cases hx
  | cons y rest=>
   rcases List.mem_cons.1 hx with rfl | hx
   ·simp [hit,e] at hh
   ·have h1:Lib.compareBytes y.1 x.1 < 0:=by
     have:=hr;unfold zi1 at this;rw [h.eq] at this
     exact (List.pairwise_cons.1 (List.pairwise_append.1 this).2.1).1 x hx
    rw [e] at h1
    exact h.hi y (by simp) h1
theorem zqc {rl pre rest:SM}{k:List UInt8}(h:Split rl k pre rest) (hr:zi1 rl) (hh:hit rest k=true):∃ x t,rest=x :: t/\x.1=k/\vw rl k=some x.2.1.2/\rl[pre.length]?=some x/\x∈rl:=by
 cases rest with
 | nil=>simp [hit] at hh
 | cons x t=>
  have e:x.1=k:=by simpa [hit] using hh
  have hm:x∈rl:=by rw [h.eq];simp
  exact⟨x,t,rfl,e,by rw [<-e];exact ztk hr.nodup hm,by rw [h.eq];simp,hm⟩
theorem z3m {rl pre rest:SM}{k:List UInt8}(h:Split rl k pre rest) (hr:zi1 rl):hit rest k=(vw rl k).isSome:=by
 cases hh:hit rest k with
 | false=>rw [zno h hr hh];rfl
 | true=>obtain⟨x,t,_,_,h1,_⟩:=zqc h hr hh;rw [h1];rfl
set_option maxHeartbeats 2000000 in
theorem z0w {w:World}{H:Heap}{fp:List Nat}{p:Nat}{q:Int}{rl:SM}{k:List UInt8}(hw:w.heap=H) (hS:zdf H fp p q rl) (hk:k.length=32) (hn:rl.length < 1099511627776) :
  zy P zc3 #[.pointer (some ⟨p,0,none⟩),arr k] w fun e w'=>∃ pre rest,e=.returned (.tuple #[.int .i64 (pre.length:Int),.bool (hit rest k)])/\Split rl k pre rest/\Ext [] H w'.heap:=by
 obtain⟨x,h1,h2,h3,h4,h5,h6,h7⟩:=hS
 have hxl:=zep h2
 refine zq5 ?_
 unfold zlq
 refine jm hw fun w1 hw1=>?_
 have hx1:Ext [] H w1.heap:=by rw [hw1];exact .push _
 have hb1:w1.heap[H.size]?=some (.cells (byteCells k).toArray zf (0,0)):=by rw [hw1];exact zk
 have h11:=hx1.get h1 (by simp)
 have h21:=h2.ext hx1 (by simp)
 refine joinP_of (fun (s:Int) W=>∃ i:Nat,s=(i:Int)/\i<=rl.length/\Ext [] w1.heap W.heap/\(∀ y∈rl.take i,Lib.compareBytes y.1 k < 0)/\∀ h:i < rl.length,¬Lib.compareBytes (rl[i]).1 k < 0) ?_ ?_
 ·refine jg (fun (s:Int) W=>∃ i:Nat,s=(i:Int)/\i<=rl.length/\Ext [] w1.heap W.heap/\∀ y∈rl.take i,Lib.compareBytes y.1 k < 0) (fun s _=>(rl.length-s).toNat) ⟨0,rfl,Nat.zero_le _,.refl _ _,by simp⟩ ?_
  rintro _ W ⟨i,rfl,hi,hxW,hlo⟩
  refine zar ?_
  refine jv rfl fun W1 hW1=>?_
  have hx1:Ext [] w1.heap W1.heap:=by rw [hW1];exact hxW
  simp only [qg,vg,Nat.zero_add]
  refine je (s:=.slc) (t:=x) rfl (hx1.get h11 (by simp)) rfl ?_
  refine zx (fun hlt=>?_) (fun hge=>?_)
  ·have hil:i < rl.length:=by omega
   refine je (s:=.slc) (t:=x) rfl (hx1.get h11 (by simp)) rfl ?_
   refine zqs rfl (h21.ext hx1 (by simp)).cells hxl (List.getElem?_eq_getElem hil) rfl (h7.len _ (List.getElem_mem hil)) ?_
   refine qp rfl (hx1.get hb1 (by simp)) (by simp [byteCells,hk]) ?_
   refine zl (zr5 (h7.len _ (List.getElem_mem hil)) hk) ?_
   rintro e W2 ⟨rfl,hx2⟩
   refine⟨_,rfl,?_⟩
   refine zx (fun hl=>?_) (fun hnl=>⟨i,rfl,hi,hx1.trans hx2,hlo,fun _=>hnl⟩)
   refine jd ((i+1:Nat):Int) (by omega) (by omega) (by omega) ?_
   refine⟨⟨i+1,rfl,by omega,hx1.trans hx2,fun y hy=>?_⟩,by omega⟩
   rw [List.take_add_one,List.getElem?_eq_getElem hil] at hy
   rcases List.mem_append.1 hy with hy | hy
   ·exact hlo y hy
   ·simp only [Option.toList_some,List.mem_singleton] at hy;subst hy;exact hl
  ·exact⟨i,rfl,hi,hx1,hlo,fun h=>by omega⟩
 ·rintro _ W ⟨i,rfl,hi,hxW,hlo,hhi⟩
  refine jv rfl fun W1 hW1=>?_
  have hx1':Ext [] w1.heap W1.heap:=by rw [hW1];exact hxW
  have hsp:=qcx h7.rise hi hlo hhi
  have hpl:(rl.take i).length=i:=by simp;omega
  simp only [qg,vg,Nat.zero_add]
  refine je (s:=.slc) (t:=x) rfl (hx1'.get h11 (by simp)) rfl ?_
  refine zx (fun hlt=>?_) (fun hge=>?_)
  ·have hil:i < rl.length:=by omega
   refine je (s:=.slc) (t:=x) rfl (hx1'.get h11 (by simp)) rfl ?_
   refine zqs rfl (h21.ext hx1' (by simp)).cells hxl (List.getElem?_eq_getElem hil) rfl (h7.len _ (List.getElem_mem hil)) ?_
   refine qp rfl (hx1'.get hb1 (by simp)) (by simp [byteCells,hk]) ?_
   refine qm (s:=.bool) _ (zym u27 u5 c5 g27 (h7.len _ (List.getElem_mem hil)) hk) ?_
   refine⟨rl.take i,rl.drop i,?_,hsp,hx1.trans hx1'⟩
   rw [hpl,List.drop_eq_getElem_cons hil]
   rfl
  ·refine⟨rl.take i,rl.drop i,?_,hsp,hx1.trans hx1'⟩
   rw [hpl,List.drop_of_length_le (by omega)]
   rfl
theorem z7i {rl:SM}{i:Nat}(h:i < rl.length):total (rl.take (i+1))=total (rl.take i)+(rl[i]).2.1.2.length:=by
 unfold total
 rw [List.take_add_one,List.getElem?_eq_getElem h,List.map_append,List.sum_append]
 simp
theorem zqk {rl:SM}{i:Nat}:total (rl.take i)<=total rl:=by
 conv=>rhs;rw [<-List.take_append_drop i rl]
 unfold total
 rw [List.map_append,List.sum_append]
 omega
theorem zrr {H:Heap}{fp:List Nat}{rl:SM}(h:z1q H fp rl){i:Nat}{x:List UInt8×BV×Nat}(hi:rl[i]?=some x):x.2.1.1.2.1=x.2.1.2.length:=by
 have:=(h x (List.mem_of_getElem? hi)).1.len
 rw [jl] at this;omega
theorem z4v {w:World}{H:Heap}{fp:List Nat}{p:Nat}{q:Int}{rl:SM}(hw:w.heap=H) (hS:zdf H fp p q rl) (hn:rl.length < 1099511627776) (ht:total rl < 1125899906842624) :
  zy P zfh #[.pointer (some ⟨p,0,none⟩)] w fun e w'=>e=.returned (.int .i64 (total rl:Int))/\w'=w:=by
 obtain⟨x,h1,h2,h3,h4,h5,h6,h7⟩:=hS
 have hxl:=zep h2
 refine zqo ?_
 unfold zkd
 refine jg (fun (s:Int×Int) W=>∃ i:Nat,s=((total (rl.take i):Int),(i:Int))/\i<=rl.length/\W=w) (fun s _=>(rl.length-s.2).toNat) ⟨0,rfl,Nat.zero_le _,rfl⟩ ?_
 rintro _ _ ⟨i,rfl,hi,rfl⟩
 simp only [qg,vg,Nat.zero_add]
 refine je (s:=.slc) (t:=x) hw h1 rfl ?_
 refine zx (fun hlt=>?_) (fun hge=>?_)
 ·have hil:i < rl.length:=by omega
  refine je (s:=.slc) (t:=x) hw h1 rfl ?_
  refine zkv hw h2.cells hxl (List.getElem?_eq_getElem hil) rfl ?_
  have hv:=zrr h5 (List.getElem?_eq_getElem hil)
  have ht1:=z7i hil
  have ht2:=zqk (rl:=rl) (i:=i+1)
  refine jd ((total (rl.take (i+1)):Nat):Int) (by rw [hv];omega) (by omega) (by omega) ?_
  refine jd ((i+1:Nat):Int) (by omega) (by omega) (by omega) ?_
  exact⟨⟨i+1,rfl,by omega,trivial⟩,by omega⟩
 ·have:i=rl.length:=by omega
  subst this
  rw [List.take_length]
  exact⟨rfl,trivial⟩
theorem qgs {w:World}{H:Heap}(hw:w.heap=H){K:(Option Addr×Nat×Nat)->World->Prop}(hK:∀ w',Ext [] H w'.heap->Mine w'.heap H.size qw 1 (some ⟨H.size,0,none⟩,0,0) []->K (some ⟨H.size,0,none⟩,0,0) w'):zaw P (Instr.buildSlice zi 0 #[]) .slc w K:=by
 refine zah (s:=.slc) (some ⟨H.size,0,none⟩,0,0) { w with heap:=H.push (.cells #[] qw) } (by rw [<-hw];kernel_rfl) ?_
 exact hK _ (.push _) (.inr ⟨H.size,#[],rfl,Nat.le_refl _,zk,rfl,rfl,Nat.le_refl _,rfl⟩)
theorem qj1 {w:World}{H:Heap}(hw:w.heap=H){K:(Option Addr×Nat×Nat)->World->Prop}(hK:∀ w',Ext [] H w'.heap->Mine w'.heap H.size za2 33 (some ⟨H.size,0,none⟩,0,0) []->K (some ⟨H.size,0,none⟩,0,0) w'):zaw P (Instr.buildSlice jc 0 #[]) .slc w K:=by
 refine zah (s:=.slc) (some ⟨H.size,0,none⟩,0,0) { w with heap:=H.push (.cells #[] za2) } (by rw [<-hw];kernel_rfl) ?_
 exact hK _ (.push _) (.inr ⟨H.size,#[],rfl,Nat.le_refl _,zk,rfl,rfl,Nat.le_refl _,rfl⟩)
theorem qbu {w:World}{H:Heap}{B:Nat}{a:Option Addr}{l c:Nat}{L:List UInt8}{x:Option Addr×Nat×Nat}(hw:w.heap=H) (hx:Mine H B qw 1 x []) (hB:B<=H.size) (hL:Cells H a (byteCells L)) (hl:l=L.length) (hlen:L.length < 140000000000000){K:(Option Addr×Nat×Nat)->World->Prop}
  (hK:∀ x' w',Mine w'.heap B qw 1 x' (byteCells L)->x'.2.1=L.length->Ext (jk x) H w'.heap->K x' w'):zaw P (Builtin.append_ #[zi,zi] zi #[.slice x.1 x.2.1 x.2.2,.slice a l c]) .slc w K:=by
 subst hl
 have h0:x.2.1=0:=by have:=hx.len;simp at this;omega
 refine zte hw hx hB (Src.slc hw hL (by simp)) jo (by omega) ?_
 intro x2 w2 hO2 hl2 hx2 hm2
 rw [List.nil_append] at hO2
 exact hK x2 w2 hO2 (by omega) hx2
theorem zdf.rise {H:Heap}{fp:List Nat}{p:Nat}{q:Int}{rl:SM}(hS:zdf H fp p q rl):zi1 rl:=by obtain⟨_,_,_,_,_,_,_,h7⟩:=hS;exact h7.rise
theorem zdf.keys {H:Heap}{fp:List Nat}{p:Nat}{q:Int}{rl:SM}(hS:zdf H fp p q rl):(rl.map (·.1)).Nodup:=hS.rise.nodup
set_option maxHeartbeats 2000000 in
theorem qh0 {w:World}{H:Heap}{fp:List Nat}{p:Nat}{q:Int}{rl:SM}{k:List UInt8}(hw:w.heap=H) (hS:zdf H fp p q rl) (hk:k.length=32) (hn:rl.length < 1099511627776) (hlen:∀ L,vw rl k=some L->L.length < 1099511627776) :
  zy P zif #[.pointer (some ⟨p,0,none⟩),arr k] w fun e w'=>∃ x,e=.returned (.tuple #[zb2 x,.int .i64 (got (vw rl k) k)])/\Ext [] H w'.heap /\
   (got (vw rl k) k=0->∃ L,vw rl k=some L/\Mine w'.heap H.size qw 1 x (byteCells L))/\(got (vw rl k) k≠0->x=(none,0,0)):=by
 refine zs7 ?_
 unfold zmn
 refine jm hw fun w1 hw1=>?_
 have hx1:Ext [] H w1.heap:=by rw [hw1];exact .push _
 have hb1:w1.heap[H.size]?=some (.cells (byteCells k).toArray zf (0,0)):=by rw [hw1];exact zk
 have hs1:H.size<=w1.heap.size:=hx1.1
 refine qp rfl hb1 (by simp [byteCells,hk]) ?_
 refine zl (z0w rfl (hS.ext hx1 (by simp)) hk hn) ?_
 rintro e w2 ⟨pre,rest,rfl,hsp,hx2⟩
 refine⟨((pre.length:Int),hit rest k),rfl,?_⟩
 have hx02:=hx1.trans hx2
 cases hh:hit rest k with
 | false=>
  refine zai rfl ?_
  rw [zno hsp hS.rise hh]
  exact⟨(none,0,0),rfl,hx02,(by intro h;simp [got] at h),fun _=>rfl⟩
 | true=>
  refine jr rfl ?_
  obtain⟨y,t,_,_,hvy,hget,hmem⟩:=zqc hsp hS.rise hh
  have hL:=hlen _ hvy
  obtain⟨x,h1,h2,h3,h4,h5,h6,h7⟩:=hS
  have hxl:=zep h2
  have hyl:=zrr h5 hget
  refine jv rfl fun w3 hw3=>?_
  have hx03:Ext [] H w3.heap:=by rw [hw3];exact hx02
  simp only [qg,vg,Nat.zero_add]
  refine je (s:=.slc) (t:=x) rfl (hx03.get h1 (by simp)) rfl ?_
  refine zkv rfl (h2.ext hx03 (by simp)).cells hxl hget rfl ?_
  have hb3:w3.heap[H.size]?=some (.cells (byteCells k).toArray zf (0,0)):=by rw [hw3];exact hx2.get hb1 (by simp)
  refine qp rfl hb3 (by simp [byteCells,hk]) ?_
  refine zl (zpr rfl ((h5 y hmem).1.ext hx03 (by simp)).cells hyl (by omega)) ?_
  rintro e w4 ⟨rfl,hx4⟩
  refine⟨arr (Sha.sum y.2.1.2),rfl,?_⟩
  have hx04:=hx03.trans hx4
  refine⟨qp rfl (hx4.get hb3 (by simp)) (by simp [byteCells,hk]) rfl,?_⟩
  refine qm (s:=.bool) _ (ztb u27 u5 c5 g27 zae hk) ?_
  rw [hvy]
  by_cases e:Sha.sum y.2.1.2=k
  ·refine jr (by simp [e]) ?_
   refine qgs rfl fun w5 hx5 hm5=>?_
   have hx05:=hx04.trans hx5
   refine je (s:=.slc) (t:=x) rfl (hx05.get h1 (by simp)) rfl ?_
   refine zkv rfl (h2.ext hx05 (by simp)).cells hxl hget rfl ?_
   refine qbu rfl hm5 hx5.1 ((h5 y hmem).1.ext hx05 (by simp)).cells hyl (by omega) ?_
   intro x' w6 hm6 hl6 hx6
   refine⟨x',by simp [got,e];rfl,hx05.own hx6 (by intro b hb;have:=hx04.1;simp [jk] at hb;omega),fun _=>⟨_,rfl,hm6.mono hx04.1⟩,fun h=>absurd (by simp [got,e]) h⟩
  ·refine zai (by simp [e]) ?_
   exact⟨(none,0,0),by simp [got,e];rfl,hx04,(by intro h;simp [got,e] at h),fun _=>rfl⟩
def zkg (rl ol:SM):Nat:=((rl.filter fun x=>(vw ol x.1).isNone).map fun x=>x.2.1.2.length).sum
theorem z3a {rl ol:SM}{i:Nat}(h:i < rl.length):zkg (rl.take (i+1)) ol=zkg (rl.take i) ol+if (vw ol (rl[i]).1).isSome then 0 else (rl[i]).2.1.2.length:=by
 unfold zkg
 rw [List.take_add_one,List.getElem?_eq_getElem h,List.filter_append,List.map_append,List.sum_append]
 cases hv:vw ol (rl[i]).1 <;> simp [hv]
theorem z8v {rl ol:SM}:zkg rl ol<=total rl:=by
 induction rl with
 | nil=>simp [zkg]
 | cons x l ih=>
  unfold zkg total at *
  simp only [List.filter_cons,List.map_cons,List.sum_cons]
  split
  ·simp only [List.map_cons,List.sum_cons];omega
  ·omega
theorem qco {w:World}{H:Heap}{fp fo:List Nat}{p o:Nat}{q qo:Int}{rl ol:SM}(hw:w.heap=H) (hS:zdf H fp p q rl) (hO:zdf H fo o qo ol) (hn:rl.length < 1099511627776) (hno:ol.length < 1099511627776) (ht:total rl < 1125899906842624) :
  zy P zg5 #[.pointer (some ⟨p,0,none⟩),.pointer (some ⟨o,0,none⟩)] w fun e w'=>e=.returned (.int .i64 (zkg rl ol:Int))/\Ext [] H w'.heap:=by
 obtain⟨x,h1,h2,h3,h4,h5,h6,h7⟩:=hS
 have hxl:=zep h2
 refine zqn ?_
 unfold zki
 refine jg (fun (s:Int×Int) W=>∃ i:Nat,s=((zkg (rl.take i) ol:Int),(i:Int))/\i<=rl.length/\Ext [] H W.heap) (fun s _=>(rl.length-s.2).toNat) ⟨0,rfl,Nat.zero_le _,by rw [hw];exact .refl _ _⟩ ?_
 rintro _ W ⟨i,rfl,hi,hxW⟩
 simp only [qg,vg,Nat.zero_add]
 refine je (s:=.slc) (t:=x) rfl (hxW.get h1 (by simp)) rfl ?_
 refine zx (fun hlt=>?_) (fun hge=>?_)
 ·have hil:i < rl.length:=by omega
  have hget:=List.getElem?_eq_getElem hil
  have hk:=h7.len _ (List.getElem_mem hil)
  have hv:=zrr h5 hget
  refine joinP_of (fun (s:Int) W2=>s=(zkg (rl.take (i+1)) ol:Int)/\Ext [] H W2.heap) ?_ ?_
  ·refine je (s:=.slc) (t:=x) rfl (hxW.get h1 (by simp)) rfl ?_
   refine zqs rfl (h2.ext hxW (by simp)).cells hxl hget rfl hk ?_
   refine zl (z0w rfl (hO.ext hxW (by simp)) hk hno) ?_
   rintro e W2 ⟨pre,rest,rfl,hsp,hx2⟩
   refine⟨((pre.length:Int),hit rest (rl[i]).1),rfl,?_⟩
   have hns:=z3a (rl:=rl) (ol:=ol) hil
   have hle:=z8v (rl:=rl.take (i+1)) (ol:=ol)
   have hle2:=zqk (rl:=rl) (i:=i+1)
   rw [<-z3m hsp hO.rise] at hns
   cases hh:hit rest (rl[i]).1 with
   | false=>
    rw [hh] at hns
    simp only [Bool.false_eq_true,if_false] at hns
    refine zai rfl ?_
    have hx02:=hxW.trans hx2
    refine je (s:=.slc) (t:=x) rfl (hx02.get h1 (by simp)) rfl ?_
    refine zkv rfl (h2.ext hx02 (by simp)).cells hxl hget rfl ?_
    refine jd ((zkg (rl.take (i+1)) ol:Nat):Int) (by rw [hv];omega) (by omega) (by omega) ?_
    exact⟨rfl,hx02⟩
   | true=>
    rw [hh] at hns
    simp only [if_true,Nat.add_zero] at hns
    refine jr rfl ?_
    exact⟨by rw [hns],hxW.trans hx2⟩
  ·rintro _ W2 ⟨rfl,hx2⟩
   refine jd ((i+1:Nat):Int) (by omega) (by omega) (by omega) ?_
   exact⟨⟨i+1,rfl,by omega,hx2⟩,by omega⟩
 ·have:i=rl.length:=by omega
  subst this
  rw [List.take_length]
  exact⟨rfl,hxW⟩
end Go.Proofs.YtbmegmbnlajbbaaGreatDoor.Bl
