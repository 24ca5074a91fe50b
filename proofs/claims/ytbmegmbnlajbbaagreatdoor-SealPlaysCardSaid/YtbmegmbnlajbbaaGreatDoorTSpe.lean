/- Part 5 of the texts below the card, joined. -/
import Derived.Test.YtbmegmbnlajbbaaGreatDoorTSpd
import Derived.Test.YtbmegmbnlajbbaaGreatDoorTSpc
import Derived.KernelRfl
import Derived.Shelf.SlSortCmp.WholeK
import Derived.Shelf.Small.Bits
import Derived.Test.YtbmegmbnlajbbaaGreatDoorProg
import Derived.Laws.IdiomStrings
import Derived.Laws.AppendOwn
namespace Go.Proofs.YtbmegmbnlajbbaaGreatDoor.Bl
open Go Go.Fw Go.Proofs
theorem qnn:P.cellsOf zah=64:=by kernel_rfl
theorem qfj {w:World} {H:Heap} {t:Nat} (hw:w.heap=H) (ht:t < 64):qj P zme #[.int .i64 (t:Int)] w fun e w'=>e=.returned (.int .u32 ((Sha.K t).toNat:Int))∧Ext [] H w'.heap:=by
 refine zyn ?_
 unfold zl4
 refine qm (s:=.any) (.agg (W32 Sha.K 64)) (by kernel_rfl) ?_
 refine jv hw fun w1 hw1=>?_
 refine zbj (qnn.trans (by simp [Value.cells])) (by simp [Value.cells]) zx8 hw1 zn (by rw [qnz];simp [Value.cells]) fun w2 hw2=>?_
 rw [show setCells (zc P zah) 0 (Value.cells (.agg (W32 Sha.K 64))).toList=W32 Sha.K 64 from by rw [zan (by rw [qnz];simp [Value.cells])];simp [Value.cells]] at hw2
 refine zev t rfl ht ?_
 refine jh hw2 (qw zn) (zm6.at t ht) ?_
 exact ⟨rfl,by rw [hw2];exact (Ext.push _).set_own (.inl (Nat.le_refl _))⟩
theorem i5a:(P.info? qy).map (fun i=>(i.size,i.bytes,i.zero))=some (1,1,some (.int .u8 0)):=by kernel_rfl
theorem i5x:∃ i,P.info? qy=some i∧i.size=1∧i.bytes=1∧i.zero=some (.int .u8 0):=by
 have h:=i5a
 revert h
 cases P.info? qy with
 | none=>intro h;cases h
 | some i=>intro h;simp only [Option.map_some,Option.some.injEq,Prod.mk.injEq] at h;exact ⟨i,rfl,h.1,h.2.1,h.2.2⟩
theorem zw9 {w:World} {H:Heap} {B:Nat} {x:Option Addr × Nat × Nat} {y:Value} {n:Nat} {vs us:List Value} (hw:w.heap=H) (hown:Mine H B qy 1 x vs) (hB:B≤H.size) (hsrc:Src P w y 1 n us) (h1:zcz us)
  (hroom:(2 * (x.2.1+n)+192)≤281474976710656) {K:(Option Addr × Nat × Nat)→World→Prop}
  (hK:∀ x' w',Mine w'.heap B qy 1 x' (vs++us)→x'.2.1=x.2.1+n→Ext (xw x) H w'.heap→(∀ b,b ∈ xw x'→b ∈ xw x ∨ H.size≤b)→K x' w') :
  zal P (Builtin.append_ #[zh,zh] zh #[.slice x.1 x.2.1 x.2.2,y]) .slc w K:=by
 obtain ⟨i,hi,hs,hb,hz⟩:=i5x
 obtain ⟨x',w',h1,hcm,h2,h3,h4,h5⟩:=qdt (ty:=zh) u22 ⟨_,u22,by intro k h;cases h⟩ hi hs hz rfl (by omega) hw hown hB hsrc h1 (by rw [hb];omega)
 exact ⟨x',w',h1,hcm,hK x' w' h2 h3 h4 h5⟩
theorem zyg {w:World} {H0 H:Heap} {B:Nat} {x:Option Addr × Nat × Nat} {D:List UInt8} (b:UInt8) {n:Int} (hn:n=(b.toNat:Int)) (hw:w.heap=H) (hx:Ext [] H0 H) (h0:H0.size≤B) (hown:Mine H B qy 1 x (byteCells D)) (hB:B≤H.size)
  (hl:x.2.1=D.length) (hroom:D.length < 140737488355000) {K:(Option Addr × Nat × Nat)→World→Prop}
  (hK:∀ x' w',Mine w'.heap B qy 1 x' (byteCells (D++[b]))→x'.2.1=(D++[b]).length→Ext [] H0 w'.heap→B≤w'.heap.size→K x' w') :
  zal P (Instr.buildSlice zh 1 #[(0,.int .u8 n)]) .slc w fun t w_1=>zal P (Builtin.append_ #[zh,zh] zh #[.slice x.1 x.2.1 x.2.2,.slice t.1 t.2.1 t.2.2]) .slc w_1 K:=by
 subst hn hw
 refine zad (s:=.slc) (some ⟨w.heap.size,0,none⟩,1,1) _ (qoe _ w) ?_
 have hx1:Ext [] w.heap (w.heap.push (Obj.cells #[Value.int .u8 (b.toNat:Int)] qy)):=.push _
 refine zw9 (w:={ w with heap:=w.heap.push (Obj.cells #[Value.int .u8 (b.toNat:Int)] qy) }) (us:=byteCells [b]) rfl (hown.ext hx1 (by simp)) (by simp;omega) (Src.slc rfl (znf (L:=[b]) (H:=w.heap.push (Obj.cells #[Value.int .u8 (b.toNat:Int)] qy)) zn (by simp) ?_) (by simp [byteCells])) vg (by simp only;omega) ?_
 ·intro i hi
  obtain rfl:i=0:=by simp at hi;omega
  rfl
 intro x' w' h2 h3 h4 h5
 refine hK x' w' ?_ (by rw [h3,hl];simp) ((hx.trans hx1).own h4 fun c hc hlt=>?_) ?_
 ·simpa [byteCells] using h2
 ·have:=jc hown c hc;omega
 ·have:=h4.1;simp at this;omega
def pw (f:Nat→UInt8) (t:Nat):Nat→BitVec 32
 | 0=>0#32
 | j+1=>pw f t j <<< 8 ||| b32 (f (4 * t+j))
theorem qlw (f:Nat→UInt8) (t:Nat):pw f t 4=Sha.word f t:=by
 simp only [pw,Sha.word,BitVec.shiftLeft_or_distrib,← BitVec.shiftLeft_add,BitVec.zero_shiftLeft,BitVec.zero_or,Nat.add_zero,Nat.reduceAdd]
def sh (V:Nat→BitVec 32) (j:Nat):Nat→BitVec 32:=fun i=>if i≤j then V i else V (i - 1)
set_option maxHeartbeats 8000000 in
theorem zus {w:World} {H:Heap} {a:Option Addr} {l lc:Nat} {L:List UInt8} (hw:w.heap=H) (hL:Cells H a (byteCells L)) (hl:l=L.length) (hlen:L.length < 140737488351233) :
  qj P zkc #[.slice a l lc] w fun e w'=>e=.returned (arr (Sha.sum L))∧Ext [] H w'.heap:=by
 subst hl
 refine qeb ?_
 unfold zyi
 refine jv hw fun w1 hw1=>?_
 generalize hH1:H.push (Obj.cells (zc P zf) zf (0,0))=H1 at *
 have hs1:H1.size=H.size+1:=by rw [← hH1];simp
 have hx1:Ext [] H H1:=by rw [← hH1];exact .push _
 have h2:H1[H.size]?=some (.cells (zc P zf) zf (0,0)):=by rw [← hH1];exact zn
 refine zad (s:=.slc) (some ⟨H1.size,0,none⟩,0,0) { w1 with heap:=H1.push (.cells #[] qy) } (by rw [← hw1];kernel_rfl) ?_
 have hxp:Ext [] H1 (H1.push (.cells #[] qy)):=.push _
 have hO:Mine (H1.push (.cells #[] qy)) H1.size qy 1 (some ⟨H1.size,0,none⟩,0,0) []:=.inr ⟨H1.size,#[],rfl,Nat.le_refl _,zn,rfl,rfl,Nat.le_refl _,rfl⟩
 refine zw9 (w:={ w1 with heap:=H1.push (.cells #[] qy) }) rfl hO (by simp) (Src.slc rfl ((hL.ext hx1 (by simp)).ext hxp (by simp)) (by simp [byteCells])) vg (by simp only;omega) ?_
 intro x2 w2 hO2 hl2 hx2 hm2
 simp only [Nat.zero_add] at hl2
 rw [List.nil_append] at hO2
 have hx12:Ext [] H1 w2.heap:=hxp.own hx2 (by intro b hb;simp [xw] at hb;omega)
 refine zyg 128 rfl rfl hx12 (Nat.le_refl _) hO2 hx12.1 hl2 (by omega) ?_
 intro x3 w3 hO3 hl3 hx3 hB3
 refine ztz (fun m (x:Option Addr × Nat × Nat) w=>∃ (j:Nat),j+m=(119 - L.length % 64) % 64∧Mine w.heap H1.size qy 1 x (byteCells (L++[128]++List.replicate j 0))∧x.2.1=L.length+1+j∧Ext [] H1 w.heap∧H1.size≤w.heap.size)
  ((119 - L.length % 64) % 64) ⟨0,by omega,by simpa using hO3,by simpa using hl3,hx3,hB3⟩ ?_
 clear hO3 hl3 hx3 hB3 hx12 hx2 hm2 hO2 hl2
 rintro m x4 w4 ⟨j,hj,hO4,hl4,hx4,hB4⟩ K hK
 have hlj:(L++[128]++List.replicate j (0:UInt8)).length=L.length+1+j:=by simp only [List.length_append,List.length_singleton,List.length_replicate]
 refine z3f (L.length+1+j) 64 (by rw [hl4]) rfl (by omega) ?_
 refine zb1 (fun hne=>?_) (fun h56=>?_)
 ·have hjlt:j < (119 - L.length % 64) % 64:=by omega
  refine zyg 0 rfl rfl hx4 (Nat.le_refl _) hO4 hB4 (by rw [hl4,hlj]) (by rw [hlj];omega) ?_
  intro x5 w5 hO5 hl5 hx5 hB5
  have hrep:L++[128]++List.replicate j 0++[0]=L++[128]++List.replicate (j+1) 0:=by
   rw [List.append_assoc,← List.replicate_succ']
  rw [hrep] at hO5
  refine hK (m - 1) _ _ (by omega) ⟨j+1,by omega,hO5,?_,hx5,hB5⟩
  rw [hl5,List.length_append,hlj];simp;omega
 have hjz:j=(119 - L.length % 64) % 64:=by omega
 subst hjz
 clear hK K h56 hj
 refine zp0 (by omega) (by omega) ?_
 refine qkd ((8 * L.length:Nat):Int) (by omega) (by omega) (by omega) ?_
 generalize hD:L++[128]++List.replicate ((119 - L.length % 64) % 64) (0:UInt8)=D at *
 refine jd (fun (s:(Option Addr × Nat × Nat) × Int) w=>∃ (i:Nat),s.2=(i:Int)∧i≤8∧Mine w.heap H1.size qy 1 s.1 (byteCells (D++(Sha.be8 (L.length * 8)).take i))∧s.1.2.1=D.length+i∧Ext [] H1 w.heap∧H1.size≤w.heap.size)
  (fun s _=>(8 - s.2).toNat) ⟨0,rfl,by omega,by simpa using hO4,by rw [hl4,hlj];rfl,hx4,hB4⟩ ?_
 clear hO4 hl4 hx4 hB4
 rintro ⟨x5,_⟩ w5 ⟨i,rfl,hi,hO5,hl5,hx5,hB5⟩
 have hli:(D++(Sha.be8 (L.length * 8)).take i).length=D.length+i:=by simp [Sha.be8];omega
 refine zq (fun hlt=>?_) (fun hge=>?_)
 ·have hlt:i < 8:=by simp only at hlt;omega
  refine zfq ((8 * i:Nat):Int) (by simp only;omega) (by omega) (by omega) ?_
  refine zbu ((56 - 8 * i:Nat):Int) (by omega) (by omega) (by omega) ?_
  refine zp0 (by omega) (by omega) ?_
  refine qmq (56 - 8 * i) rfl (by omega) ?_
  refine cv8 ?_
  refine zyg (UInt8.ofNat (8 * L.length / 2 ^ (56 - 8 * i))) rfl rfl hx5 (Nat.le_refl _) hO5 hB5 (by rw [hli];exact hl5) (by rw [hli];omega) ?_
  intro x6 w6 hO6 hl6 hx6 hB6
  have ht:(Sha.be8 (L.length * 8)).take i++[UInt8.ofNat (8 * L.length / 2 ^ (56 - 8 * i))]=(Sha.be8 (L.length * 8)).take (i+1):=by
   rw [List.take_add_one,show (Sha.be8 (L.length * 8))[i]?=some (UInt8.ofNat (8 * L.length / 2 ^ (56 - 8 * i))) from by simp [Sha.be8,hlt,Nat.mul_comm]]
   rfl
  rw [List.append_assoc,ht] at hO6
  refine xu ((i+1:Nat):Int) (by simp only;omega) (by omega) (by omega) ?_
  refine ⟨⟨i+1,rfl,by omega,hO6,?_,hx6,hB6⟩,by simp only;omega⟩
  rw [hl6,List.length_append,hli];simp;omega
 have hi8:i=8:=by simp only at hge;omega
 subst hi8
 clear hge hi
 have hpad:D++(Sha.be8 (L.length * 8)).take 8=Sha.pad L:=by
  rw [List.take_of_length_le (by simp [Sha.be8])]
  rw [← hD];rfl
 rw [hpad] at hO5 hli
 simp only at hl5
 generalize hM:Sha.pad L=M at *
 have hM64:M.length % 64=0:=by rw [hli];omega
 have hlM:M.length < 140737488351233+200:=by rw [hli];omega
 obtain ⟨xa,xl,xc⟩:=x5
 obtain ⟨bb,o,cm,Tm,frm,hxa,hbm,hcm,hbs⟩:=hO5.cells.bytes (by intro h;rw [h] at hli;simp at hli)
 simp only at hl5 hxa
 obtain rfl:xl=M.length:=by omega
 subst hxa
 clear hO5
 generalize hHp:w5.heap=Hp at *
 have h2p:=hx5.get h2 (by simp)
 have hxp0:Ext [] H Hp:=hx1.trans hx5
 have hs2:H.size < Hp.size:=lt_of_get h2p
 have hbmp:=lt_of_get hbm
 clear hx5 hB5 hO hxp
 refine qm (s:=.any) _ (qcd w5) ?_
 refine jv hHp fun w6 hw6=>?_
 refine zbj (qcl.trans (by simp [Value.cells])) (by simp [Value.cells]) zx8 hw6 zn (by rw [ql5];simp [Value.cells]) fun w7 hw7=>?_
 rw [show setCells (zc P jo) 0 (Value.cells (.agg (W32 Sha.init 8))).toList=W32 Sha.init 8 from by rw [zan (by rw [ql5];simp [Value.cells])];simp [Value.cells]] at hw7
 refine jv hw7 fun w8 hw8=>?_
 generalize hb7:((Hp.push (Obj.cells (zc P jo) jo (0,0))).setIfInBounds Hp.size (.cells (W32 Sha.init 8) jo (0,0))).size=b7 at *
 have hb7':b7=Hp.size+1:=by rw [← hb7];simp
 generalize hH8:((Hp.push (Obj.cells (zc P jo) jo (0,0))).setIfInBounds Hp.size (.cells (W32 Sha.init 8) jo (0,0))).push (Obj.cells (zc P zah) zah (0,0))=H8 at *
 have hx8:Ext [] Hp H8:=by rw [← hH8];exact ((Ext.push _).set_own (.inl (Nat.le_refl _))).push_own
 have h6:H8[Hp.size]?=some (.cells (W32 Sha.init 8) jo (0,0)):=by rw [← hH8];exact zeg (qw zn)
 have h7:H8[b7]?=some (.cells (zc P zah) zah (0,0)):=by rw [← hH8,← hb7];exact zn
 refine jd (fun s w=>∃ (k:Nat) (H':Heap) (c6 c7:Array Value),s=((64 * k:Nat):Int)∧k≤M.length / 64∧w.heap=H'∧Ext [] Hp H'∧H'[Hp.size]?=some (.cells c6 jo (0,0))∧c6.size=8∧Words c6 0 (Sha.blocks M k) 8 ∧
   H'[b7]?=some (.cells c7 zah (0,0))∧c7.size=64)
  (fun s _=>((M.length:Int) - s).toNat) ⟨0,_,_,_,rfl,by omega,hw8,hx8,h6,by simp,zm6,h7,by rw [qnz];simp⟩ ?_
 clear hx8 h6 h7 hw8 hH8 hw7 hw6 hb7
 rintro _ w9 ⟨k,H9,c6,c7,rfl,hk,hw9,hx9,h6,hs6,hV6,h7,hs7⟩
 refine zq (fun hlt=>?_) (fun hge=>?_)
 ·have hk:64 * k+64≤M.length:=by simp only at hlt;omega
  clear hlt
  generalize hf:(fun j=>Sha.nth M (64 * k+j))=f
  have hfa:∀ j,Sha.nth M (64 * k+j)=f j:=fun j=>by rw [← hf]
  refine jd (fun s w=>∃ (t:Nat) (H':Heap) (c7:Array Value),s=(t:Int)∧t≤64∧w.heap=H'∧Ext [b7] H9 H'∧H'[b7]?=some (.cells c7 zah (0,0))∧c7.size=64∧Words c7 0 (Sha.W (Sha.word f)) t)
   (fun s _=>(64 - s).toNat) ⟨0,_,_,rfl,by omega,hw9,.refl _ _,h7,hs7,fun i hi=>by omega⟩ ?_
  clear h7 hs7 hw9 c7
  rintro _ w10 ⟨t,H10,c7,rfl,ht,hw10,hx10,h7,hs7,hW⟩
  refine zq (fun hlt=>?_) (fun hge=>?_)
  ·have hlt:t < 64:=by omega
   refine zac ?_
   refine zac ?_
   refine zq (fun hlt16=>?_) (fun hge16=>?_)
   ·have hlt16:t < 16:=by omega
    refine zev t rfl (by omega) ?_
    refine zcd hw10 h7 (by omega) fun w11 hw11=>?_
    refine jd (fun s w=>∃ (j:Nat) (H':Heap) (c7:Array Value),s=(j:Int)∧j≤4∧w.heap=H'∧Ext [b7] H9 H'∧H'[b7]?=some (.cells c7 zah (0,0))∧c7.size=64∧Words c7 0 (Sha.W (Sha.word f)) t∧c7[t]?=some (.int .u32 ((pw f t j).toNat:Int)))
     (fun s _=>(4 - s).toNat) ⟨0,_,_,rfl,by omega,hw11,hx10.set_own (.inr (by simp)),qw h7,by simpa using hs7,(hW.put t (by omega) 0).congr (fun i hi=>by simp only [if_neg (show ¬ i=t by omega)]),by simp [pw,show t < c7.size by omega]⟩ ?_
    clear hw11 hw10 hx10 h7 hs7 hW c7
    rintro _ w12 ⟨j,H12,c7,rfl,hj,hw12,hx12,h7,hs7,hW,hpw⟩
    refine zq (fun hltj=>?_) (fun hgej=>?_)
    ·have hltj:j < 4:=by omega
     refine jw hw12 fun w13 hw13=>?_
     refine zev t rfl (by omega) ?_
     refine zfq ((4 * t:Nat):Int) (by omega) (by omega) (by omega) ?_
     refine xu ((64 * k+4 * t:Nat):Int) (by omega) (by omega) (by omega) ?_
     refine xu ((64 * k+4 * t+j:Nat):Int) (by omega) (by omega) (by omega) ?_
     refine zqz (64 * k+4 * t+j) rfl (by simp only;omega) ?_
     refine jh hw13 h7 hpw ?_
     refine ql2 _ 8 rfl (by omega) ?_
     refine jh hw13 ((hx12.get (hx9.get hbm (by simp)) (by simp;omega))) (hbs (64 * k+4 * t+j) (by omega)) ?_
     refine cvB ?_
     refine orW _ _ ?_
     refine zev t rfl (by omega) ?_
     refine zcd hw13 h7 (by omega) fun w14 hw14=>?_
     refine xu ((j+1:Nat):Int) (by omega) (by omega) (by omega) ?_
     refine ⟨⟨j+1,_,_,rfl,by omega,hw14,hx12.set_own (.inr (by simp)),qw h7,by simpa using hs7,(hW.put t (by omega) _).congr (fun i hi=>by simp only [if_neg (show ¬ i=t by omega)]),?_⟩,by omega⟩
     have hfj:f (4 * t+j)=M.getD (64 * k+4 * t+j) 0:=by rw [← hfa,Nat.add_assoc];rfl
     rw [Array.getElem?_setIfInBounds_self_of_lt (by omega)]
     simp only [pw,hfj]
    have hj4:j=4:=by omega
    subst hj4
    refine xu ((t+1:Nat):Int) (by omega) (by omega) (by omega) ?_
    refine ⟨⟨t+1,_,_,rfl,by omega,hw12,hx12,h7,hs7,?_⟩,by omega⟩
    intro i hi
    by_cases hit:i < t
    ·exact hW i hit
    ·obtain rfl:i=t:=by omega
     rw [Nat.zero_add,hpw,qlw,Sha.W_lt hlt16]
   ·refine zbu ((t - 2:Nat):Int) (by omega) (by omega) (by omega) ?_
    refine zev (t - 2) rfl (by omega) ?_
    refine jh hw10 h7 (hW.at (t - 2) (by omega)) ?_
    refine zbu ((t - 15:Nat):Int) (by omega) (by omega) (by omega) ?_
    refine zev (t - 15) rfl (by omega) ?_
    refine jh hw10 h7 (hW.at (t - 15) (by omega)) ?_
    refine jw hw10 fun w11 hw11=>?_
    refine qif _ 10 rfl (by omega) ?_
    refine zbu ((t - 7:Nat):Int) (by omega) (by omega) (by omega) ?_
    refine zev (t - 7) rfl (by omega) ?_
    refine qif _ 3 rfl (by omega) ?_
    refine zbu ((t - 16:Nat):Int) (by omega) (by omega) (by omega) ?_
    refine zev (t - 16) rfl (by omega) ?_
    refine zbb (l:=[.int .u32]) _ (zq8 _ 17 rfl (by omega) (by omega) _) ?_
    refine zbb (l:=[.int .u32]) _ (zq8 _ 19 rfl (by omega) (by omega) _) ?_
    refine z0f _ _ ?_
    refine z0f _ _ ?_
    refine jh hw11 h7 (hW.at (t - 7) (by omega)) ?_
    refine z0c _ _ ?_
    refine zbb (l:=[.int .u32]) _ (zq8 _ 7 rfl (by omega) (by omega) _) ?_
    refine zbb (l:=[.int .u32]) _ (zq8 _ 18 rfl (by omega) (by omega) _) ?_
    refine z0f _ _ ?_
    refine z0f _ _ ?_
    refine z0c _ _ ?_
    refine jh hw11 h7 (hW.at (t - 16) (by omega)) ?_
    refine z0c _ _ ?_
    refine zev t rfl (by omega) ?_
    refine zcd hw11 h7 (by omega) fun w12 hw12=>?_
    refine xu ((t+1:Nat):Int) (by omega) (by omega) (by omega) ?_
    refine ⟨⟨t+1,_,_,rfl,by omega,hw12,hx10.set_own (.inr (by simp)),qw h7,by simpa using hs7,?_⟩,by omega⟩
    exact hW.snoc (by omega) (by rw [Sha.W_ge (show 16≤t by omega)])
  have ht64:t=64:=by omega
  subst ht64
  clear hge ht
  have h6':=hx10.get h6 (by simp;omega)
  refine zre hw10 h6' (by omega) ?_
  rw [hV6.extract (by omega)]
  refine jv hw10 fun w11 hw11=>?_
  refine zbj (qcl.trans (by simp [Value.cells])) (by simp [Value.cells]) zx8 hw11 zn (by rw [ql5];simp [Value.cells]) fun w12 hw12=>?_
  rw [show setCells (zc P jo) 0 (Value.cells (.agg (W32 (Sha.blocks M k) 8))).toList=W32 (Sha.blocks M k) 8 from by rw [zan (by rw [ql5];simp [Value.cells])];simp [Value.cells]] at hw12
  have hb7l:=lt_of_get h7
  generalize hs:Sha.blocks M k=s at *
  refine jd (fun s' w=>∃ (t:Nat) (H':Heap) (c8:Array Value),s'=(t:Int)∧t≤64∧w.heap=H'∧Ext [] H10 H'∧H'[H10.size]?=some (.cells c8 jo (0,0))∧c8.size=8∧Words c8 0 (Sha.rnd (Sha.W (Sha.word f)) s t) 8)
   (fun s _=>(64 - s).toNat) ⟨0,_,_,rfl,by omega,hw12,(Ext.push _).set_own (.inl (Nat.le_refl _)),qw zn,by simp,zm6⟩ ?_
  clear hw12 hw11
  rintro _ w13 ⟨t,H13,c8,rfl,ht,hw13,hx13,hc8,hs8,hV⟩
  refine zq (fun hlt=>?_) (fun hge=>?_)
  ·have hlt:t < 64:=by omega
   have h7':=hx13.get h7 (by simp)
   generalize hVs:Sha.rnd (Sha.W (Sha.word f)) s t=V at *
   refine jh hw13 hc8 (hV.at 4 (by omega)) ?_
   refine jh hw13 hc8 (hV.at 0 (by omega)) ?_
   refine jw hw13 fun w14 hw14=>?_
   refine qjn _ ?_
   refine zev t rfl (by omega) ?_
   refine jh hw14 hc8 (hV.at 7 (by omega)) ?_
   refine zbb (l:=[.int .u32]) _ (zq8 _ 6 rfl (by omega) (by omega) _) ?_
   refine zbb (l:=[.int .u32]) _ (zq8 _ 11 rfl (by omega) (by omega) _) ?_
   refine z0f _ _ ?_
   refine zbb (l:=[.int .u32]) _ (zq8 _ 25 rfl (by omega) (by omega) _) ?_
   refine z0f _ _ ?_
   refine z0c _ _ ?_
   refine jh hw14 hc8 (hV.at 5 (by omega)) ?_
   refine qib _ _ ?_
   refine jh hw14 hc8 (hV.at 6 (by omega)) ?_
   refine qib _ _ ?_
   refine z0f _ _ ?_
   refine z0c _ _ ?_
   refine jh hw14 h7' (hW.at t (by omega)) ?_
   refine zl (l:=[.int .u32]) (qfj hw14 hlt) ?_
   rintro e w15 ⟨rfl,hx15⟩
   refine ⟨((Sha.K t).toNat:Int),rfl,?_⟩
   generalize hH15:w15.heap=H15 at *
   have hc15:=hx15.get hc8 (by simp)
   refine ⟨jh hH15 (hx15.get h7' (by simp)) (hW.at t (by omega)) rfl,jh hH15 hc15 (hV.at 6 (by omega)) rfl,jh hH15 hc15 (hV.at 5 (by omega)) rfl,jh hH15 hc15 (hV.at 7 (by omega)) rfl,?_⟩
   refine z0c _ _ ?_
   refine z0c _ _ ?_
   refine jw hH15 fun w16 hw16=>?_
   refine zbb (l:=[.int .u32]) _ (zq8 _ 2 rfl (by omega) (by omega) _) ?_
   refine zbb (l:=[.int .u32]) _ (zq8 _ 13 rfl (by omega) (by omega) _) ?_
   refine z0f _ _ ?_
   refine zbb (l:=[.int .u32]) _ (zq8 _ 22 rfl (by omega) (by omega) _) ?_
   refine z0f _ _ ?_
   refine jh hw16 hc15 (hV.at 1 (by omega)) ?_
   refine qib _ _ ?_
   refine jh hw16 hc15 (hV.at 2 (by omega)) ?_
   refine qib _ _ ?_
   refine z0f _ _ ?_
   refine jh hw16 hc15 (hV.at 1 (by omega)) ?_
   refine jh hw16 hc15 (hV.at 2 (by omega)) ?_
   refine qib _ _ ?_
   refine z0f _ _ ?_
   refine z0c _ _ ?_
   refine jd (fun s' w=>∃ (j:Nat) (H':Heap) (c8:Array Value),s'=(j:Int)∧j≤7∧w.heap=H'∧Ext [] H10 H'∧H'[H10.size]?=some (.cells c8 jo (0,0))∧c8.size=8∧Words c8 0 (sh V j) 8)
    (fun s _=>s.toNat) ⟨7,_,_,rfl,by omega,hw16,hx13.trans hx15,hc15,hs8,hV.congr fun i hi=>by simp only [sh,if_pos (show i≤7 by omega)]⟩ ?_
   clear hc15 hw16 hx15 hx13 hc8 hs8 hV hH15 hw14 hw13 h7' c8
   rintro _ w17 ⟨j,H17,c8,rfl,hj,hw17,hx17,hc8,hs8,hV⟩
   refine zq (fun hltj=>?_) (fun hgej=>?_)
   ·have hltj:0 < j:=by omega
    refine zbu ((j - 1:Nat):Int) (by omega) (by omega) (by omega) ?_
    refine zev (j - 1) rfl (by omega) ?_
    refine jh hw17 hc8 (hV.at (j - 1) (by omega)) ?_
    refine zev j rfl (by omega) ?_
    refine zcd hw17 hc8 (by omega) fun w18 hw18=>?_
    refine zbu ((j - 1:Nat):Int) (by omega) (by omega) (by omega) ?_
    refine ⟨⟨j - 1,_,_,rfl,by omega,hw18,hx17.set_own (.inl (Nat.le_refl _)),qw hc8,by simpa using hs8,(hV.put j (by omega) _).congr fun i hi=>?_⟩,by omega⟩
    simp only [sh]
    by_cases e:i=j
    ·subst e;simp only [if_true,if_pos (show i - 1≤i by omega),if_neg (show ¬ i≤i - 1 by omega)]
    ·simp only [if_neg e]
     by_cases e2:i≤j
     ·rw [if_pos e2,if_pos (by omega)]
     ·rw [if_neg e2,if_neg (by omega)]
   have hj0:j=0:=by omega
   subst hj0
   refine jh hw17 hc8 (hV.at 4 (by omega)) ?_
   refine z0c _ _ ?_
   refine zcd hw17 hc8 (by omega) fun w18 hw18=>?_
   refine z0c _ _ ?_
   refine zcd hw18 (qw hc8) (by simp;omega) fun w19 hw19=>?_
   rw [set_set] at hw19
   refine xu ((t+1:Nat):Int) (by omega) (by omega) (by omega) ?_
   refine ⟨⟨t+1,_,_,rfl,by omega,hw19,hx17.set_own (.inl (Nat.le_refl _)),qw hc8,by simpa using hs8,((hV.put 4 (by omega) _).put 0 (by simp;omega) _).congr fun i hi=>?_⟩,by omega⟩
   simp only [Sha.rnd,hVs]
   match i,hi with
   | 0,_=>rfl
   | 1,_=>rfl
   | 2,_=>rfl
   | 3,_=>rfl
   | 4,_=>rfl
   | 5,_=>rfl
   | 6,_=>rfl
   | 7,_=>rfl
  have ht64:t=64:=by omega
  subst ht64
  clear hge ht
  have h613:=hx13.get h6' (by simp)
  have hne:Hp.size ≠ H10.size:=by have:=lt_of_get h6';omega
  have hx913:Ext [] Hp H13:=hx9.own (hx10.trans (hx13.mono (by simp))) (by simp;omega)
  have h713:=hx13.get h7 (by simp)
  refine jd (fun s' w=>∃ (t:Nat) (H':Heap) (c':Array Value),s'=(t:Int)∧t≤8∧w.heap=H'∧Ext [] Hp H'∧H'[Hp.size]?=some (.cells c' jo (0,0))∧c'.size=8∧H'[H10.size]?=some (.cells c8 jo (0,0)) ∧
    Words c' 0 (Sha.comp s (Sha.word f)) t∧(∀ i,t≤i→c'[i]?=c6[i]?)∧H'[b7]?=some (.cells c7 zah (0,0)))
   (fun s _=>(8 - s).toNat) ⟨0,_,_,rfl,by omega,hw13,hx913,h613,hs6,hc8,fun i hi=>by omega,fun i _=>rfl,h713⟩ ?_
  rintro _ w14 ⟨t,H14,c',rfl,ht,hw14,hx14,hH14,hsz14,hc84,hV14,hold,h714⟩
  refine zq (fun hlt=>?_) (fun hge=>?_)
  ·have hlt:t < 8:=by omega
   refine jw hw14 fun w15 hw15=>?_
   refine zev t rfl (by omega) ?_
   refine zev t rfl (by omega) ?_
   refine jh hw15 hH14 ((hold t (Nat.le_refl _)).trans (hV6.at t (by omega))) ?_
   refine jh hw15 hc84 (hV.at t (by omega)) ?_
   refine z0c _ _ ?_
   refine zev t rfl (by omega) ?_
   refine zcd hw15 hH14 (by omega) fun w16 hw16=>?_
   refine xu ((t+1:Nat):Int) (by omega) (by omega) (by omega) ?_
   refine ⟨⟨t+1,_,_,rfl,by omega,hw16,hx14.set_own (.inl (Nat.le_refl _)),qw hH14,by simpa using hsz14,zh3 hc84 (Ne.symm hne),hV14.snoc (by omega) rfl,?_,zh3 h714 (by omega)⟩,by omega⟩
   intro i hi
   rw [Array.getElem?_setIfInBounds_ne (by omega)]
   exact hold i (by omega)
  have ht8:t=8:=by omega
  subst ht8
  refine xu ((64 * (k+1):Nat):Int) (by omega) (by omega) (by omega) ?_
  refine ⟨⟨k+1,_,_,_,rfl,by omega,hw14,hx14,hH14,hsz14,?_,h714,hs7⟩,by omega⟩
  simp only [Sha.blocks,hs,hf]
  exact hV14
 have hkM:k=M.length / 64:=by simp only at hge;omega
 subst hkM
 refine jv hw9 fun w10 hw10=>?_
 generalize hs:Sha.blocks M (M.length / 64)=s at *
 refine jd (fun s' w=>∃ (i:Nat) (H':Heap) (c7:Array Value),s'=(i:Int)∧i≤32∧w.heap=H'∧Ext [] H9 H'∧H'[H9.size]?=some (.cells c7 zf (0,0))∧c7.size=32∧Bytes c7 0 (Sha.out s) i)
  (fun s _=>(32 - s).toNat) ⟨0,_,_,rfl,by omega,hw10,.push _,zn,by rw [qdj];simp,fun i hi=>by omega⟩ ?_
 rintro _ w11 ⟨i,H11,c9,rfl,hi,hw11,hx11,hp11,hsz11,hB11⟩
 refine zq (fun hlt=>?_) (fun hge=>?_)
 ·have hlt:i < 32:=by omega
  refine zyl i 4 rfl rfl (by omega) (by omega) ?_
  refine zev (i / 4) rfl (by omega) ?_
  refine jh hw11 (hx11.get h6 (by simp)) (hV6.at (i / 4) (by omega)) ?_
  refine z3f i 4 rfl rfl (by omega) ?_
  refine zfq ((8 * (i % 4):Nat):Int) (by omega) (by omega) (by omega) ?_
  refine zbu ((24 - 8 * (i % 4):Nat):Int) (by omega) (by omega) (by omega) ?_
  refine zp0 (by omega) (by omega) ?_
  refine qif _ (24 - 8 * (i % 4)) rfl (by omega) ?_
  refine cvL _ ?_
  refine zev i rfl (by omega) ?_
  refine zcd hw11 hp11 (by omega) fun w12 hw12=>?_
  refine xu ((i+1:Nat):Int) (by omega) (by omega) (by omega) ?_
  exact ⟨⟨i+1,_,_,rfl,by omega,hw12,hx11.set_own (.inl (Nat.le_refl _)),qw hp11,by simpa using hsz11,hB11.snoc (by omega) rfl⟩,by omega⟩
 have hi32:i=32:=by omega
 subst hi32
 refine je hw11 hp11 hsz11 ?_
 have hc7:c9=B8 (Sha.out s) 32:=by
  have:=hB11.extract (by omega)
  rw [← this]
  exact (Array.extract_eq_self_of_le (by omega)).symm
 subst hc7
 have h211:H11[H.size]?=some (.cells (zc P zf) zf (0,0)):=hx11.get (hx9.get h2p (by simp)) (by simp)
 refine zbj (z2c.trans (by simp [Value.cells])) (by simp [Value.cells]) qkf hw11 h211 (by rw [qdj];simp [Value.cells]) fun w12 hw12=>?_
 rw [show setCells (zc P zf) 0 (Value.cells (.agg (B8 (Sha.out s) 32))).toList=B8 (Sha.out s) 32 from by rw [zan (by rw [qdj];simp [Value.cells])];simp [Value.cells]] at hw12
 refine je hw12 (qw h211) (by simp) ?_
 refine ⟨?_,?_⟩
 ·unfold arr Sha.sum B8 byteCells
  rw [hM,hs]
  simp
 ·rw [hw12]
  exact ((hxp0.trans hx9).trans hx11).set_own (.inl (Nat.le_refl _))
theorem u27:P.underlying zf=some (.array 32 qy):=by kernel_rfl
theorem u5:P.underlying qy=some (.int .u8):=by kernel_rfl
theorem c5:P.cellsOf qy=1:=by kernel_rfl
theorem g27:P.eqGuardType P.depth zf=false:=by kernel_rfl
theorem u57:P.underlying zaa=some (.map zf zh):=by kernel_rfl
theorem z22 (w:World):(zeroValue zh).run P w=.ok (.slice none 0 0) w:=by kernel_rfl
theorem K27:KeyOk P zf (List UInt8) (fun L=>L.length=32) arr:=.arr u27 u5 c5
theorem b27 (w:World):(Instr.build zf #[]).run P w=.ok (arr (List.replicate 32 0)) w:=by kernel_rfl
theorem b59 (a:Int) (m:Option Nat) (w:World):(Instr.build ziq #[(0,.int .i64 a),(2,.map m)]).run P w=.ok (.agg #[.int .i64 a,.int .i64 0,.map m]) w:=by kernel_rfl
abbrev BV:=(Option Addr × Nat × Nat) × List UInt8
abbrev SM:=ML (List UInt8) BV
def bv (x:BV):Value:=zcr x.1
def total (r:SM):Nat:=(r.map fun x=>x.2.1.2.length).sum
def zay (r:SM) (k:List UInt8):Option (List UInt8):=(zcj r k).map (·.2)
def qaj (H:Heap) (fp:List Nat) (r:SM):Prop:=∀ x ∈ r,Mine H 0 qy 1 x.2.1.1 (byteCells x.2.1.2)∧∀ b ∈ xw x.2.1.1,b ∈ fp
def Apart (r:SM):Prop:=∀ x ∈ r,∀ y ∈ r,x.1 ≠ y.1→∀ b ∈ xw x.2.1.1,b ∉ xw y.2.1.1
def Store (H:Heap) (fp:List Nat) (p:Nat) (q:Int) (r:SM) (c:Nat):Prop :=
 ∃ m,H[p]?=some (.cells #[.int .i64 q,.int .i64 (total r:Int),.map (some m)] ziq (0,0))∧H[m]?=some (.map (ents arr (vl bv r)) c)∧MOk (fun L=>L.length=32) r c∧p ∈ fp∧m ∈ fp∧qaj H fp r∧Apart r
theorem qaj.ext {M fp:List Nat} {H H':Heap} {r:SM} (h:qaj H fp r) (hx:Ext M H H') (hM:∀ b ∈ fp,b ∉ M):qaj H' fp r :=
 fun x hxr=>⟨(h x hxr).1.ext hx fun b hb=>hM b ((h x hxr).2 b hb),(h x hxr).2⟩
theorem Store.ext {M fp:List Nat} {H H':Heap} {p:Nat} {q:Int} {r:SM} {c:Nat} (h:Store H fp p q r c) (hx:Ext M H H') (hM:∀ b ∈ fp,b ∉ M):Store H' fp p q r c:=by
 obtain ⟨m,h1,h2,h3,h4,h5,h6,h7⟩:=h
 exact ⟨m,hx.get h1 (hM p h4),hx.get h2 (hM m h5),h3,h4,h5,h6.ext hx hM,h7⟩
theorem Store.lt {fp:List Nat} {H:Heap} {p:Nat} {q:Int} {r:SM} {c:Nat} (h:Store H fp p q r c):p < H.size:=by
 obtain ⟨m,h1,_⟩:=h;exact lt_of_get h1
theorem qbq {w:World} {H:Heap} (q:Int) (hw:w.heap=H):qj P zm7 #[.int .i64 q] w fun e w'=>∃ p fp,e=.returned (.pointer (some ⟨p,0,none⟩))∧Store w'.heap fp p (max q 0) [] 0∧Ext [] H w'.heap∧∀ b ∈ fp,H.size≤b∧b < w'.heap.size:=by
 refine qax ?_
 unfold zvs
 refine qm (s:=.int .i64) (max q 0) ?_ ?_
 ·rw [run_max_int2]
  congr 2
  show (if (0:Int) > q then 0 else q)=max q 0
  split <;> omega
 refine zad (s:=.map) (some H.size) _ (zui hw) ?_
 refine qm (s:=.any) _ (b59 _ _ _) ?_
 refine jv (H:=H.push (.map #[] 0)) rfl fun w2 hw2=>?_
 refine ⟨(H.push (.map #[] 0)).size,[(H.push (.map #[] 0)).size,H.size],rfl,⟨H.size,?_,?_,.nil,by simp,by simp,(by intro x hx;cases hx),(by intro x hx;cases hx)⟩,?_,by rw [hw2];simp;omega⟩
 ·rw [hw2];exact zn
 ·rw [hw2];exact zeg zn
 ·rw [hw2];exact (Ext.push _).push_own
theorem qg7 {w:World} {H:Heap} {a:Option Addr} {l lc:Nat} {L:List UInt8} (hw:w.heap=H) (hL:Cells H a (byteCells L)) (hl:l=L.length) (hlen:L.length < 140000000000000) :
  qj P zck #[.slice a l lc] w fun e w'=>∃ x,e=.returned (zcr x)∧Mine w'.heap H.size qy 1 x (byteCells L)∧Ext [] H w'.heap:=by
 subst hl
 refine zkx ?_
 unfold zdm
 cases a with
 | none =>
  refine zab rfl ?_
  have:byteCells L=[]:=by rcases hL with h | ⟨b,o,c,T,fr,h,_⟩;exact h;cases h
  exact ⟨(none,0,0),rfl,.inl ⟨rfl,this⟩,by rw [hw];exact .refl _ _⟩
 | some a =>
  refine jl rfl ?_
  refine zad (s:=.slc) (some ⟨H.size,0,none⟩,0,0) { w with heap:=H.push (.cells #[] qy) } (by rw [← hw];kernel_rfl) ?_
  have hxp:Ext [] H (H.push (.cells #[] qy)):=.push _
  have hO:Mine (H.push (.cells #[] qy)) H.size qy 1 (some ⟨H.size,0,none⟩,0,0) []:=.inr ⟨H.size,#[],rfl,Nat.le_refl _,zn,rfl,rfl,Nat.le_refl _,rfl⟩
  refine zw9 (w:={ w with heap:=H.push (.cells #[] qy) }) rfl hO (by simp) (Src.slc rfl (hL.ext hxp (by simp)) (by simp [byteCells])) vg (by simp only;omega) ?_
  intro x2 w2 hO2 hl2 hx2 hm2
  rw [List.nil_append] at hO2
  exact ⟨x2,rfl,hO2,hxp.own hx2 (by intro b hb;simp [xw] at hb;omega)⟩
theorem qkv {w:World} {H:Heap} {fp:List Nat} {p:Nat} {q:Int} {r:SM} {c:Nat} (hw:w.heap=H) (hS:Store H fp p q r c):qj P zho #[.pointer (some ⟨p,0,none⟩)] w fun e w'=>e=.returned (.int .i64 (r.length:Int))∧w'=w:=by
 obtain ⟨m,h1,h2,_⟩:=hS
 refine zrp ?_
 unfold zg7
 refine jl rfl ?_
 simp only [xq]
 refine jh (t:=some m) hw h1 rfl ?_
 refine qm (s:=.int .i64) _ (qht u57 hw h2) ?_
 exact ⟨rfl,trivial⟩
theorem qbx {w:World} {H:Heap} {fp:List Nat} {p:Nat} {q:Int} {r:SM} {c:Nat} (hw:w.heap=H) (hS:Store H fp p q r c):qj P zhn #[.pointer (some ⟨p,0,none⟩)] w fun e w'=>e=.returned (.int .i64 (total r:Int))∧w'=w:=by
 obtain ⟨m,h1,h2,_⟩:=hS
 refine zse ?_
 unfold zg8
 refine jl rfl ?_
 simp only [xq]
 exact jh (t:=(total r:Int)) hw h1 rfl ⟨rfl,trivial⟩
theorem qba {r:SM} {c:Nat} (h:MOk (fun L=>L.length=32) r c) {k:List UInt8} {v:BV} (hg:zcj r k=some v):∃ b,(k,v,b) ∈ r∧k.length=32:=by
 obtain ⟨b,hb⟩:=zff hg
 exact ⟨b,hb,h.fine _ hb⟩
def got (o:Option (List UInt8)) (k:List UInt8):Int:=match o with | none=>50 | some L=>if Sha.sum L=k then 0 else 51
theorem qgd {w:World} {H:Heap} {fp:List Nat} {p:Nat} {q:Int} {r:SM} {c:Nat} {k:List UInt8} (hw:w.heap=H) (hS:Store H fp p q r c) (hk:k.length=32) (hR:Rounds H) (hlen:∀ L,zay r k=some L→L.length < 1099511627776) :
  qj P zja #[.pointer (some ⟨p,0,none⟩),arr k] w fun e w'=>∃ x,e=.returned (.tuple #[zcr x,.int .i64 (got (zay r k) k)])∧Ext [] H w'.heap ∧
   (got (zay r k) k=0→∃ L,zay r k=some L∧Mine w'.heap H.size qy 1 x (byteCells L))∧(got (zay r k) k ≠ 0→x=(none,0,0)):=by
 obtain ⟨m,h1,h2,h3,h4,h5,h6,h7⟩:=hS
 refine zva ?_
 unfold ziz
 refine jv hw fun w1 hw1=>?_
 have hx1:Ext [] H (H.push (.cells (Value.cells (arr k)) zf (0,0))):=.push _
 generalize hH1:H.push (.cells (Value.cells (arr k)) zf (0,0))=H1 at *
 have hk1:H1[H.size]?=some (.cells (byteCells k).toArray zf (0,0)):=by rw [← hH1];exact zn
 refine jl rfl ?_
 refine jw hw1 fun w2 hw2=>?_
 simp only [xq]
 refine jh (t:=some m) hw2 (hx1.get h1 (by simp)) rfl ?_
 refine je hw2 hk1 (by simp [byteCells,hk]) ?_
 cases hg:zcj r k with
 | none =>
  have hv:zay r k=none:=by simp [zay,hg]
  rw [hv]
  refine zod (l:=[.slc,.bool]) ((none,0,0),false) (by refine (zj0 K27 u57 z22 hw2 (hx1.get h2 (by simp)) h3 hk).trans ?_;rw [hg];rfl) ?_
  refine zab rfl ?_
  exact ⟨(none,0,0),rfl,by rw [hw2];exact hx1,(by intro h;simp [got] at h),fun _=>rfl⟩
 | some v =>
  have hv:zay r k=some v.2:=by simp [zay,hg]
  obtain ⟨b,hb,_⟩:=qba h3 hg
  obtain ⟨hO,hOf⟩:=h6 _ hb
  have hO:Mine H 0 qy 1 v.1 (byteCells v.2):=hO
  have hlv:=hlen _ hv
  rw [hv]
  refine zod (l:=[.slc,.bool]) (v.1,true) (by refine (zj0 K27 u57 z22 hw2 (hx1.get h2 (by simp)) h3 hk).trans ?_;rw [hg];rfl) ?_
  refine jl rfl ?_
  refine jw hw2 fun w3 hw3=>?_
  refine je hw3 hk1 (by simp [byteCells,hk]) ?_
  have hO1:=hO.ext hx1 (by simp)
  have hlen1:=hO.len
  have hle:v.1.2.1≤v.1.2.2:=by
   rcases hO with ⟨h,_⟩ | ⟨_,_,_,_,_,_,_,h,_⟩
   ·rw [h];exact Nat.le_refl _
   ·exact h
  refine zl (qjt hw3 hO1.cells (by rw [← jf,hlen1,Nat.mul_one]) hle (hR.ext hx1 (by simp)) (by omega)) ?_
  rintro e w4 ⟨rfl,hx4⟩
  refine ⟨arr (Sha.sum v.2),rfl,?_⟩
  refine ⟨je rfl (hx4.get hk1 (by simp)) (by simp [byteCells,hk]) rfl,?_⟩
  refine qm (s:=.bool) _ (z3j u27 u5 c5 g27 zaf hk) ?_
  by_cases hs:Sha.sum v.2=k
  ·refine jl (by simp [hs]) ?_
   refine zl (qg7 rfl (hO1.ext hx4 (by simp)).cells (by rw [← jf,hlen1,Nat.mul_one]) (by omega)) ?_
   rintro e w5 ⟨x,rfl,hxO,hx5⟩
   refine ⟨x,rfl,?_⟩
   have hgot:got (some v.2) k=0:=by simp [got,hs]
   refine ⟨x,by rw [hgot];rfl,(hx1.trans hx4).trans hx5,fun _=>⟨_,rfl,hxO.mono (hx1.trans hx4).1⟩,fun h=>absurd hgot h⟩
  ·refine zab (by simp [hs]) ?_
   have hgot:got (some v.2) k=51:=by simp [got,hs]
   exact ⟨(none,0,0),by rw [hgot];rfl,hx1.trans hx4,(fun h=>by rw [hgot] at h;cases h),fun _=>rfl⟩
theorem qjj {r:SM} {k k':List UInt8}:zay (qag r k) k'=if k'=k then none else zay r k':=by
 unfold zay;rw [qiy];split <;> rfl
def spoilt (L:List UInt8) (at_:Int) (t:UInt8):List UInt8:=L.set at_.toNat (L.getD at_.toNat 0 ^^^ t)
def zha (o:Option (List UInt8)) (at_:Int) (t:UInt8):Int:=match o with | none=>50 | some L=>if at_ < 0 ∨ (L.length:Int)≤at_ ∨ t=0 then 1 else 0
abbrev BL:=List (List UInt8 × List UInt8)
def zuw (F:BL) (k:List UInt8):Option (List UInt8):=(F.find? fun x=>x.1 == k).map (·.2)
def zve (F:BL) (L:List UInt8):BL:=if (zuw F (Sha.sum L)).isSome then F else F++[(Sha.sum L,L)]
def fresh (Ls:List (List UInt8)):BL:=Ls.foldl zve []
def extra (r:SM) (F:BL):Nat:=((F.filter fun x=>(zay r x.1).isNone).map fun x=>x.2.length).sum
def z15 (V:Option (List UInt8)) (o:Option (List UInt8)) (k:List UInt8):Option (List UInt8):=match o with
 | none=>V
 | some L=>match V with
  | none=>some L
  | some old=>if Sha.sum old=k then some old else some L
def long (Ls:List (List UInt8)):Prop:=∃ L ∈ Ls,4096 < L.length
def Rows (H:Heap) (a:Option Addr) (n:Nat) (Ls:List (List UInt8)):Prop:=n=Ls.length∧∀ i (h:i < Ls.length),∃ b o c T fr x,a=some ⟨b,o,none⟩∧H[b]?=some (.cells c T fr)∧c[o+i]?=some (zcr x)∧Cells H x.1 (byteCells Ls[i]) ∧
 x.2.1=Ls[i].length∧x.2.1≤x.2.2
def view (fr:SM):BL:=fr.map fun x=>(x.1,x.2.1.2)
theorem ztw {fr:SM} {k:List UInt8}:zuw (view fr) k=zay fr k:=by
 induction fr with
 | nil=>rfl
 | cons x l ih =>
  simp only [zuw,view,List.map_cons,List.find?_cons] at ih ⊢
  unfold zay
  by_cases e:x.1=k
  ·rw [zb8 e];simp [e]
  ·rw [zb7 e]
   have:(x.1 == k)=false:=by simp [e]
   simp only [this]
   exact ih
theorem zvo {Ls:List (List UInt8)} {i:Nat} (h:i < Ls.length):fresh (Ls.take (i+1))=zve (fresh (Ls.take i)) Ls[i]:=by
 unfold fresh
 rw [List.take_add_one,List.getElem?_eq_getElem h,Option.toList_some,List.foldl_append]
 rfl
theorem Store.mono {H:Heap} {fp fp':List Nat} {p:Nat} {q:Int} {r:SM} {c:Nat} (h:Store H fp p q r c) (hf:∀ b ∈ fp,b ∈ fp'):Store H fp' p q r c:=by
 obtain ⟨m,h1,h2,h3,h4,h5,h6,h7⟩:=h
 exact ⟨m,h1,h2,h3,hf p h4,hf m h5,fun x hx=>⟨(h6 x hx).1,fun b hb=>hf b ((h6 x hx).2 b hb)⟩,h7⟩
def qic (r:SM) (k:List UInt8):Nat:=match zay r k with | none=>0 | some L=>L.length
theorem z6m {r:SM} {c c':Nat} (h:MOk (fun L=>L.length=32) r c) {k:List UInt8} {v:BV}:total (zpd r k v c')+qic r k=total r+v.2.length:=by
 unfold qic zay
 cases hg:zcj r k with
 | none =>
  rw [zm8 hg]
  simp [total]
 | some v' =>
  rw [zpq (by rw [hg];rfl)]
  simp only [Option.map_some]
  have hk:=h.keys
  clear h
  induction r with
  | nil=>simp [zcj] at hg
  | cons x r ih =>
   simp only [List.map_cons,List.nodup_cons] at hk
   by_cases e:x.1=k
   ·rw [zb8 e,Option.some.injEq] at hg
    have:r.map (fun x=>if x.1=k then (x.1,v,x.2.2) else x)=r:=by
     rw [List.map_congr_left (g:=id),List.map_id]
     intro y hy
     rw [if_neg];rfl
     intro h;exact hk.1 (by rw [e,← h];exact List.mem_map.2 ⟨y,hy,rfl⟩)
    rw [List.map_cons,if_pos e,this,← hg]
    simp only [total,List.map_cons,List.sum_cons]
    omega
   ·rw [zb7 e] at hg
    have:=ih hg hk.2
    rw [List.map_cons,if_neg e]
    simp only [total,List.map_cons,List.sum_cons] at this ⊢
    omega
theorem qj7 {r:SM} {k k':List UInt8} {v:BV} {c:Nat}:zay (zpd r k v c) k'=if k'=k then some v.2 else zay r k':=by
 unfold zay;rw [zxd];split <;> rfl
def Ph1 (H:Heap) (r:SM) (Ls:List (List UInt8)) (i:Nat) (x:Int) (w:World):Prop :=
 ∃ (fr:SM) (cf:Nat),i≤Ls.length∧x=(extra r (view fr):Int)∧view fr=fresh (Ls.take i)∧Ext [] H w.heap∧w.heap[H.size]?=some (.map (ents arr (vl bv fr)) cf)∧MOk (fun L=>L.length=32) fr cf∧fr.length≤i ∧
  (∀ x ∈ fr,Mine w.heap H.size qy 1 x.2.1.1 (byteCells x.2.1.2)∧x.2.1.2.length≤4096)∧Apart fr∧(∀ L ∈ Ls.take i,L.length≤4096)
theorem qct {r:SM} {fr:SM} (h:∀ x ∈ fr,x.2.1.2.length≤4096):extra r (view fr)≤4096 * fr.length:=by
 induction fr with
 | nil=>simp [extra,view]
 | cons x l ih =>
  have h1:=ih fun y hy=>h y (by simp [hy])
  have h2:=h x (by simp)
  simp only [extra,view,List.map_cons,List.filter_cons] at h1 ⊢
  split
  ·simp only [List.map_cons,List.sum_cons,List.length_cons];omega
  ·simp only [List.length_cons];omega
def Ph3 (H:Heap) (fp:List Nat) (p:Nat) (q:Int) (r fr:SM) (cf it:Nat) (n:Nat) (w:World):Prop :=
 ∃ (seen:Array Nat) (r':SM) (c':Nat),Store w.heap (fp++fr.flatMap fun x=>xw x.2.1.1) p q r' c'∧Ext fp H w.heap∧w.heap[H.size]?=some (.map (ents arr (vl bv fr)) cf)∧w.heap[it]?=some (.mapIter (some H.size) cf seen cf)∧H.size≤it ∧
  (∀ x ∈ fr,Mine w.heap H.size qy 1 x.2.1.1 (byteCells x.2.1.2))∧(∀ k,zay r' k=if ∃ x ∈ fr,x.1=k∧x.2.2 ∈ seen then z15 (zay r k) (zay fr k) k else zay r k) ∧
  n=(fr.filter fun y=>!seen.contains y.2.2).length∧total r'+4096 * n≤total r+4096 * fr.length∧(∀ y ∈ r',(∀ b ∈ xw y.2.1.1,b ∈ fp) ∨ ∃ z ∈ fr,z.1=y.1∧z.2.1=y.2.1)
def zz3 (q:Int) (r:SM) (Ls:List (List UInt8)) (code:Int) (r':SM):Prop :=
 (long Ls→code=2∧r'=r)∧(¬ long Ls→q < total r+extra r (fresh Ls)→code=3∧r'=r) ∧
 (¬ long Ls→¬ q < total r+extra r (fresh Ls)→code=0∧∀ k,zay r' k=z15 (zay r k) (zuw (fresh Ls) k) k)
set_option maxHeartbeats 8000000 in
theorem qj2 {w:World} {H:Heap} {fp:List Nat} {p:Nat} {q:Int} {r:SM} {c:Nat} {a:Option Addr} {n nc:Nat} {Ls:List (List UInt8)} (hw:w.heap=H) (hS:Store H fp p q r c) (hfp:∀ b ∈ fp,b < H.size) (hR:Rounds H) (h0:0 ∉ fp)
  (hL:Rows H a n Ls) (hb:total r+4096 * Ls.length < 1125899906842624) (hq:0≤q) (hq2:q≤9223372036854775807) (hlen:∀ k L,zay r k=some L→L.length < 1099511627776) :
  qj P zga #[.pointer (some ⟨p,0,none⟩),.slice a n nc] w fun e w'=>∃ code r' c' fp',e=.returned (.int .i64 code)∧Store w'.heap fp' p q r' c'∧Ext fp H w'.heap∧(∀ b ∈ fp',b < w'.heap.size)∧(∀ b ∈ fp',b ∈ fp ∨ H.size≤b)∧zz3 q r Ls code r' ∧
   total r'≤total r+4096 * Ls.length:=by
 obtain ⟨rfl,hL⟩:=hL
 have hH0:0 < H.size:=by obtain ⟨_,_,_,h,_⟩:=hR;exact lt_of_get h
 refine zq2 ?_
 unfold zgm
 refine jl rfl ?_
 refine zad (s:=.map) (some H.size) _ (zui hw) ?_
 refine jd (fun (s:Int × Int) w=>∃ i:Nat,s.2=(i:Int)∧Ph1 H r Ls i s.1 w) (fun s _=>(Ls.length - s.2).toNat) ⟨0,rfl,[],0,by omega,rfl,rfl,.push _,zn,.nil,by simp,(by intro x hx;cases hx),(by intro x hx;cases hx),(by simp)⟩ ?_
 rintro ⟨x,_⟩ w2 ⟨i,rfl,fr,cf,hi,rfl,hF,hx2,hm2,hok,hfl,hown,hap,hsm⟩
 refine zq (fun hlt=>?_) (fun hge=>?_)
 ·have hlt:i < Ls.length:=by simp only at hlt;omega
  refine joinP_of (fun s w=>Ph1 H r Ls (i+1) s w) ?_ ?_
  rotate_left
  ·intro s2 w3 h3
   refine xu ((i+1:Nat):Int) (by simp only;omega) (by omega) (by omega) ?_
   exact ⟨⟨i+1,rfl,h3⟩,by simp only;omega⟩
  obtain ⟨ba,oa,ca,Ta,fra,xs,rfl,hba,hca,hxc,hxl,hxc2⟩:=hL i hlt
  refine zqz i rfl hlt ?_
  refine jh (s:=.slc) (t:=xs) rfl (hx2.get hba (by simp)) hca ?_
  refine zq (fun hbig=>?_) (fun hsmall=>?_)
  ·-- too long
   have hlo:long Ls:=⟨Ls[i],List.getElem_mem hlt,by omega⟩
   exact ⟨2,r,c,fp,rfl,hS.ext hx2 (by simp),hx2.mono (by simp),fun b hb=>Nat.lt_of_lt_of_le (hfp b hb) hx2.1,fun b hb=>.inl hb,⟨fun _=>⟨rfl,rfl⟩,fun h=>absurd hlo h,fun h=>absurd hlo h⟩,by omega⟩
  have hlen4:Ls[i].length≤4096:=by omega
  generalize hLi:Ls[i]=L at *
  generalize hH2:w2.heap=H2 at *
  have hxc':=hxc.ext hx2 (by simp)
  refine zl (qjt hH2 hxc' hxl hxc2 (hR.ext hx2 (by simp)) (by omega)) ?_
  rintro e w3 ⟨rfl,hx3⟩
  refine ⟨arr (Sha.sum L),rfl,?_⟩
  generalize hH3:w3.heap=H3 at *
  have hx23:Ext [] H H3:=hx2.trans hx3
  refine jv hH3 fun w4 hw4=>?_
  refine zbj (z2c.trans (by rw [za6,zaf])) (by rw [za6,zaf];omega) vg hw4 zn (by rw [qdj,za6,zaf];simp) fun w5 hw5=>?_
  rw [show setCells (zc P zf) 0 (Value.cells (arr (Sha.sum L))).toList=(byteCells (Sha.sum L)).toArray from by rw [zan (by rw [qdj,Array.length_toList,za6,zaf];simp)];simp [Value.cells,arr]] at hw5
  have hx5:Ext [] H3 w5.heap:=by rw [hw5];exact (Ext.push _).set_own (.inl (Nat.le_refl _))
  have hk5:w5.heap[H3.size]?=some (.cells (byteCells (Sha.sum L)).toArray zf (0,0)):=by rw [hw5];exact qw zn
  generalize hH5:w5.heap=H5 at *
  have hx25:Ext [] H2 H5:=hx3.trans hx5
  have hm5:=hx25.get hm2 (by simp)
  refine je hH5 hk5 (by simp [byteCells,zaf]) ?_
  have hown5:∀ x ∈ fr,Mine H5 H.size qy 1 x.2.1.1 (byteCells x.2.1.2)∧x.2.1.2.length≤4096:=fun x hx=>⟨(hown x hx).1.ext hx25 (by simp),(hown x hx).2⟩
  cases hg:zcj fr (Sha.sum L) with
  | some v =>
   refine zod (l:=[.slc,.bool]) (v.1,true) (by refine (zj0 K27 u57 z22 hH5 hm5 hok zaf).trans ?_;rw [hg];rfl) ?_
   refine zab rfl ?_
   refine ⟨fr,cf,hlt,rfl,?_,?_,?_,hok,by omega,?_,hap,?_⟩
   ·rw [zvo hlt,← hF,hLi]
    unfold zve
    rw [ztw,if_pos (by simp [zay,hg])]
   ·rw [hH5];exact hx2.trans hx25
   ·rw [hH5];exact hm5
   ·rw [hH5];exact hown5
   ·intro M hM
    rw [List.take_add_one,List.mem_append] at hM
    rcases hM with hM | hM
    ·exact hsm M hM
    ·rw [List.getElem?_eq_getElem hlt] at hM;simp at hM;rw [hM,hLi];exact hlen4
  | none =>
   refine zod (l:=[.slc,.bool]) ((none,0,0),false) (by refine (zj0 K27 u57 z22 hH5 hm5 hok zaf).trans ?_;rw [hg];rfl) ?_
   refine jl rfl ?_
   refine jw hH5 fun w6 hw6=>?_
   refine je hw6 hk5 (by simp [byteCells,zaf]) ?_
   refine zl (qg7 hw6 (hxc'.ext hx25 (by simp)) hxl (by omega)) ?_
   rintro e w7 ⟨y,rfl,hyO,hx7⟩
   refine ⟨y,rfl,?_⟩
   generalize hH7:w7.heap=H7 at *
   refine ⟨je hH7 (hx7.get hk5 (by simp)) (by simp [byteCells,zaf]) rfl,?_⟩
   have hm7:=hx7.get hm5 (by simp)
   refine zzo _ (ztt K27 u57 hH7 hm7 hok zaf (y,L) rfl) ?_
   refine jw rfl fun w8 hw8=>?_
   simp only [xq]
   obtain ⟨m,h1,h2,h3,h4,h5,h6,h7⟩:=hS
   have hx57:Ext [] H H7:=(hx2.trans hx25).trans hx7
   have hx8:Ext [] H (H7.setIfInBounds H.size (.map (ents arr (vl bv (zpd fr (Sha.sum L) (y,L) cf))) (zvi fr (Sha.sum L) cf))):=hx57.set_own (.inl (Nat.le_refl _))
   have hx78:Ext [H.size] H7 (H7.setIfInBounds H.size (.map (ents arr (vl bv (zpd fr (Sha.sum L) (y,L) cf))) (zvi fr (Sha.sum L) cf))):=Ext.set _ (by simp)
   have hk8:(H7.setIfInBounds H.size (.map (ents arr (vl bv (zpd fr (Sha.sum L) (y,L) cf))) (zvi fr (Sha.sum L) cf)))[H3.size]?=some (.cells (byteCells (Sha.sum L)).toArray zf (0,0)) :=
    zh3 (hx7.get hk5 (by simp)) (by have:=lt_of_get hm2;have:=hx3.1;omega)
   have hm8:(H7.setIfInBounds H.size (.map (ents arr (vl bv (zpd fr (Sha.sum L) (y,L) cf))) (zvi fr (Sha.sum L) cf)))[H.size]?=some (.map (ents arr (vl bv (zpd fr (Sha.sum L) (y,L) cf))) (zvi fr (Sha.sum L) cf)):=qw hm7
   generalize (H7.setIfInBounds H.size (.map (ents arr (vl bv (zpd fr (Sha.sum L) (y,L) cf))) (zvi fr (Sha.sum L) cf)))=H8 at *
   refine jh (t:=some m) hw8 (hx8.get h1 (by simp)) rfl ?_
   refine je hw8 hk8 (by simp [byteCells,zaf]) ?_
   have hupd:zpd fr (Sha.sum L) (y,L) cf=fr++[(Sha.sum L,(y,L),cf)]:=zm8 hg
   have hvw:view (zpd fr (Sha.sum L) (y,L) cf)=view fr++[(Sha.sum L,L)]:=by rw [hupd];simp [view]
   have hVw:view fr++[(Sha.sum L,L)]=fresh (Ls.take (i+1)):=by
    rw [zvo hlt,← hF,hLi]
    unfold zve
    rw [ztw,if_neg (by simp [zay,hg])]
   have fin:∀ (X:Int),X=(extra r (view fr++[(Sha.sum L,L)]):Int)→Ph1 H r Ls (i+1) X w8:=by
    intro X hX
    refine ⟨zpd fr (Sha.sum L) (y,L) cf,zvi fr (Sha.sum L) cf,hlt,by rw [hvw];exact hX,by rw [hvw,hVw],by rw [hw8];exact hx8,by rw [hw8];exact hm8,hok.upd zaf _,by rw [hupd];simp;omega,?_,?_,?_⟩
    ·intro z hz
     rw [hw8]
     rcases zqc hz with ⟨hz1,hz2⟩ | ⟨_,hz2⟩
     ·rw [hz2]
      refine ⟨(hyO.ext hx78 fun b hb=>?_).mono (hx2.trans hx25).1,hlen4⟩
      have:=jc hyO b hb
      have:=lt_of_get hm5
      simp;omega
     ·refine ⟨((hown5 z hz2).1.ext hx7 (by simp)).ext hx78 fun b hb=>?_,(hown5 z hz2).2⟩
      rcases (hown5 z hz2).1 with ⟨h,_⟩ | ⟨bb,cc,h,_,hbb,_⟩
      ·simp [xw,h] at hb
      ·simp only [xw,h,List.mem_singleton] at hb
       subst hb
       simp only [List.mem_singleton]
       intro e;rw [e,hm5] at hbb;cases hbb
    ·have far:∀ z ∈ fr,∀ b ∈ xw z.2.1.1,b < H5.size:=by
      intro z hz b hb
      rcases (hown5 z hz).1 with ⟨h,_⟩ | ⟨bb,cc,h,_,hbb,_⟩
      ·simp [xw,h] at hb
      ·simp only [xw,h,List.mem_singleton] at hb
       subst hb;exact lt_of_get hbb
     intro z hz z' hz' hne b hb hb'
     rcases zqc hz with ⟨hz1,hz2⟩ | ⟨hz1,hz2⟩ <;> rcases zqc hz' with ⟨hz1',hz2'⟩ | ⟨hz1',hz2'⟩
     ·exact hne (hz1.trans hz1'.symm)
     ·rw [hz2] at hb
      have:=jc hyO b hb
      have:=far z' hz2' b hb'
      omega
     ·rw [hz2'] at hb'
      have:=jc hyO b hb'
      have:=far z hz2 b hb
      omega
     ·exact hap z hz2 z' hz2' hne b hb hb'
    ·intro M hM
     rw [List.take_add_one,List.mem_append] at hM
     rcases hM with hM | hM
     ·exact hsm M hM
     ·rw [List.getElem?_eq_getElem hlt] at hM;simp at hM;rw [hM,hLi];exact hlen4
   have hxl2:(xs.2.1:Int)=(L.length:Int):=by rw [hxl]
   cases hgr:zcj r (Sha.sum L) with
   | none =>
    refine zod (l:=[.slc,.bool]) ((none,0,0),false) (by refine (zj0 K27 u57 z22 hw8 (hx8.get h2 (by simp)) h3 zaf).trans ?_;rw [hgr];rfl) ?_
    refine zab rfl ?_
    have hel:=qct (r:=r) fun x hx=>(hown x hx).2
    refine xu ((extra r (view fr)+L.length:Nat):Int) (by omega) (by omega) (by omega) ?_
    refine fin _ ?_
    simp only [extra,List.filter_append,List.map_append,List.sum_append]
    have:(zay r (Sha.sum L)).isNone=true:=by simp [zay,hgr]
    simp [this]
   | some v =>
    refine zod (l:=[.slc,.bool]) (v.1,true) (by refine (zj0 K27 u57 z22 hw8 (hx8.get h2 (by simp)) h3 zaf).trans ?_;rw [hgr];rfl) ?_
    refine jl rfl ?_
    refine fin _ ?_
    simp only [extra,List.filter_append,List.map_append,List.sum_append]
    have:(zay r (Sha.sum L)).isNone=false:=by simp [zay,hgr]
    simp [this]
 have hiL:i=Ls.length:=by simp only at hge;omega
 subst hiL
 rw [List.take_length] at hF hsm
 have hnl:¬ long Ls:=fun ⟨L,hL',h⟩=>by have:=hsm L hL';omega
 have hex:=qct (r:=r) (fr:=fr) fun x hx=>(hown x hx).2
 have hS0:=hS
 obtain ⟨m,h1,h2,h3,h4,h5,h6,h7⟩:=hS
 refine jw rfl fun w3 hw3=>?_
 generalize hH2:w2.heap=H2 at *
 simp only [xq]
 refine jh (t:=q) hw3 (hx2.get h1 (by simp)) rfl ?_
 refine jh (t:=(total r:Int)) hw3 (hx2.get h1 (by simp)) rfl ?_
 refine zbu (q - total r) rfl (by omega) (by omega) ?_
 refine zq (fun hbig=>?_) (fun hfit=>?_)
 ·have hbig:q < total r+extra r (fresh Ls):=by rw [← hF];omega
  exact ⟨3,r,c,fp,rfl,by rw [hw3];exact hS0.ext hx2 (by simp),by rw [hw3];exact hx2.mono (by simp),fun b hb=>by rw [hw3];exact Nat.lt_of_lt_of_le (hfp b hb) hx2.1,fun b hb=>.inl hb,⟨fun h=>absurd h hnl,fun _ _=>⟨rfl,rfl⟩,fun _ h=>absurd hbig h⟩,by omega⟩
 have hfit:¬ q < total r+extra r (fresh Ls):=by rw [← hF];omega
 have hHH:H.size < H2.size:=lt_of_get hm2
 refine zad (s:=.ptr) (some ⟨H2.size,0,none⟩) _ (qhc u57 hw3 hm2) ?_
 have hxr:Ext [] H2 (H2.push (.mapIter (some H.size) cf #[] cf)):=.push _
 refine ztz (fun n _ w=>Ph3 H fp p q r fr cf H2.size n w) fr.length
  ⟨#[],r,c,((hS0.ext hx2 (by simp)).ext hxr (by simp)).mono fun b hb=>List.mem_append.2 (.inl hb),(hx2.trans hxr).mono (by simp),hxr.get hm2 (by simp),zn,Nat.le_of_lt hHH,fun x hx=>(hown x hx).1.ext hxr (by simp),?_,?_,by omega,fun y hy=>.inl (h6 y hy).2⟩ ?_
 ·intro k
  rw [if_neg]
  rintro ⟨x,_,_,h⟩
  simp at h
 ·rw [List.filter_eq_self.2]
  intro y _;simp
 rintro n _ w4 ⟨seen,r',c',hS4,hx4,hm4,hit4,hitl,hown4,hview,hn,htot,hsrc⟩ K hK
 have hFB:∀ b ∈ fp++fr.flatMap (fun x=>xw x.2.1.1),b < w4.heap.size∧b ≠ H.size∧b ≠ H2.size∧(b ∈ fp ∨ H.size≤b):=by
  intro b hb
  rcases List.mem_append.1 hb with hb | hb
  ·have:=hfp b hb
   have:=hx4.1
   exact ⟨by omega,by omega,by omega,.inl hb⟩
  ·obtain ⟨x,hx,hb⟩:=List.mem_flatMap.1 hb
   rcases hown4 x hx with ⟨h,_⟩ | ⟨bb,cc,h,hge',hbb,_⟩
   ·simp [xw,h] at hb
   ·simp only [xw,h,List.mem_singleton] at hb
    subst hb
    exact ⟨lt_of_get hbb,fun e=>(by rw [e,hm4] at hbb;cases hbb),fun e=>(by rw [e,hit4] at hbb;cases hbb),.inr hge'⟩
 have hfrlen:fr.length≤Ls.length:=hfl
 rcases qkl (P:=P) (ty:=0) rfl hm4 hit4 hok.old (Nat.le_refl _) with ⟨hall,w5,hr5,hcm5,hw5⟩ | ⟨x,hx,hns,w5,hr5,hcm5,hw5⟩
 ·refine zad (s:=.any) _ w5 hr5 ?_ hcm5
  refine zxr (s:=.bool) false rfl rfl ?_
  refine jl rfl ?_
  refine ⟨0,r',c',_,rfl,by rw [hw5];exact hS4,by rw [hw5];exact hx4,fun b hb=>by rw [hw5];exact (hFB b hb).1,fun b hb=>(hFB b hb).2.2.2,⟨fun h=>absurd h hnl,fun _ h=>absurd h hfit,fun _ _=>⟨rfl,fun k=>?_⟩⟩,by omega⟩
  rw [hview,← hF,ztw]
  by_cases hk:∃ x ∈ fr,x.1=k∧x.2.2 ∈ seen
  ·rw [if_pos hk]
  ·rw [if_neg hk]
   have:zay fr k=none:=by
    unfold zay
    rw [zlp];rfl
    intro x hx e
    exact hk ⟨x,hx,e,hall x hx⟩
   rw [this];rfl
 ·refine zad (s:=.any) _ w5 hr5 ?_ hcm5
  refine zxr (s:=.bool) true rfl rfl ?_
  refine zab rfl ?_
  refine joinP_of (fun _ w=>∃ n',n' < n∧Ph3 H fp p q r fr cf H2.size n' w) ?_ (fun _ w h=>by obtain ⟨n',hn',hp⟩:=h;exact hK n' _ _ hn' hp)
  have hx1:x.1.length=32:=hok.fine x hx
  generalize hH4:w4.heap=H4 at *
  have hit5:w5.heap[H2.size]?=some (.mapIter (some H.size) cf (seen.push x.2.2) cf):=by rw [hw5];exact qw hit4
  have hx45:Ext [H2.size] H4 w5.heap:=by rw [hw5];exact Ext.set _ (by simp)
  generalize hH5:w5.heap=H5 at *
  clear hw5
  have hm5:=hx45.get hm4 (by simp;omega)
  refine qm (s:=.any) _ (qfw (last:=cf) hH5 hm5 hit5 hx hok) ?_
  refine zxr (s:=.any) (arr x.1) rfl rfl ?_
  refine zxr (s:=.slc) x.2.1.1 rfl rfl ?_
  refine jv hH5 fun w6 hw6=>?_
  refine zbj (z2c.trans (by rw [za6,hx1])) (by rw [za6,hx1];omega) vg hw6 zn (by rw [qdj,za6,hx1];simp) fun w7 hw7=>?_
  rw [show setCells (zc P zf) 0 (Value.cells (arr x.1)).toList=(byteCells x.1).toArray from by rw [zan (by rw [qdj,Array.length_toList,za6,hx1];simp)];simp [Value.cells,arr]] at hw7
  have hx57:Ext [] H5 w7.heap:=by rw [hw7];exact (Ext.push _).set_own (.inl (Nat.le_refl _))
  have hk7:w7.heap[H5.size]?=some (.cells (byteCells x.1).toArray zf (0,0)):=by rw [hw7];exact qw zn
  generalize hH7:w7.heap=H7 at *
  clear hw7
  have hx47:Ext [H2.size] H4 H7:=hx45.trans (hx57.mono (by simp))
  have hS7:=hS4.ext hx47 fun b hb=>by simpa using (hFB b hb).2.2.1
  have hx7:Ext fp H H7:=hx4.own hx47 (by intro b hb hlt;simp at hb;omega)
  have hm7:=hx57.get hm5 (by simp)
  have hit7:=hx57.get hit5 (by simp)
  have hown7:∀ x ∈ fr,Mine H7 H.size qy 1 x.2.1.1 (byteCells x.2.1.2):=fun y hy=>(hown4 y hy).ext hx47 fun b hb=>by
   simpa using (hFB b (List.mem_append.2 (.inr (List.mem_flatMap.2 ⟨y,hy,hb⟩)))).2.2.1
  have hR7:=hR.ext hx7 h0
  obtain ⟨m',g1,g2,g3,g4,g5,g6,g7⟩:=hS7
  have hvx:zay r' x.1=zay r x.1:=by
   rw [hview,if_neg]
   rintro ⟨y,hy,e,hs⟩
   rw [key_inj hok hy hx e] at hs
   exact hns hs
  have hfx:zay fr x.1=some x.2.1.2:=by
   unfold zay
   rw [zsj hok.keys (k:=x.1) (v:=x.2.1) (c:=x.2.2) hx];rfl
  have hdone:∀ k,(∃ y ∈ fr,y.1=k∧y.2.2 ∈ seen.push x.2.2) ↔ (k=x.1 ∨ ∃ y ∈ fr,y.1=k∧y.2.2 ∈ seen):=by
   intro k
   constructor
   ·rintro ⟨y,hy,e,hs⟩
    rcases Array.mem_push.1 hs with hs | hs
    ·exact .inr ⟨y,hy,e,hs⟩
    ·rw [← e,Go.Fw.born_inj hok hy hx hs];exact .inl rfl
   ·rintro (rfl | ⟨y,hy,e,hs⟩)
    ·exact ⟨x,hx,rfl,Array.mem_push.2 (.inr rfl)⟩
    ·exact ⟨y,hy,e,Array.mem_push.2 (.inl hs)⟩
  have hlt:=qhd (l:=fr) hx hns
  have fin:∀ (w:World) (r2:SM) (c2:Nat),Store w.heap (fp++fr.flatMap fun x=>xw x.2.1.1) p q r2 c2→Ext fp H7 w.heap→Ext [p,m'] H7 w.heap→(∀ k,zay r2 k=if k=x.1 then z15 (zay r k) (some x.2.1.2) k else zay r' k) →
    total r2≤total r'+4096→(∀ y ∈ r2,(∀ b ∈ xw y.2.1.1,b ∈ fp) ∨ ∃ z ∈ fr,z.1=y.1∧z.2.1=y.2.1)→∃ n',n' < n∧Ph3 H fp p q r fr cf H2.size n' w:=by
   intro w r2 c2 hS2 hxe hxe2 hv2 ht2 hs2
   have np:∀ b,(b=H.size ∨ b=H2.size)→b ∉ [p,m']:=by
    intro b hb hb'
    simp only [List.mem_cons,List.not_mem_nil,or_false] at hb'
    rcases hb' with rfl | rfl
    ·have:=hFB b g4;omega
    ·have:=hFB b g5;omega
   refine ⟨(fr.filter fun y=>!(seen.push x.2.2).contains y.2.2).length,by omega,seen.push x.2.2,r2,c2,hS2,hx7.trans hxe,hxe2.get hm7 (np _ (.inl rfl)),hxe2.get hit7 (np _ (.inr rfl)),hitl,?_,?_,rfl,by omega,hs2⟩
   ·intro y hy
    refine (hown7 y hy).ext hxe2 fun b hb hb'=>?_
    rcases hown7 y hy with ⟨h,_⟩ | ⟨bb,cc,h,_,hbb,_⟩
    ·simp [xw,h] at hb
    ·simp only [xw,h,List.mem_singleton] at hb
     subst hb
     simp only [List.mem_cons,List.not_mem_nil,or_false] at hb'
     rcases hb' with e | e
     ·rw [e,g1] at hbb;cases hbb
     ·rw [e,g2] at hbb;cases hbb
   ·intro k
    rw [hv2]
    by_cases hk:k=x.1
    ·rw [if_pos hk,if_pos ((hdone k).2 (.inl hk)),hk,hfx]
    ·rw [if_neg hk,hview]
     by_cases hd:∃ y ∈ fr,y.1=k∧y.2.2 ∈ seen
     ·rw [if_pos hd,if_pos ((hdone k).2 (.inr hd))]
     ·rw [if_neg hd,if_neg fun h=>by rcases (hdone k).1 h with h | h;exact hk h;exact hd h]
  refine jw hH7 fun w8 hw8=>?_
  refine jh (t:=some m') hw8 g1 rfl ?_
  refine je hw8 hk7 (by simp [byteCells,hx1]) ?_
  refine zod (l:=[.slc,.bool]) (((zcj r' x.1).map (·.1)).getD (none,0,0),(zcj r' x.1).isSome) ?_ ?_
  ·refine (zj0 K27 u57 z22 hw8 g2 g3 hx1).trans ?_
   cases zcj r' x.1 <;> rfl
  refine joinP_of (fun _ w=>Ext [] H7 w.heap∧∀ old,zay r x.1=some old→Sha.sum old ≠ x.1) ?_ ?_
  ·refine jw hw8 fun w9 hw9=>?_
   cases hg:zcj r' x.1 with
   | none =>
    refine jl rfl ?_
    refine ⟨trivial,by rw [hw9];exact .refl _ _,fun old ho=>?_⟩
    rw [← hvx] at ho
    simp [zay,hg] at ho
   | some v =>
    have hv:zay r x.1=some v.2:=by rw [← hvx];simp [zay,hg]
    obtain ⟨bv',hbv,_⟩:=qba g3 hg
    have hO:Mine H7 0 qy 1 v.1 (byteCells v.2):=(g6 _ hbv).1
    have hvl:=hlen _ _ hv
    have hle:v.1.2.1≤v.1.2.2:=by
     rcases hO with ⟨h,_⟩ | ⟨_,_,_,_,_,_,_,h,_⟩
     ·rw [h];exact Nat.le_refl _
     ·exact h
    have hll:=hO.len
    rw [jf,Nat.mul_one] at hll
    refine zab rfl ?_
    refine je hw9 hk7 (by simp [byteCells,hx1]) ?_
    refine zl (qjt hw9 hO.cells (by simp only [Option.map_some,Option.getD_some];exact hll.symm) (by simpa using hle) hR7 (by omega)) ?_
    rintro e w10 ⟨rfl,hx10⟩
    refine ⟨arr (Sha.sum v.2),rfl,?_⟩
    refine ⟨je rfl (hx10.get hk7 (by simp)) (by simp [byteCells,hx1]) rfl,?_⟩
    refine qm (s:=.bool) _ (qb8 u27 u5 c5 g27 zaf hx1) ?_
    refine zq (fun hs=>?_) (fun hs=>?_)
    ·-- whole already
     refine fin _ r' c' ?_ (hx10.mono (by simp)) (hx10.mono (by simp)) (fun k=>?_) (by omega) hsrc
     ·have:=(show Store H7 (fp++fr.flatMap fun x=>xw x.2.1.1) p q r' c' from ⟨m',g1,g2,g3,g4,g5,g6,g7⟩)
      exact this.ext hx10 (by simp)
     ·by_cases hk:k=x.1
      ·subst hk
       rw [if_pos rfl,hvx,hv]
       simp [z15,hs]
      ·rw [if_neg hk]
    ·refine ⟨hx10,fun old ho=>?_⟩
     rw [hv] at ho
     cases ho
     exact hs
  ·rintro _ w9 ⟨hx79,hold⟩
   generalize hH9:w9.heap=H9 at *
   have g1':=hx79.get g1 (by simp)
   have hol:(((((zcj r' x.1).map fun v:BV=>v.1).getD ((none,0,0):Option Addr × Nat × Nat)).2.1:Nat):Int)=(qic r x.1:Int):=by
    unfold qic
    rw [← hvx]
    unfold zay
    cases hg:zcj r' x.1 with
    | none=>rfl
    | some v =>
     obtain ⟨bv',hbv,_⟩:=qba g3 hg
     have hO:Mine H7 0 qy 1 v.1 (byteCells v.2):=(g6 _ hbv).1
     have hll:=hO.len
     rw [jf,Nat.mul_one] at hll
     simp [hll]
   have hxlen:x.2.1.1.2.1=x.2.1.2.length:=by
    have:=(hown7 x hx).len
    rw [jf] at this;omega
   have hx4k:=(hown x hx).2
   have htu:=z6m g3 (k:=x.1) (v:=x.2.1) (c':=c')
   have hol2:qic r' x.1=qic r x.1:=by unfold qic;rw [hvx]
   rw [hol2] at htu
   have htb:total r'≤total r+4096 * fr.length:=by omega
   refine jh (t:=(total r':Int)) hH9 g1' rfl ?_
   refine zbu ((x.2.1.2.length:Int) - (qic r x.1:Int)) (by rw [hol,hxlen]) (by omega) (by omega) ?_
   refine xu ((total (zpd r' x.1 x.2.1 c'):Nat):Int) (by omega) (by omega) (by omega) ?_
   refine zcd hH9 g1' (by simp) fun w10 hw10=>?_
   refine jw hw10 fun w11 hw11=>?_
   have hpm:p ≠ m':=by intro e;rw [e] at g1;rw [g1] at g2;cases g2
   have g2':=hx79.get g2 (by simp)
   have hk9:=hx79.get hk7 (by simp)
   have hp10:w10.heap[p]?=some (.cells #[Value.int .i64 q,.int .i64 (total (zpd r' x.1 x.2.1 c'):Int),.map (some m')] ziq (0,0)):=by rw [hw10];exact qw g1'
   have hm10:w10.heap[m']?=some (.map (ents arr (vl bv r')) c'):=by rw [hw10];exact zh3 g2' (Ne.symm hpm)
   have hk10:w10.heap[H5.size]?=some (.cells (byteCells x.1).toArray zf (0,0)):=by
    rw [hw10];exact zh3 hk9 (show H5.size ≠ p from fun e=>by rw [← e,hk7] at g1;injection g1 with g1;injection g1 with _ g1;exact absurd g1 (by decide))
   have hx10:Ext [p] H7 w10.heap:=by rw [hw10];exact (hx79.mono (by simp)).trans (Ext.set _ (by simp))
   rw [← hw10] at hw11
   generalize w10.heap=H10 at *
   refine jh (t:=some m') hw11 hp10 rfl ?_
   refine je hw11 hk10 (by simp [byteCells,hx1]) ?_
   refine zzo _ (ztt K27 u57 hw11 hm10 g3 hx1 x.2.1 rfl) ?_
   have hx11:Ext [p,m'] H7 (H10.setIfInBounds m' (.map (ents arr (vl bv (zpd r' x.1 x.2.1 c'))) (zvi r' x.1 c'))):=(hx10.mono (by simp)).trans (Ext.set _ (by simp))
   have hpf:p ∈ fp:=h4
   have hpm':m' ∈ fp:=by
    rcases List.mem_append.1 g5 with h | h
    ·exact h
    ·obtain ⟨z,hz,hb⟩:=List.mem_flatMap.1 h
     rcases hown7 z hz with ⟨h,_⟩ | ⟨bb,cc,h,_,hbb,_⟩
     ·simp [xw,h] at hb
     ·simp only [xw,h,List.mem_singleton] at hb
      subst hb
      rw [g2] at hbb;cases hbb
   refine fin _ (zpd r' x.1 x.2.1 c') (zvi r' x.1 c') ⟨m',zh3 hp10 hpm,qw hm10,g3.upd hx1 _,g4,g5,?_,?_⟩ (hx11.mono (by simp [hpf,hpm'])) hx11 (fun k=>?_) (by omega) ?_
   ·intro y hy
    have ex:∀ (s:BV),(∀ b ∈ xw s.1,b ∈ fp++fr.flatMap fun x=>xw x.2.1.1)→∀ B,Mine H7 B qy 1 s.1 (byteCells s.2)→Mine (H10.setIfInBounds m' (.map (ents arr (vl bv (zpd r' x.1 x.2.1 c'))) (zvi r' x.1 c'))) 0 5 1 s.1 (byteCells s.2):=by
     intro s _ B hO
     refine (hO.mono (Nat.zero_le _)).ext hx11 fun b hb hb'=>?_
     rcases hO with ⟨h,_⟩ | ⟨bb,cc,h,_,hbb,_⟩
     ·simp [xw,h] at hb
     ·simp only [xw,h,List.mem_singleton] at hb
      subst hb
      simp only [List.mem_cons,List.not_mem_nil,or_false] at hb'
      rcases hb' with e | e
      ·rw [e,g1] at hbb;cases hbb
      ·rw [e,g2] at hbb;cases hbb
    rcases zqc hy with ⟨hy1,hy2⟩ | ⟨hy1,hy2⟩
    ·rw [hy2]
     have hsub:∀ b ∈ xw x.2.1.1,b ∈ fp++fr.flatMap fun x=>xw x.2.1.1:=fun b hb=>List.mem_append.2 (.inr (List.mem_flatMap.2 ⟨x,hx,hb⟩))
     exact ⟨ex _ hsub _ (hown7 x hx),hsub⟩
    ·exact ⟨ex _ (g6 y hy2).2 _ (g6 y hy2).1,(g6 y hy2).2⟩
   ·-- apart
    have sep:∀ y ∈ r',y.1 ≠ x.1→∀ b ∈ xw y.2.1.1,b ∉ xw x.2.1.1:=by
     intro y hy hne b hb hb'
     rcases hsrc y hy with h | ⟨z,hz,hz1,hz2⟩
     ·have:=hfp b (h b hb)
      have:=jc (hown7 x hx) b hb'
      omega
     ·rw [← hz2] at hb
      exact hap z hz x hx (by rw [hz1];exact hne) b hb hb'
    intro y hy y' hy' hne b hb hb'
    rcases zqc hy with ⟨a1,a2⟩ | ⟨a1,a2⟩ <;> rcases zqc hy' with ⟨b1,b2⟩ | ⟨b1,b2⟩
    ·exact hne (a1.trans b1.symm)
    ·rw [a2] at hb
     exact sep y' b2 b1 b hb' hb
    ·rw [b2] at hb'
     exact sep y a2 a1 b hb hb'
    ·exact g7 y a2 y' b2 hne b hb hb'
   ·rw [qj7]
    by_cases hk:k=x.1
    ·rw [if_pos hk,if_pos hk]
     subst hk
     cases hv:zay r x.1 with
     | none=>rfl
     | some old=>simp only [z15,if_neg (hold old hv)]
    ·rw [if_neg hk,if_neg hk]
   ·intro y hy
    rcases zqc hy with ⟨a1,a2⟩ | ⟨a1,a2⟩
    ·exact .inr ⟨x,hx,a1.symm,a2.symm⟩
    ·exact hsrc y a2
def nought:List UInt8:=List.replicate 32 0
theorem zd1:nought.length=32:=by simp [nought]
def Small (r:SM):Prop:=∀ k L,zay r k=some L→L.length < 1099511627776
end Go.Proofs.YtbmegmbnlajbbaaGreatDoor.Bl
namespace Go.Fw.Sha
open Go.Fw
def M32:Nat:=4294967296
def rN (x n:Nat):Nat:=x >>> n ||| (x <<< (32 - n)) % M32
def force (n:Nat) (k:Nat→List Nat):List Nat:=Nat.rec (k 0) (fun m _=>k (Nat.succ m)) n
theorem force_eq (n:Nat) (k:Nat→List Nat):force n k=k n:=by cases n <;> rfl
def qkp (ws:List Nat):Nat :=
 let x:=ws.getD 1 0
 let y:=ws.getD 14 0
 ((((rN x 17 ^^^ rN x 19 ^^^ x >>> 10)+ws.getD 6 0) % M32+(rN y 7 ^^^ rN y 18 ^^^ y >>> 3)) % M32+ws.getD 15 0) % M32
def qad:Nat→List Nat→List Nat
 | 0,ws=>ws
 | n+1,ws=>force (qkp ws) fun v=>qad n (v :: ws)
def qo6 (x:Nat):Nat:=4294967295 - x
def qoq (e f g h k w:Nat):Nat:=((((h+(rN e 6 ^^^ rN e 11 ^^^ rN e 25)) % M32+(e &&& f ^^^ qo6 e &&& g)) % M32+k) % M32+w) % M32
def qou (a b c:Nat):Nat:=((rN a 2 ^^^ rN a 13 ^^^ rN a 22)+(a &&& b ^^^ a &&& c ^^^ b &&& c)) % M32
def z3s:List Nat→List Nat→(a b c d e f g h:Nat)→List Nat
 | k :: ks,w :: ws,a,b,c,d,e,f,g,h =>
  force (qoq e f g h k w) fun t1=>force ((t1+qou a b c) % M32) fun a'=>force ((d+t1) % M32) fun e'=>z3s ks ws a' a b c e' e f g
 | _,_,a,b,c,d,e,f,g,h=>[a,b,c,d,e,f,g,h]
def nums (f:Nat→BitVec 32) (n:Nat):List Nat:=(List.range n).map fun i=>(f i).toNat
def zpc (f:Nat→BitVec 32):Nat→List Nat
 | 0=>[]
 | n+1=>(f n).toNat :: zpc f n
theorem zqg (f:Nat→BitVec 32):∀ (n i:Nat),i < n→(zpc f n).getD i 0=(f (n - 1 - i)).toNat
 | 0,_,h=>by omega
 | n+1,0,_=>by simp [zpc]
 | n+1,i+1,h=>by
  have:=zqg f n i (by omega)
  simp only [zpc,List.getD_cons_succ,this]
  congr 2
  omega
theorem z3p (x:BitVec 32) (n:Nat):(rotr x n).toNat=rN x.toNat n:=by
 simp [rotr,rN,M32]
theorem qjw (m:Nat→BitVec 32) {t:Nat} (h:16≤t):qkp (zpc (W m) t)=(W m t).toNat:=by
 rw [W_ge h]
 simp only [qkp,zqg _ _ _ (show 1 < t by omega),zqg _ _ _ (show 14 < t by omega),zqg _ _ _ (show 6 < t by omega),zqg _ _ _ (show 15 < t by omega),BitVec.toNat_add,BitVec.toNat_xor,z3p,BitVec.toNat_ushiftRight]
 rw [show t - 1 - 1=t - 2 from by omega,show t - 1 - 14=t - 15 from by omega,show t - 1 - 6=t - 7 from by omega,show t - 1 - 15=t - 16 from by omega]
 rfl
theorem qdu (m:Nat→BitVec 32):∀ (n t:Nat),16≤t→qad n (zpc (W m) t)=zpc (W m) (t+n)
 | 0,t,_=>rfl
 | n+1,t,h=>by
  rw [qad,force_eq,qjw m h]
  show qad n (zpc (W m) (t+1))=_
  rw [qdu m n (t+1) (by omega),show t+1+n=t+(n+1) from by omega]
theorem qm1 (s:Nat→BitVec 32) (k w:BitVec 32):(one s k w).toNat=qoq (s 4).toNat (s 5).toNat (s 6).toNat (s 7).toNat k.toNat w.toNat:=by
 simp only [one,qoq,BitVec.toNat_add,BitVec.toNat_xor,z3p,BitVec.toNat_and,BitVec.toNat_not,qo6]
 rfl
theorem ql6 (s:Nat→BitVec 32):(two s).toNat=qou (s 0).toNat (s 1).toNat (s 2).toNat:=by
 simp only [two,qou,BitVec.toNat_add,BitVec.toNat_xor,z3p,BitVec.toNat_and]
 rfl
def zt8 (f:Nat→BitVec 32) (t:Nat):Nat→List Nat
 | 0=>[]
 | n+1=>(f t).toNat :: zt8 f (t+1) n
theorem z8y (w s:Nat→BitVec 32):∀ (n t:Nat),z3s (zt8 K t n) (zt8 w t n) (rnd w s t 0).toNat (rnd w s t 1).toNat (rnd w s t 2).toNat (rnd w s t 3).toNat (rnd w s t 4).toNat (rnd w s t 5).toNat (rnd w s t 6).toNat (rnd w s t 7).toNat =
  nums (rnd w s (t+n)) 8
 | 0,t=>rfl
 | n+1,t=>by
  simp only [zt8,z3s,force_eq]
  rw [← qm1,← ql6]
  have h:=z8y w s n (t+1)
  rw [show t+1+n=t+(n+1) from by omega] at h
  rw [← h]
  congr 1
theorem z9f (f:Nat→BitVec 32):∀ (n:Nat) (l:List Nat),(zpc f n).reverse++l=zt8 f 0 n++l:=by
 have key:∀ (n t:Nat),zt8 f t (n+1)=zt8 f t n++[(f (t+n)).toNat]:=by
  intro n
  induction n with
  | zero=>intro t;rfl
  | succ n ih =>
   intro t
   rw [zt8,ih (t+1),show t+1+n=t+(n+1) from by omega]
   rfl
 intro n
 induction n with
 | zero=>intro l;rfl
 | succ n ih =>
  intro l
  rw [zpc,List.reverse_cons,List.append_assoc,ih,key,Nat.zero_add]
  simp
def qlr (ms:List Nat) (s:List Nat):List Nat :=
 let ws:=(qad 48 ms.reverse).reverse
 (z3s kc ws (s.getD 0 0) (s.getD 1 0) (s.getD 2 0) (s.getD 3 0) (s.getD 4 0) (s.getD 5 0) (s.getD 6 0) (s.getD 7 0)).zipWith (fun x y=>(y+x) % M32) s
theorem qoj:zt8 K 0 64=kc:=by kernel_rfl
theorem qld (s m:Nat→BitVec 32):qlr (zt8 m 0 16) (nums s 8)=nums (comp s m) 8:=by
 have h1:(zt8 m 0 16).reverse=zpc (W m) 16:=by
  have h2:zpc (W m) 16=zpc m 16:=by
   have:∀ n,n≤16→zpc (W m) n=zpc m n:=by
    intro n
    induction n with
    | zero=>intro _;rfl
    | succ n ih =>
     intro hn
     rw [zpc,zpc,ih (by omega),W_lt (by omega)]
   exact this 16 (Nat.le_refl _)
  rw [h2]
  have:=z9f m 16 []
  simp only [List.append_nil] at this
  rw [← this,List.reverse_reverse]
 have h3:((zpc (W m) 64).reverse)=zt8 (W m) 0 64:=by
  have:=z9f (W m) 64 []
  simpa using this
 unfold qlr
 simp only [h1]
 rw [qdu m 48 16 (Nat.le_refl _),h3,← qoj]
 have h4:=z8y (W m) s 64 0
 have h5:∀ i,i < 8→(nums s 8).getD i 0=(rnd (W m) s 0 i).toNat:=by
  intro i hi
  simp [nums,List.getD_eq_getElem?_getD,hi,rnd]
 rw [h5 0 (by omega),h5 1 (by omega),h5 2 (by omega),h5 3 (by omega),h5 4 (by omega),h5 5 (by omega),h5 6 (by omega),h5 7 (by omega),h4]
 simp only [nums,Nat.zero_add]
 rw [List.zipWith_map,List.zipWith_self]
 apply List.map_congr_left
 intro i _
 simp only [comp,BitVec.toNat_add]
 rfl
def qlq (l:List UInt8) (n t:Nat):Nat:=((nth l (64 * n+4 * t)).toNat <<< 24) % M32 ||| ((nth l (64 * n+(4 * t+1))).toNat <<< 16) % M32 ||| ((nth l (64 * n+(4 * t+2))).toNat <<< 8) % M32 ||| (nth l (64 * n+(4 * t+3))).toNat
def qcy (l:List UInt8) (n:Nat):Nat→Nat→List Nat
 | _,0=>[]
 | t,k+1=>qlq l n t :: qcy l n (t+1) k
def z4p (l:List UInt8):Nat→List Nat
 | 0=>ic
 | n+1=>qlr (qcy l n 0 16) (z4p l n)
theorem qlb (b:UInt8):(b32 b).toNat=b.toNat:=by
 have:=b.toNat_lt
 simp [b32]
theorem qiw (l:List UInt8) (n t:Nat):qlq l n t=(word (fun j=>nth l (64 * n+j)) t).toNat:=by
 simp only [qlq,word,BitVec.toNat_or,BitVec.toNat_shiftLeft,qlb]
 rfl
theorem z9d (l:List UInt8) (n:Nat):∀ (k t:Nat),qcy l n t k=zt8 (word (fun j=>nth l (64 * n+j))) t k
 | 0,_=>rfl
 | k+1,t=>by rw [qcy,zt8,qiw,z9d l n k (t+1)]
theorem qow:nums init 8=ic:=by kernel_rfl
theorem z2r (l:List UInt8):∀ n,z4p l n=nums (blocks l n) 8
 | 0=>qow.symm
 | n+1=>by rw [z4p,blocks,← qld,z2r l n,z9d]
def qo3 (l:List UInt8):List UInt8 :=
 let s:=z4p (pad l) ((pad l).length / 64)
 (List.range 32).map fun i=>UInt8.ofNat (s.getD (i / 4) 0 >>> (24 - 8 * (i % 4)))
theorem sum_eq (l:List UInt8):sum l=qo3 l:=by
 unfold sum qo3
 apply List.map_congr_left
 intro i hi
 have hi:i < 32:=by simpa using hi
 simp only [z2r,out]
 have:(nums (blocks (pad l) ((pad l).length / 64)) 8).getD (i / 4) 0=(blocks (pad l) ((pad l).length / 64) (i / 4)).toNat:=by
  have:i / 4 < 8:=by omega
  simp [nums,List.getD_eq_getElem?_getD,this]
 rw [this]
 simp [lo8]
end Go.Fw.Sha
namespace Go.Proofs.YtbmegmbnlajbbaaGreatDoor.Bl
open Go Go.Fw Go.Proofs
theorem qek {r:SM} (hk:(r.map (·.1)).Nodup) {k:List UInt8} {v:BV} (hg:zcj r k=some v):(qag r k).length+1=r.length:=by
 induction r with
 | nil=>simp [zcj] at hg
 | cons x r ih =>
  simp only [List.map_cons,List.nodup_cons] at hk
  by_cases e:x.1=k
  ·rw [zwn e,z9b fun y hy h=>hk.1 (by rw [e,← h];exact List.mem_map.2 ⟨y,hy,rfl⟩)]
   simp
  ·rw [zb7 e] at hg
   have:=ih hk.2 hg
   rw [zwk e]
   simp only [List.length_cons]
   omega
theorem qfe {r:SM} (hk:(r.map (·.1)).Nodup) {k:List UInt8} {v:BV} (hg:zcj r k=some v):total (qag r k)+v.2.length=total r:=by
 induction r with
 | nil=>simp [zcj] at hg
 | cons x r ih =>
  simp only [List.map_cons,List.nodup_cons] at hk
  by_cases e:x.1=k
  ·rw [zb8 e,Option.some.injEq] at hg
   rw [zwn e,z9b fun y hy h=>hk.1 (by rw [e,← h];exact List.mem_map.2 ⟨y,hy,rfl⟩),← hg]
   simp [total,Nat.add_comm]
  ·rw [zb7 e] at hg
   have:=ih hk.2 hg
   rw [zwk e]
   simp only [total,List.map_cons,List.sum_cons] at this ⊢
   omega
theorem zx7:∀ {r s:SM},(r.map (·.1)).Nodup→(s.map (·.1)).Nodup→(∀ k,zay r k=zay s k)→total r=total s∧r.length=s.length
 | [],s,_,_,h=>by
  cases s with
  | nil=>exact ⟨rfl,rfl⟩
  | cons y s =>
   have:=h y.1
   unfold zay at this
   rw [zb8 rfl] at this
   simp [zcj] at this
 | x :: r,s,hr,hs,h=>by
  simp only [List.map_cons,List.nodup_cons] at hr
  have h1:=h x.1
  unfold zay at h1
  rw [zb8 rfl] at h1
  cases hg:zcj s x.1 with
  | none=>rw [hg] at h1;simp at h1
  | some v =>
   rw [hg] at h1
   simp only [Option.map_some,Option.some.injEq] at h1
   have hd:((qag s x.1).map (·.1)).Nodup:=hs.sublist (List.Sublist.map _ List.filter_sublist)
   obtain ⟨i1,i2⟩:=zx7 (r:=r) (s:=qag s x.1) hr.2 hd fun k=>by
    rw [qjj]
    by_cases e:k=x.1
    ·rw [if_pos e]
     unfold zay
     rw [zlp];rfl
     intro y hy e2
     exact hr.1 (by rw [← e,← e2];exact List.mem_map.2 ⟨y,hy,rfl⟩)
    ·rw [if_neg e,← h k]
     unfold zay
     rw [zb7 (Ne.symm e)]
   have t1:=qfe hs hg
   have t2:=qek hs hg
   simp only [total,List.map_cons,List.sum_cons,List.length_cons] at i1 t1 ⊢
   rw [h1]
   omega
theorem Store.ok {H:Heap} {fp:List Nat} {p:Nat} {q:Int} {r:SM} {c:Nat} (h:Store H fp p q r c):MOk (fun L=>L.length=32) r c:=by
 obtain ⟨m,_,_,h3,_⟩:=h;exact h3
theorem qn8 {w:World} {H:Heap} {k:List UInt8} (hw:w.heap=H) (hk:k.length=32) {K:Nat→World→Prop}
  (hK:∀ w',w'.heap[H.size]?=some (.cells (byteCells k).toArray zf (0,0))→Ext [] H w'.heap→H.size < w'.heap.size→K H.size w') :
  zbn (zc P zf) zf w fun b w1=>zby P (storeVar zf (⟨b,0,none⟩:Addr) (arr k)) w1 fun w2=>K b w2:=by
 refine jv hw fun w1 hw1=>?_
 refine zbj (z2c.trans (by rw [za6,hk])) (by rw [za6,hk];omega) vg hw1 zn (by rw [qdj,za6,hk];simp) fun w5 hw5=>?_
 rw [show setCells (zc P zf) 0 (Value.cells (arr k)).toList=(byteCells k).toArray from by rw [zan (by rw [qdj,Array.length_toList,za6,hk];simp)];simp [Value.cells,arr]] at hw5
 exact hK w5 (by rw [hw5];exact qw zn) (by rw [hw5];exact (Ext.push _).set_own (.inl (Nat.le_refl _))) (by rw [hw5];simp)
end Go.Proofs.YtbmegmbnlajbbaaGreatDoor.Bl
namespace Go.Proofs
open Go.Shelf
def Tryz.sortD_ren:Go.Shelf.Ren:=⟨fun | 6=>149 | 15=>161 | 14=>183 | 28=>198 | 29=>199 | 20=>208 | 21=>209 | 22=>210 | 23=>211 | 24=>212 | 25=>213 | 26=>214 | 27=>215 | 46=>225 | 47=>218 | 48=>219 | 49=>226 | 50=>227 | 57=>230 | n=>n,fun | 22=>59 | 24=>30 | 25=>177 | 3=>3 | 39=>64 | 0=>0 | 53=>163 | 55=>162 | 4=>4 | 46=>279 | 45=>278 | 50=>149 | 5=>5 | 9=>9 | 66=>298 | 70=>301 | 76=>307 | 77=>308 | n=>n,fun | n=>n⟩
def Tryz.sortE_ren:Go.Shelf.Ren:=⟨fun | 6=>109 | 15=>161 | 14=>160 | 28=>198 | 29=>199 | 20=>190 | 21=>191 | 22=>192 | 23=>193 | 24=>194 | 25=>195 | 26=>196 | 27=>197 | 46=>217 | 47=>218 | 48=>219 | 49=>220 | 50=>221 | 57=>229 | n=>n,fun | 22=>105 | 24=>117 | 25=>191 | 3=>3 | 39=>64 | 0=>0 | 53=>163 | 55=>162 | 4=>4 | 46=>279 | 45=>278 | 50=>149 | 5=>5 | 9=>9 | 66=>298 | 70=>301 | 76=>307 | 77=>308 | n=>n,fun | n=>n⟩
theorem Tryz.sortE:Go.Proofs.SlLaysF0.n6 Tryz.prog Tryz.sortE_ren:={
 mixed:=by kernel_rfl
 f6:=⟨Tryz.f109.name,by decide,Tryz.func109.trans (congrArg some (by kernel_rfl))⟩
 f14:=⟨Tryz.f160.name,by decide,Tryz.func160.trans (congrArg some (by kernel_rfl))⟩
 f15:=Tryz.func161.trans (congrArg some (by kernel_rfl))
 f20:=⟨Tryz.f190.name,by decide,Tryz.func190.trans (congrArg some (by kernel_rfl))⟩
 f21:=⟨Tryz.f191.name,by decide,Tryz.func191.trans (congrArg some (by kernel_rfl))⟩
 f22:=⟨Tryz.f192.name,by decide,Tryz.func192.trans (congrArg some (by kernel_rfl))⟩
 f23:=⟨Tryz.f193.name,by decide,Tryz.func193.trans (congrArg some (by kernel_rfl))⟩
 f24:=⟨Tryz.f194.name,by decide,Tryz.func194.trans (congrArg some (by kernel_rfl))⟩
 f25:=⟨Tryz.f195.name,by decide,Tryz.func195.trans (congrArg some (by kernel_rfl))⟩
 f26:=⟨Tryz.f196.name,by decide,Tryz.func196.trans (congrArg some (by kernel_rfl))⟩
 f27:=⟨Tryz.f197.name,by decide,Tryz.func197.trans (congrArg some (by kernel_rfl))⟩
 f28:=Tryz.func198.trans (congrArg some (by kernel_rfl))
 f29:=Tryz.func199.trans (congrArg some (by kernel_rfl))
 f46:=⟨Tryz.f217.name,by decide,Tryz.func217.trans (congrArg some (by kernel_rfl))⟩
 f47:=Tryz.func218.trans (congrArg some (by kernel_rfl))
 f48:=Tryz.func219.trans (congrArg some (by kernel_rfl))
 f49:=⟨Tryz.f220.name,by decide,Tryz.func220.trans (congrArg some (by kernel_rfl))⟩
 f50:=⟨Tryz.f221.name,by decide,Tryz.func221.trans (congrArg some (by kernel_rfl))⟩
 f57:=⟨Tryz.f229.name,by decide,Tryz.func229.trans (congrArg some (by kernel_rfl))⟩
 t0:=Tryz.underlying0
 a0:=Tryz.isAgg0
 z0:=Tryz.sizeOf0
 v0:=Tryz.zeroValue0
 t3:=Tryz.underlying3
 a3:=Tryz.isAgg3
 z3:=Tryz.sizeOf3
 v3:=Tryz.zeroValue3
 t4:=Tryz.underlying4
 a4:=Tryz.isAgg4
 z4:=Tryz.sizeOf4
 v4:=Tryz.zeroValue4
 t5:=Tryz.underlying5
 a5:=Tryz.isAgg5
 z5:=Tryz.sizeOf5
 v5:=Tryz.zeroValue5
 t9:=Tryz.underlying9
 a9:=Tryz.isAgg9
 z9:=Tryz.sizeOf9
 v9:=Tryz.zeroValue9
 t22:=Tryz.underlying105
 a22:=Tryz.isAgg105
 z22:=Tryz.sizeOf105
 v22:=Tryz.zeroValue105
 t25:=Tryz.underlying191
 a25:=Tryz.isAgg191
 z25:=Tryz.sizeOf191
 v25:=Tryz.zeroValue191
 t39:=Tryz.underlying64
 a39:=Tryz.isAgg64
 z39:=Tryz.sizeOf64
 v39:=Tryz.zeroValue64
 t45:=Tryz.underlying278
 a45:=Tryz.isAgg278
 z45:=Tryz.sizeOf278
 v45:=Tryz.zeroValue278
 t46:=Tryz.underlying279
 a46:=Tryz.isAgg279
 z46:=Tryz.sizeOf279
 v46:=Tryz.zeroValue279
 t50:=Tryz.underlying149
 a50:=Tryz.isAgg149
 z50:=Tryz.sizeOf149
 v50:=Tryz.zeroValue149
 t53:=Tryz.underlying163
 a53:=Tryz.isAgg163
 z53:=Tryz.sizeOf163
 v53:=Tryz.zeroValue163
 t55:=Tryz.underlying162
 a55:=Tryz.isAgg162
 z55:=Tryz.sizeOf162
 v55:=Tryz.zeroValue162
 t66:=Tryz.underlying298
 a66:=Tryz.isAgg298
 z66:=Tryz.sizeOf298
 v66:=Tryz.zeroValue298
 t70:=Tryz.underlying301
 a70:=Tryz.isAgg301
 z70:=Tryz.sizeOf301
 v70:=Tryz.zeroValue301
 t76:=Tryz.underlying307
 a76:=Tryz.isAgg307
 z76:=Tryz.sizeOf307
 v76:=Tryz.zeroValue307
 t77:=Tryz.underlying308
 a77:=Tryz.isAgg308
 z77:=Tryz.sizeOf308
 v77:=Tryz.zeroValue308 }
end Go.Proofs
namespace Go.Proofs.YtbmegmbnlajbbaaGreatDoor.Bl
open Go Go.Fw Go.Proofs
theorem ql4:P.underlying ku=some (.slice zf):=by kernel_rfl
theorem E27:Elem P zf 32 32:=zn0 (z:=arr (List.replicate 32 0)) (by kernel_rfl) rfl
theorem sz5:(P.info? qy).map (·.size)=some 1:=by kernel_rfl
theorem qe2 {w:World} {H:Heap} {a a':Option Addr} {l c l' c':Nat} {L L':List UInt8} (hw:w.heap=H) (hL:Cells H a (byteCells L)) (hl:l=L.length) (hL':Cells H a' (byteCells L')) (hl':l'=L'.length) :
  qj P zlc #[.slice a l c,.slice a' l' c'] w fun e w'=>e=.returned (.int .i64 (Lib.compareBytes L L'))∧w'=w:=by
 refine zw4 ?_
 unfold zk0
 refine zxm (l:=[.int .i64]) (t:=Lib.compareBytes L L') ?_ ⟨rfl,rfl⟩
 rw [zlh (e:=Extern.BytealgCompare.compare) (by kernel_rfl),z06 hw hL hl hL' hl']
 rfl
theorem z9n {w:World} {k k':List UInt8} (hk:k.length=32) (hk':k'.length=32) :
  qj P ztk #[arr k,arr k'] w fun e w'=>e=.returned (.int .i64 (Lib.compareBytes k k'))∧Ext [] w.heap w'.heap:=by
 refine z1g ?_
 unfold zo2
 refine jv rfl fun w1 hw1=>?_
 refine jv hw1 fun w2 hw2=>?_
 refine jw hw2 fun w3 hw3=>?_
 refine qm (s:=.slc) (some ⟨w.heap.size,0,none⟩,32,32) (zdw u27 sz5 .no .no (Nat.zero_le _) (Nat.le_refl _)) ?_
 refine qm (s:=.slc) (some ⟨(w.heap.push (.cells (Value.cells (arr k)) zf)).size,0,none⟩,32,32) (zdw u27 sz5 .no .no (Nat.zero_le _) (Nat.le_refl _)) ?_
 refine zl (qe2 (L:=k) (L':=k') hw3 ?_ hk.symm ?_ hk'.symm) ?_
 ·exact .inr ⟨_,0,_,_,_,rfl,zeg zn,by simp [arr,Value.cells,byteCells],by rw [Nat.zero_add];simp [arr,Value.cells,byteCells,List.take_of_length_le]⟩
 ·exact .inr ⟨_,0,_,_,_,rfl,zn,by simp [arr,Value.cells,byteCells],by rw [Nat.zero_add];simp [arr,Value.cells,byteCells,List.take_of_length_le]⟩
 rintro e w4 ⟨rfl,rfl⟩
 exact ⟨_,rfl,rfl,by rw [hw3];exact (Ext.push _).trans (Ext.push _)⟩
def pad (L:List UInt8):List UInt8:=(L++List.replicate 32 0).take 32
theorem zv6 (L:List UInt8):(pad L).length=32:=by simp [pad]
theorem qgc {L:List UInt8} (h:L.length=32):pad L=L:=by unfold pad;rw [← h];simp
def zgg (L:List UInt8):List Value:=byteCells (pad L)
theorem zd7 (L:List UInt8):(zgg L).length=32:=by rw [zgg,jf,zv6]
theorem zgx {L:List UInt8} (h:L.length=32):zgg L=byteCells L:=by rw [zgg,qgc h]
theorem qmd {L:List UInt8} (h:L.length=32):Value.agg (zgg L).toArray=arr L:=by rw [zgx h];rfl
theorem zx9 {L:List UInt8}:zcz (zgg L):=vg
theorem qds {r:SM} (hk:(r.map (·.1)).Nodup) {y:List UInt8 × BV × Nat} (hy:y ∈ r):zay r y.1=some y.2.1.2:=by
 unfold zay
 rw [zsj hk hy]
 rfl
def zhg (x:List UInt8 × BV × Nat):List Value:=byteCells (pad x.1)++[zcr x.2.1.1]
theorem ze1 (x:List UInt8 × BV × Nat):(zhg x).length=33:=by simp [zhg,jf,zv6]
theorem qi4 {x:List UInt8 × BV × Nat}:zcz (zhg x):=by
 intro v hv
 rcases List.mem_append.1 hv with h | h
 ·exact vg v h
 ·simp only [List.mem_singleton] at h;subst h;rfl
def zlt (rl:SM):Prop:=rl.Pairwise fun a b=>Lib.compareBytes a.1 b.1 < 0
structure ROk (rl:SM):Prop where
 len:∀ x ∈ rl,x.1.length=32
 rise:zlt rl
def zeq (H:Heap) (fp:List Nat) (p:Nat) (q:Int) (rl:SM):Prop :=
 ∃ x,H[p]?=some (.cells #[.int .i64 q,zcr x] zfb (0,0))∧Mine H 0 zbk 33 x (rl.flatMap zhg)∧p ∈ fp∧(∀ b ∈ xw x,b ∈ fp)∧qaj H fp rl∧Apart rl∧ROk rl
theorem zeq.ext {M fp:List Nat} {H H':Heap} {p:Nat} {q:Int} {rl:SM} (h:zeq H fp p q rl) (hx:Ext M H H') (hM:∀ b ∈ fp,b ∉ M):zeq H' fp p q rl:=by
 obtain ⟨x,h1,h2,h3,h4,h5,h6⟩:=h
 exact ⟨x,hx.get h1 (hM p h3),h2.ext hx (fun b hb=>hM b (h4 b hb)),h3,h4,h5.ext hx hM,h6⟩
theorem zlt.nodup {rl:SM} (h:zlt rl):(rl.map (·.1)).Nodup:=by
 unfold zlt at h
 rw [List.nodup_iff_pairwise_ne,List.pairwise_map]
 exact h.imp fun {a b} hab e=>by rw [e,(zfs).2 rfl] at hab;omega
theorem zj5 {H:Heap} {B:Nat} {x:Option Addr × Nat × Nat} {rl:SM} (h:Mine H B zbk 33 x (rl.flatMap zhg)):x.2.1=rl.length:=by
 have:=h.len
 rw [qg zhg ze1] at this
 omega
theorem uB:P.underlying vk=some (.slice zbk):=by kernel_rfl
theorem EB:Elem P zbk 33 56:=zn0 (z:=Value.agg ((List.replicate 32 (Value.int .u8 0))++[Value.slice none 0 0]).toArray) (by kernel_rfl) rfl
theorem szB:(P.info? zbk).map (·.size)=some 33:=by kernel_rfl
theorem bR (a:Int) (w:World):(Instr.build zfb #[(0,.int .i64 a)]).run P w=.ok (.agg #[.int .i64 a,.slice none 0 0]) w:=by kernel_rfl
theorem qj9 {w:World} {H:Heap} (q:Int) (hw:w.heap=H):qj P ztf #[.int .i64 q] w fun e w'=>∃ p,e=.returned (.pointer (some ⟨p,0,none⟩))∧zeq w'.heap [p] p (max q 0) []∧Ext [] H w'.heap∧H.size≤p∧p < w'.heap.size:=by
 refine qe5 ?_
 unfold zz0
 refine qm (s:=.int .i64) (max q 0) ?_ ?_
 ·rw [run_max_int2]
  congr 2
  show (if (0:Int) > q then 0 else q)=max q 0
  split <;> omega
 refine qm (s:=.any) _ (bR _ _) ?_
 refine jv hw fun w1 hw1=>?_
 refine ⟨H.size,rfl,⟨(none,0,0),by rw [hw1];exact zn,.inl ⟨rfl,rfl⟩,by simp,by simp [xw],(by intro x hx;cases hx),(by intro x hx;cases hx),⟨by simp,.nil⟩⟩,by rw [hw1];exact .push _,Nat.le_refl _,by rw [hw1];simp⟩
theorem zdh {α:Type} {enc:α→List Value} {sz:Nat} {H:Heap} {a:Option Addr} {len:Nat} (hk:∀ x,(enc x).length=sz) (h0:0 < sz) {xs:List α} {v:α} {i:Nat} {n:Int} (hL:Cells H a (xs.flatMap enc))
  (hlen:len=xs.length) (hi:xs[i]?=some v) (hn:n=(i:Int)) {K:Addr→Prop} (hK:∀ b o c T fr,a.map (·.block)=some b→H[b]?=some (.cells c T fr)→o+sz≤c.size→(∀ j,j < sz→c[o+j]?=(enc v)[j]?)→(a=some ⟨b,0,none⟩→o=i * sz)→K ⟨b,o,none⟩):ixS a len sz n K:=by
 have hlt:=(List.getElem?_eq_some_iff.1 hi).1
 rcases hL with h | ⟨b,o,c,T,fr,rfl,hb,hsz,hc⟩
 ·have:=congrArg List.length h
  rw [qg enc hk] at this
  have:=Nat.mul_pos (show 0 < xs.length by omega) h0
  simp_all
 ·refine qi8 i hn (by omega) ?_
  have hm:i * sz+sz≤xs.length * sz:=by
   have:=Nat.mul_le_mul_right sz (show i+1≤xs.length by omega)
   rw [Nat.add_mul] at this;omega
  rw [qg enc hk] at hsz
  refine hK b (o+i * sz) c T fr rfl hb (by omega) (fun j hj=>?_) (fun h=>by cases h;omega)
  have h2:(xs.flatMap enc)[i * sz+j]?=(enc v)[j]?:=by
   rw [getElem_flatMap enc hk h0]
   have h3:(i * sz+j) / sz=i:=by
    rw [Nat.mul_comm,Nat.mul_add_div h0,Nat.div_eq_of_lt hj];rfl
   have h4:(i * sz+j) % sz=j:=by
    rw [Nat.mul_comm,Nat.mul_add_mod,Nat.mod_eq_of_lt hj]
   rw [h3,h4,hi];rfl
  rw [← hc,Array.getElem?_toList,Array.getElem?_extract,qg enc hk,if_pos (by omega)] at h2
  rw [← h2]
  congr 1;omega
theorem z8w {c:Array Value} {o:Nat} {x:List UInt8 × BV × Nat} (h32:x.1.length=32) (hs:o+33≤c.size) (h:∀ j,j < 33→c[o+j]?=(zhg x)[j]?):c.extract o (o+32)=(byteCells x.1).toArray:=by
 apply Array.ext_getElem?
 intro j
 rw [Array.getElem?_extract]
 by_cases hj:j < 32
 ·rw [if_pos (by omega),h j (by omega),zhg,List.getElem?_append_left (by rw [jf,zv6];exact hj),qgc h32]
  simp
 ·rw [if_neg (by omega),Array.getElem?_eq_none (by simp [jf,h32];omega)]
theorem z5b {c:Array Value} {o:Nat} {x:List UInt8 × BV × Nat} (h:∀ j,j < 33→c[o+j]?=(zhg x)[j]?):c[o+32]?=some (zcr x.2.1.1):=by
 rw [h 32 (by omega),zhg,List.getElem?_append_right (by rw [jf,zv6];omega),jf,zv6]
 rfl
theorem z4j {w:World} {H:Heap} {a:Option Addr} {len i:Nat} {n:Int} {rl:SM} {x:List UInt8 × BV × Nat} (hw:w.heap=H) (hL:Cells H a (rl.flatMap zhg)) (hlen:len=rl.length) (hi:rl[i]?=some x) (hn:n=(i:Int)) (h32:x.1.length=32) {K:Array Value→Prop}
  (hK:K (byteCells x.1).toArray):ixS a len 33 n fun p=>ldA P 32 p w K:=by
 refine zdh ze1 (by omega) hL hlen hi hn fun b o c T fr _ hb hs hc _=>?_
 refine zre hw hb (by omega) ?_
 rw [z8w h32 hs hc];exact hK
theorem zua {w:World} {H:Heap} {a:Option Addr} {len i:Nat} {n:Int} {rl:SM} {x:List UInt8 × BV × Nat} (hw:w.heap=H) (hL:Cells H a (rl.flatMap zhg)) (hlen:len=rl.length) (hi:rl[i]?=some x) (hn:n=(i:Int)) {K:Option Addr × Nat × Nat→Prop}
  (hK:K x.2.1.1):ixS a len 33 n fun p=>ld .slc (Addr.add p 32) w K:=by
 refine zdh ze1 (by omega) hL hlen hi hn fun b o c T fr _ hb hs hc _=>?_
 rw [jr]
 exact jh (s:=.slc) hw hb (z5b hc) hK
theorem z8r {w:World} {k k':List UInt8} (hk:k.length=32) (hk':k'.length=32) :
  qj P zok #[arr k,arr k'] w fun e w'=>e=.returned (.int .i64 (Lib.compareBytes k k'))∧Ext [] w.heap w'.heap:=by
 refine z1w ?_
 unfold zn8
 refine jv rfl fun w1 hw1=>?_
 refine jv hw1 fun w2 hw2=>?_
 have hx2:Ext [] w.heap w2.heap:=by rw [hw2];exact (Ext.push _).trans (Ext.push _)
 have ha:w2.heap[w.heap.size]?=some (.cells (byteCells k).toArray zf (0,0)):=by rw [hw2];exact zeg zn
 have hb:w2.heap[(w.heap.push (.cells (Value.cells (arr k)) zf)).size]?=some (.cells (byteCells k').toArray zf (0,0)):=by rw [hw2];exact zn
 generalize (w.heap.push (.cells (Value.cells (arr k)) zf)).size=b3 at *
 have hstep:∀ (L L':List UInt8),L.length=L'.length→∀ i,(∀ j,j < i→L[j]?=L'[j]?)→i≤L.length→Lib.compareBytes L L'=Lib.compareBytes (L.drop i) (L'.drop i):=by
  intro L
  induction L with
  | nil=>intro L' hl i _ hi;cases L' with
   | nil=>simp
   | cons=>simp at hl
  | cons x L ih =>
   intro L' hl i hj hi
   cases L' with
   | nil=>simp at hl
   | cons y L' =>
    cases i with
    | zero=>rfl
    | succ i =>
     have h0:=hj 0 (by omega)
     simp at h0
     subst h0
     simp only [Lib.compareBytes,UInt8.lt_irrefl,if_false,List.drop_succ_cons]
     exact ih L' (by simpa using hl) i (fun j h=>by have:=hj (j+1) (by omega);simpa using this) (by simpa using hi)
 refine jd (fun (s:Int) W=>∃ i:Nat,s=(i:Int)∧i≤32∧W.heap=w2.heap∧∀ j,j < i→k[j]?=k'[j]?) (fun s _=>(32 - s).toNat) ⟨0,rfl,by omega,rfl,by intro j h;omega⟩ ?_
 rintro _ W ⟨i,rfl,hi,hW,heq⟩
 have hdrop:∀ (L:List UInt8) (h:i < L.length),L.drop i=L[i] :: L.drop (i+1):=fun L h=>List.drop_eq_getElem_cons h
 have hs:=hstep k k' (by omega) i heq (by omega)
 refine zq (fun hlt=>?_) (fun hge=>?_)
 ·have hik:i < k.length:=by omega
  have hik':i < k'.length:=by omega
  rw [hdrop k hik,hdrop k' hik'] at hs
  simp only [Lib.compareBytes] at hs
  refine jw hW fun W1 hW1=>?_
  refine zev i rfl (by omega) ?_
  refine zev i rfl (by omega) ?_
  refine jh (s:=.int .u8) (t:=(k[i].toNat:Int)) hW1 ha (by rw [List.getElem?_toArray,zdv hik,List.getD_eq_getElem?_getD,List.getElem?_eq_getElem hik];rfl) ?_
  refine jh (s:=.int .u8) (t:=(k'[i].toNat:Int)) hW1 hb (by rw [List.getElem?_toArray,zdv hik',List.getD_eq_getElem?_getD,List.getElem?_eq_getElem hik'];rfl) ?_
  refine zq (fun hl=>?_) (fun hnl=>?_)
  ·have:k[i] < k'[i]:=by rw [UInt8.lt_iff_toNat_lt];omega
   rw [if_pos this] at hs
   exact ⟨by rw [hs],by rw [hW1];exact hx2⟩
  have hn1:¬ k[i] < k'[i]:=by rw [UInt8.lt_iff_toNat_lt];omega
  rw [if_neg hn1] at hs
  refine jw hW1 fun W2 hW2=>?_
  refine zev i rfl (by omega) ?_
  refine zev i rfl (by omega) ?_
  refine jh (s:=.int .u8) (t:=(k[i].toNat:Int)) hW2 ha (by rw [List.getElem?_toArray,zdv hik,List.getD_eq_getElem?_getD,List.getElem?_eq_getElem hik];rfl) ?_
  refine jh (s:=.int .u8) (t:=(k'[i].toNat:Int)) hW2 hb (by rw [List.getElem?_toArray,zdv hik',List.getD_eq_getElem?_getD,List.getElem?_eq_getElem hik'];rfl) ?_
  refine zq (fun hl=>?_) (fun hnl2=>?_)
  ·have:k'[i] < k[i]:=by rw [UInt8.lt_iff_toNat_lt];omega
   rw [if_pos this] at hs
   exact ⟨by rw [hs],by rw [hW2];exact hx2⟩
  refine xu ((i+1:Nat):Int) (by omega) (by omega) (by omega) ?_
  refine ⟨⟨i+1,rfl,by omega,hW2,fun j hj=>?_⟩,by omega⟩
  by_cases e:j=i
  ·subst e
   rw [List.getElem?_eq_getElem hik,List.getElem?_eq_getElem hik']
   congr 1
   rw [← UInt8.toNat_inj];omega
  ·exact heq j (by omega)
 ·have:i=32:=by omega
  subst this
  rw [List.drop_of_length_le (by omega),List.drop_of_length_le (by omega)] at hs
  exact ⟨by rw [hs];rfl,by rw [hW];exact hx2⟩
structure Split (rl:SM) (k:List UInt8) (pre rest:SM):Prop where
 eq:rl=pre++rest
 lo:∀ x ∈ pre,Lib.compareBytes x.1 k < 0
 hi:∀ x ∈ rest,¬ Lib.compareBytes x.1 k < 0
theorem qj4 {rl:SM} {k:List UInt8} (hr:zlt rl) {i:Nat} (hi:i≤rl.length) (h1:∀ x ∈ rl.take i,Lib.compareBytes x.1 k < 0) (h2:∀ h:i < rl.length,¬ Lib.compareBytes (rl[i]).1 k < 0):Split rl k (rl.take i) (rl.drop i):=by
 refine ⟨(List.take_append_drop i rl).symm,h1,fun x hx=>?_⟩
 obtain ⟨j,hj,rfl⟩:=List.mem_iff_getElem.1 hx
 simp only [List.length_drop] at hj
 rw [List.getElem_drop]
 by_cases hj0:j=0
 ·subst hj0;exact h2 (by omega)
 ·have h3:=h2 (by omega)
  have h4:Lib.compareBytes (rl[i]'(by omega)).1 (rl[i+j]'(by omega)).1 < 0:=List.pairwise_iff_getElem.1 hr i (i+j) (by omega) (by omega) (by omega)
  intro h5
  exact h3 (ze5.2 (List.lt_trans (ze5.1 h4) (ze5.1 h5)))
def hit (rest:SM) (k:List UInt8):Bool:=match rest with | []=>false | x :: _=>decide (x.1=k)
theorem zxc {rl pre rest:SM} {k:List UInt8} (h:Split rl k pre rest) (hr:zlt rl) (hh:hit rest k=false):zay rl k=none:=by
 unfold zay
 rw [zlp];rfl
 intro x hx e
 rw [h.eq] at hx
 rcases List.mem_append.1 hx with hx | hx
 ·have:=h.lo x hx;rw [e,zfs.2 rfl] at this;omega
 ·cases rest with
  | nil=>cases hx
  | cons y rest =>
   rcases List.mem_cons.1 hx with rfl | hx
   ·simp [hit,e] at hh
   ·have h1:Lib.compareBytes y.1 x.1 < 0:=by
     have:=hr;unfold zlt at this;rw [h.eq] at this
     exact (List.pairwise_cons.1 (List.pairwise_append.1 this).2.1).1 x hx
    rw [e] at h1
    exact h.hi y (by simp) h1
theorem z5u {rl pre rest:SM} {k:List UInt8} (h:Split rl k pre rest) (hr:zlt rl) (hh:hit rest k=true):∃ x t,rest=x :: t∧x.1=k∧zay rl k=some x.2.1.2∧rl[pre.length]?=some x∧x ∈ rl:=by
 cases rest with
 | nil=>simp [hit] at hh
 | cons x t =>
  have e:x.1=k:=by simpa [hit] using hh
  have hm:x ∈ rl:=by rw [h.eq];simp
  exact ⟨x,t,rfl,e,by rw [← e];exact qds hr.nodup hm,by rw [h.eq];simp,hm⟩
theorem qjq {rl pre rest:SM} {k:List UInt8} (h:Split rl k pre rest) (hr:zlt rl):hit rest k=(zay rl k).isSome:=by
 cases hh:hit rest k with
 | false=>rw [zxc h hr hh];rfl
 | true=>obtain ⟨x,t,_,_,h1,_⟩:=z5u h hr hh;rw [h1];rfl
set_option maxHeartbeats 2000000 in
theorem qgp {w:World} {H:Heap} {fp:List Nat} {p:Nat} {q:Int} {rl:SM} {k:List UInt8} (hw:w.heap=H) (hS:zeq H fp p q rl) (hk:k.length=32) (hn:rl.length < 1099511627776) :
  qj P zeo #[.pointer (some ⟨p,0,none⟩),arr k] w fun e w'=>∃ pre rest,e=.returned (.tuple #[.int .i64 (pre.length:Int),.bool (hit rest k)])∧Split rl k pre rest∧Ext [] H w'.heap:=by
 obtain ⟨x,h1,h2,h3,h4,h5,h6,h7⟩:=hS
 have hxl:=zj5 h2
 refine zu0 ?_
 unfold zjb
 refine jv hw fun w1 hw1=>?_
 have hx1:Ext [] H w1.heap:=by rw [hw1];exact .push _
 have hb1:w1.heap[H.size]?=some (.cells (byteCells k).toArray zf (0,0)):=by rw [hw1];exact zn
 have h11:=hx1.get h1 (by simp)
 have h21:=h2.ext hx1 (by simp)
 refine joinP_of (fun (s:Int) W=>∃ i:Nat,s=(i:Int)∧i≤rl.length∧Ext [] w1.heap W.heap∧(∀ y ∈ rl.take i,Lib.compareBytes y.1 k < 0)∧∀ h:i < rl.length,¬ Lib.compareBytes (rl[i]).1 k < 0) ?_ ?_
 ·refine jd (fun (s:Int) W=>∃ i:Nat,s=(i:Int)∧i≤rl.length∧Ext [] w1.heap W.heap∧∀ y ∈ rl.take i,Lib.compareBytes y.1 k < 0) (fun s _=>(rl.length - s).toNat) ⟨0,rfl,Nat.zero_le _,.refl _ _,by simp⟩ ?_
  rintro _ W ⟨i,rfl,hi,hxW,hlo⟩
  refine zac ?_
  refine jw rfl fun W1 hW1=>?_
  have hx1:Ext [] w1.heap W1.heap:=by rw [hW1];exact hxW
  simp only [xq,jr,Nat.zero_add]
  refine jh (s:=.slc) (t:=x) rfl (hx1.get h11 (by simp)) rfl ?_
  refine zq (fun hlt=>?_) (fun hge=>?_)
  ·have hil:i < rl.length:=by omega
   refine jh (s:=.slc) (t:=x) rfl (hx1.get h11 (by simp)) rfl ?_
   refine z4j rfl (h21.ext hx1 (by simp)).cells hxl (List.getElem?_eq_getElem hil) rfl (h7.len _ (List.getElem_mem hil)) ?_
   refine je rfl (hx1.get hb1 (by simp)) (by simp [byteCells,hk]) ?_
   refine zl (z8r (h7.len _ (List.getElem_mem hil)) hk) ?_
   rintro e W2 ⟨rfl,hx2⟩
   refine ⟨_,rfl,?_⟩
   refine zq (fun hl=>?_) (fun hnl=>⟨i,rfl,hi,hx1.trans hx2,hlo,fun _=>hnl⟩)
   refine xu ((i+1:Nat):Int) (by omega) (by omega) (by omega) ?_
   refine ⟨⟨i+1,rfl,by omega,hx1.trans hx2,fun y hy=>?_⟩,by omega⟩
   rw [List.take_add_one,List.getElem?_eq_getElem hil] at hy
   rcases List.mem_append.1 hy with hy | hy
   ·exact hlo y hy
   ·simp only [Option.toList_some,List.mem_singleton] at hy;subst hy;exact hl
  ·exact ⟨i,rfl,hi,hx1,hlo,fun h=>by omega⟩
 ·rintro _ W ⟨i,rfl,hi,hxW,hlo,hhi⟩
  refine jw rfl fun W1 hW1=>?_
  have hx1':Ext [] w1.heap W1.heap:=by rw [hW1];exact hxW
  have hsp:=qj4 h7.rise hi hlo hhi
  have hpl:(rl.take i).length=i:=by simp;omega
  simp only [xq,jr,Nat.zero_add]
  refine jh (s:=.slc) (t:=x) rfl (hx1'.get h11 (by simp)) rfl ?_
  refine zq (fun hlt=>?_) (fun hge=>?_)
  ·have hil:i < rl.length:=by omega
   refine jh (s:=.slc) (t:=x) rfl (hx1'.get h11 (by simp)) rfl ?_
   refine z4j rfl (h21.ext hx1' (by simp)).cells hxl (List.getElem?_eq_getElem hil) rfl (h7.len _ (List.getElem_mem hil)) ?_
   refine je rfl (hx1'.get hb1 (by simp)) (by simp [byteCells,hk]) ?_
   refine qm (s:=.bool) _ (qb8 u27 u5 c5 g27 (h7.len _ (List.getElem_mem hil)) hk) ?_
   refine ⟨rl.take i,rl.drop i,?_,hsp,hx1.trans hx1'⟩
   rw [hpl,List.drop_eq_getElem_cons hil]
   rfl
  ·refine ⟨rl.take i,rl.drop i,?_,hsp,hx1.trans hx1'⟩
   rw [hpl,List.drop_of_length_le (by omega)]
   rfl
theorem qec {rl:SM} {i:Nat} (h:i < rl.length):total (rl.take (i+1))=total (rl.take i)+(rl[i]).2.1.2.length:=by
 unfold total
 rw [List.take_add_one,List.getElem?_eq_getElem h,List.map_append,List.sum_append]
 simp
theorem ztn {rl:SM} {i:Nat}:total (rl.take i)≤total rl:=by
 conv=>rhs;rw [← List.take_append_drop i rl]
 unfold total
 rw [List.map_append,List.sum_append]
 omega
theorem zzv {H:Heap} {fp:List Nat} {rl:SM} (h:qaj H fp rl) {i:Nat} {x:List UInt8 × BV × Nat} (hi:rl[i]?=some x):x.2.1.1.2.1=x.2.1.2.length:=by
 have:=(h x (List.mem_of_getElem? hi)).1.len
 rw [jf] at this;omega
theorem qde {w:World} {H:Heap} {fp:List Nat} {p:Nat} {q:Int} {rl:SM} (hw:w.heap=H) (hS:zeq H fp p q rl) (hn:rl.length < 1099511627776) (ht:total rl < 1125899906842624) :
  qj P zfh #[.pointer (some ⟨p,0,none⟩)] w fun e w'=>e=.returned (.int .i64 (total rl:Int))∧w'=w:=by
 obtain ⟨x,h1,h2,h3,h4,h5,h6,h7⟩:=hS
 have hxl:=zj5 h2
 refine zuo ?_
 unfold zia
 refine jd (fun (s:Int × Int) W=>∃ i:Nat,s=((total (rl.take i):Int),(i:Int))∧i≤rl.length∧W=w) (fun s _=>(rl.length - s.2).toNat) ⟨0,rfl,Nat.zero_le _,rfl⟩ ?_
 rintro _ _ ⟨i,rfl,hi,rfl⟩
 simp only [xq,jr,Nat.zero_add]
 refine jh (s:=.slc) (t:=x) hw h1 rfl ?_
 refine zq (fun hlt=>?_) (fun hge=>?_)
 ·have hil:i < rl.length:=by omega
  refine jh (s:=.slc) (t:=x) hw h1 rfl ?_
  refine zua hw h2.cells hxl (List.getElem?_eq_getElem hil) rfl ?_
  have hv:=zzv h5 (List.getElem?_eq_getElem hil)
  have ht1:=qec hil
  have ht2:=ztn (rl:=rl) (i:=i+1)
  refine xu ((total (rl.take (i+1)):Nat):Int) (by rw [hv];omega) (by omega) (by omega) ?_
  refine xu ((i+1:Nat):Int) (by omega) (by omega) (by omega) ?_
  exact ⟨⟨i+1,rfl,by omega,trivial⟩,by omega⟩
 ·have:i=rl.length:=by omega
  subst this
  rw [List.take_length]
  exact ⟨rfl,trivial⟩
theorem qn0 {w:World} {H:Heap} (hw:w.heap=H) {K:(Option Addr × Nat × Nat)→World→Prop} (hK:∀ w',Ext [] H w'.heap→Mine w'.heap H.size qy 1 (some ⟨H.size,0,none⟩,0,0) []→K (some ⟨H.size,0,none⟩,0,0) w'):zal P (Instr.buildSlice zh 0 #[]) .slc w K:=by
 refine zad (s:=.slc) (some ⟨H.size,0,none⟩,0,0) { w with heap:=H.push (.cells #[] qy) } (by rw [← hw];kernel_rfl) ?_
 exact hK _ (.push _) (.inr ⟨H.size,#[],rfl,Nat.le_refl _,zn,rfl,rfl,Nat.le_refl _,rfl⟩)
theorem qpe {w:World} {H:Heap} (hw:w.heap=H) {K:(Option Addr × Nat × Nat)→World→Prop} (hK:∀ w',Ext [] H w'.heap→Mine w'.heap H.size zbk 33 (some ⟨H.size,0,none⟩,0,0) []→K (some ⟨H.size,0,none⟩,0,0) w'):zal P (Instr.buildSlice vk 0 #[]) .slc w K:=by
 refine zad (s:=.slc) (some ⟨H.size,0,none⟩,0,0) { w with heap:=H.push (.cells #[] zbk) } (by rw [← hw];kernel_rfl) ?_
 exact hK _ (.push _) (.inr ⟨H.size,#[],rfl,Nat.le_refl _,zn,rfl,rfl,Nat.le_refl _,rfl⟩)
theorem qkz {w:World} {H:Heap} {B:Nat} {a:Option Addr} {l c:Nat} {L:List UInt8} {x:Option Addr × Nat × Nat} (hw:w.heap=H) (hx:Mine H B qy 1 x []) (hB:B≤H.size) (hL:Cells H a (byteCells L)) (hl:l=L.length) (hlen:L.length < 140000000000000) {K:(Option Addr × Nat × Nat)→World→Prop}
  (hK:∀ x' w',Mine w'.heap B qy 1 x' (byteCells L)→x'.2.1=L.length→Ext (xw x) H w'.heap→K x' w'):zal P (Builtin.append_ #[zh,zh] zh #[.slice x.1 x.2.1 x.2.2,.slice a l c]) .slc w K:=by
 subst hl
 have h0:x.2.1=0:=by have:=hx.len;simp at this;omega
 refine zw9 hw hx hB (Src.slc hw hL (by simp)) vg (by omega) ?_
 intro x2 w2 hO2 hl2 hx2 hm2
 rw [List.nil_append] at hO2
 exact hK x2 w2 hO2 (by omega) hx2
theorem zeq.rise {H:Heap} {fp:List Nat} {p:Nat} {q:Int} {rl:SM} (hS:zeq H fp p q rl):zlt rl:=by obtain ⟨_,_,_,_,_,_,_,h7⟩:=hS;exact h7.rise
theorem zeq.keys {H:Heap} {fp:List Nat} {p:Nat} {q:Int} {rl:SM} (hS:zeq H fp p q rl):(rl.map (·.1)).Nodup:=hS.rise.nodup
def zm4 (rl ol:SM):Nat:=((rl.filter fun x=>(zay ol x.1).isNone).map fun x=>x.2.1.2.length).sum
theorem qat {rl ol:SM} {i:Nat} (h:i < rl.length):zm4 (rl.take (i+1)) ol=zm4 (rl.take i) ol+if (zay ol (rl[i]).1).isSome then 0 else (rl[i]).2.1.2.length:=by
 unfold zm4
 rw [List.take_add_one,List.getElem?_eq_getElem h,List.filter_append,List.map_append,List.sum_append]
 cases hv:zay ol (rl[i]).1 <;> simp [hv]
theorem qha {rl ol:SM}:zm4 rl ol≤total rl:=by
 induction rl with
 | nil=>simp [zm4]
 | cons x l ih =>
  unfold zm4 total at *
  simp only [List.filter_cons,List.map_cons,List.sum_cons]
  split
  ·simp only [List.map_cons,List.sum_cons];omega
  ·omega
theorem qix {w:World} {H:Heap} {fp fo:List Nat} {p o:Nat} {q qo:Int} {rl ol:SM} (hw:w.heap=H) (hS:zeq H fp p q rl) (hO:zeq H fo o qo ol) (hn:rl.length < 1099511627776) (hno:ol.length < 1099511627776) (ht:total rl < 1125899906842624) :
  qj P zib #[.pointer (some ⟨p,0,none⟩),.pointer (some ⟨o,0,none⟩)] w fun e w'=>e=.returned (.int .i64 (zm4 rl ol:Int))∧Ext [] H w'.heap:=by
 obtain ⟨x,h1,h2,h3,h4,h5,h6,h7⟩:=hS
 have hxl:=zj5 h2
 refine zuk ?_
 unfold zh0
 refine jd (fun (s:Int × Int) W=>∃ i:Nat,s=((zm4 (rl.take i) ol:Int),(i:Int))∧i≤rl.length∧Ext [] H W.heap) (fun s _=>(rl.length - s.2).toNat) ⟨0,rfl,Nat.zero_le _,by rw [hw];exact .refl _ _⟩ ?_
 rintro _ W ⟨i,rfl,hi,hxW⟩
 simp only [xq,jr,Nat.zero_add]
 refine jh (s:=.slc) (t:=x) rfl (hxW.get h1 (by simp)) rfl ?_
 refine zq (fun hlt=>?_) (fun hge=>?_)
 ·have hil:i < rl.length:=by omega
  have hget:=List.getElem?_eq_getElem hil
  have hk:=h7.len _ (List.getElem_mem hil)
  have hv:=zzv h5 hget
  refine joinP_of (fun (s:Int) W2=>s=(zm4 (rl.take (i+1)) ol:Int)∧Ext [] H W2.heap) ?_ ?_
  ·refine jh (s:=.slc) (t:=x) rfl (hxW.get h1 (by simp)) rfl ?_
   refine z4j rfl (h2.ext hxW (by simp)).cells hxl hget rfl hk ?_
   refine zl (qgp rfl (hO.ext hxW (by simp)) hk hno) ?_
   rintro e W2 ⟨pre,rest,rfl,hsp,hx2⟩
   refine ⟨((pre.length:Int),hit rest (rl[i]).1),rfl,?_⟩
   have hns:=qat (rl:=rl) (ol:=ol) hil
   have hle:=qha (rl:=rl.take (i+1)) (ol:=ol)
   have hle2:=ztn (rl:=rl) (i:=i+1)
   rw [← qjq hsp hO.rise] at hns
   cases hh:hit rest (rl[i]).1 with
   | false =>
    rw [hh] at hns
    simp only [Bool.false_eq_true,if_false] at hns
    refine zab rfl ?_
    have hx02:=hxW.trans hx2
    refine jh (s:=.slc) (t:=x) rfl (hx02.get h1 (by simp)) rfl ?_
    refine zua rfl (h2.ext hx02 (by simp)).cells hxl hget rfl ?_
    refine xu ((zm4 (rl.take (i+1)) ol:Nat):Int) (by rw [hv];omega) (by omega) (by omega) ?_
    exact ⟨rfl,hx02⟩
   | true =>
    rw [hh] at hns
    simp only [if_true,Nat.add_zero] at hns
    refine jl rfl ?_
    exact ⟨by rw [hns],hxW.trans hx2⟩
  ·rintro _ W2 ⟨rfl,hx2⟩
   refine xu ((i+1:Nat):Int) (by omega) (by omega) (by omega) ?_
   exact ⟨⟨i+1,rfl,by omega,hx2⟩,by omega⟩
 ·have:i=rl.length:=by omega
  subst this
  rw [List.take_length]
  exact ⟨rfl,hxW⟩
abbrev BE:=List UInt8 × BV × Nat
theorem zzf {a b:SM} {k:List UInt8}:zcj (a++b) k=match zcj a k with | some v=>some v | none=>zcj b k:=by
 induction a with
 | nil=>rfl
 | cons x a ih =>
  rw [List.cons_append]
  by_cases e:x.1=k
  ·rw [zb8 e,zb8 e]
  ·rw [zb7 e,zb7 e,ih]
theorem ztq {pre t:SM} {y:BE} {k':List UInt8} (h:∀ x ∈ pre,x.1 ≠ y.1):zay (pre++y :: t) k'=if k'=y.1 then some y.2.1.2 else zay (pre++t) k':=by
 unfold zay
 rw [zzf,zzf]
 by_cases e:k'=y.1
 ·subst e
  rw [if_pos rfl,zlp h,zb8 rfl]
  rfl
 ·rw [if_neg e,zb7 (Ne.symm e)]
theorem zxa {pre t:SM} {y:BE}:zlt (pre++y :: t) ↔ zlt (pre++t)∧(∀ x ∈ pre,Lib.compareBytes x.1 y.1 < 0)∧∀ x ∈ t,Lib.compareBytes y.1 x.1 < 0:=by
 unfold zlt
 rw [List.pairwise_append,List.pairwise_append,List.pairwise_cons]
 constructor
 ·rintro ⟨h1,⟨h2,h3⟩,h4⟩
  exact ⟨⟨h1,h3,fun a ha b hb=>h4 a ha b (by simp [hb])⟩,fun a ha=>h4 a ha y (by simp),h2⟩
 ·rintro ⟨⟨h1,h3,h4⟩,h5,h2⟩
  refine ⟨h1,⟨h2,h3⟩,fun a ha b hb=>?_⟩
  rcases List.mem_cons.1 hb with rfl | hb
  ·exact h5 a ha
  ·exact h4 a ha b hb
theorem z5a {a b:List UInt8} (h:Lib.compareBytes a b < 0):a ≠ b:=by rintro rfl;rw [zfs.2 rfl] at h;omega
theorem zfd {pre t:SM} {y x:BE}:x ∈ pre++y :: t ↔ x=y ∨ x ∈ pre++t:=by
 simp only [List.mem_append,List.mem_cons]
 constructor
 ·rintro (h | h | h)
  ·exact .inr (.inl h)
  ·exact .inl h
  ·exact .inr (.inr h)
 ·rintro (h | h | h)
  ·exact .inr (.inl h)
  ·exact .inl h
  ·exact .inr (.inr h)
theorem Apart.sub {r r':SM} (h:Apart r) (hs:∀ x ∈ r',x ∈ r):Apart r':=fun x hx y hy=>h x (hs x hx) y (hs y hy)
theorem Apart.mid {pre t:SM} {y:BE} (h:Apart (pre++t)) (hy:∀ x ∈ pre++t,∀ b ∈ xw y.2.1.1,b ∉ xw x.2.1.1):Apart (pre++y :: t):=by
 intro a ha b hb hne c hc hc2
 rcases zfd.1 ha with e1 | ha' <;> rcases zfd.1 hb with e2 | hb'
 ·exact hne (by rw [e1,e2])
 ·exact hy b hb' c (by rw [← e1];exact hc) hc2
 ·exact hy a ha' c (by rw [← e2];exact hc2) hc
 ·exact h a ha' b hb' hne c hc hc2
theorem ROk.sub {pre t:SM} {y:BE} (h:ROk (pre++y :: t)):ROk (pre++t):=⟨fun x hx=>h.len x (zfd.2 (.inr hx)),(zxa.1 h.rise).1⟩
theorem ROk.mid {pre t:SM} {y:BE} (h:ROk (pre++t)) (hl:y.1.length=32) (h1:∀ x ∈ pre,Lib.compareBytes x.1 y.1 < 0) (h2:∀ x ∈ t,Lib.compareBytes y.1 x.1 < 0):ROk (pre++y :: t) :=
 ⟨fun x hx=>by rcases zfd.1 hx with rfl | hx;exact hl;exact h.len x hx,zxa.2 ⟨h.rise,h1,h2⟩⟩
theorem z8u {pre t:SM} {y:BE}:total (pre++y :: t)=y.2.1.2.length+total (pre++t):=by
 unfold total
 simp only [List.map_append,List.map_cons,List.sum_append,List.sum_cons]
 omega
theorem qll {pre t:SM} {y y':BE} (h:zhg y=zhg y'):(pre++y :: t).flatMap zhg=(pre++y' :: t).flatMap zhg:=by
 simp only [List.flatMap_append,List.flatMap_cons,h]
theorem Cells.dropB {H:Heap} {a:Option Addr} {rl:SM} (h:Cells H a (rl.flatMap zhg)) (k cap:Nat) (hcap:rl.length≤cap):Cells H (if cap=k then a else a.map (·.add (k * 33))) ((rl.drop k).flatMap zhg):=by
 by_cases hk:k < rl.length
 ·rw [if_neg (by omega)]
  have hl:(rl.flatMap zhg).length=rl.length * 33:=qg zhg ze1 _
  have:=h.part (k * 33) ((rl.length - k) * 33) (by rw [hl,← Nat.add_mul];exact Nat.mul_le_mul_right 33 (by omega))
  have he:((rl.flatMap zhg).drop (k * 33)).take ((rl.length - k) * 33)=(rl.drop k).flatMap zhg:=by
   have h1:rl.flatMap zhg=(rl.take k).flatMap zhg++(rl.drop k).flatMap zhg:=by rw [← List.flatMap_append,List.take_append_drop]
   have h2:((rl.take k).flatMap zhg).length=k * 33:=by rw [qg zhg ze1,List.length_take,Nat.min_eq_left (by omega)]
   have h3:((rl.drop k).flatMap zhg).length=(rl.length - k) * 33:=by rw [qg zhg ze1,List.length_drop]
   rw [h1,List.drop_left' h2,List.take_of_length_le (by omega)]
  rwa [he] at this
 ·left;rw [List.drop_eq_nil_of_le (by omega)];rfl
theorem Cells.takeB {H:Heap} {a:Option Addr} {rl:SM} (h:Cells H a (rl.flatMap zhg)) (k:Nat):Cells H a ((rl.take k).flatMap zhg):=by
 have:=h.take (((rl.take k).flatMap zhg).length)
 have h1:rl.flatMap zhg=(rl.take k).flatMap zhg++(rl.drop k).flatMap zhg:=by rw [← List.flatMap_append,List.take_append_drop]
 rwa [h1,List.take_left] at this
theorem qih {rl:SM}:zcz (rl.flatMap zhg):=by
 intro v hv
 obtain ⟨x,_,hx⟩:=List.mem_flatMap.1 hv
 exact qi4 v hx
theorem qnv {w:World} {H:Heap} {B:Nat} {x:Option Addr × Nat × Nat} {a:Option Addr} {l c:Nat} {r1 r2:SM} (hw:w.heap=H) (hx:Mine H B zbk 33 x (r1.flatMap zhg)) (hB:B≤H.size) (hL:Cells H a (r2.flatMap zhg)) (hl:l=r2.length) (hlen:r1.length+r2.length < 1099511627776) {K:(Option Addr × Nat × Nat)→World→Prop}
  (hK:∀ x' w',Mine w'.heap B zbk 33 x' ((r1++r2).flatMap zhg)→x'.2.1=r1.length+r2.length→Ext (xw x) H w'.heap→(∀ b,b ∈ xw x'→b ∈ xw x ∨ H.size≤b)→K x' w') :
  zal P (Builtin.append_ #[vk,vk] vk #[.slice x.1 x.2.1 x.2.2,.slice a l c]) .slc w K:=by
 have hxl:=zj5 hx
 refine zcq EB (by omega) uB (za5 uB) hw hx hB (Src.slc hw hL (by rw [qg zhg ze1,hl])) qih (by omega) ?_
 intro x' w' hm hl' hx' hs
 refine hK x' w' ?_ (by omega) hx' hs
 rw [List.flatMap_append];exact hm
set_option maxHeartbeats 2000000 in
theorem qn1 {w:World} {H:Heap} {fp:List Nat} {p:Nat} {q:Int} {rl:SM} {k:List UInt8} {at_:Int} {t:UInt8} (hw:w.heap=H) (hS:zeq H fp p q rl) (hk:k.length=32) (hn:rl.length < 1099511627776) :
  qj P zna #[.pointer (some ⟨p,0,none⟩),arr k,.int .i64 at_,.int .u8 (t.toNat:Int)] w fun e w'=>e=.returned (.int .i64 (zha (zay rl k) at_ t))∧∃ rl',zeq w'.heap fp p q rl'∧Ext fp H w'.heap ∧
   ∀ k',zay rl' k'=if zha (zay rl k) at_ t=0∧k'=k then (zay rl k).map fun L=>spoilt L at_ t else zay rl k':=by
 refine zuj ?_
 unfold zhy
 refine jv hw fun w1 hw1=>?_
 have hx1:Ext [] H w1.heap:=by rw [hw1];exact .push _
 refine je rfl (by rw [hw1];exact zn) (by simp [arr,Value.cells,byteCells,hk]) ?_
 refine zl (qgp rfl (hS.ext hx1 (by simp)) hk hn) ?_
 rintro e w2 ⟨pre,rest,rfl,hsp,hx2⟩
 refine ⟨((pre.length:Int),hit rest k),rfl,?_⟩
 have hx02:=hx1.trans hx2
 have keep:∀ (C:Int),C ≠ 0→zha (zay rl k) at_ t=C→(Ending.returned (.int .i64 C)=Ending.returned (.int .i64 (zha (zay rl k) at_ t))∧∃ rl',zeq w2.heap fp p q rl'∧Ext fp H w2.heap ∧
   ∀ k',zay rl' k'=if zha (zay rl k) at_ t=0∧k'=k then (zay rl k).map fun L=>spoilt L at_ t else zay rl k'):=by
  intro C hC hs
  refine ⟨by rw [hs],rl,hS.ext hx02 (by simp),hx02.mono (by simp),fun k'=>?_⟩
  rw [if_neg (by rw [hs];exact fun h=>hC h.1)]
 cases hh:hit rest k with
 | false =>
  refine zab rfl ?_
  exact keep 50 (by omega) (by rw [zxc hsp hS.rise hh];rfl)
 | true =>
  refine jl rfl ?_
  obtain ⟨y,tl,rfl,hyk,hvy,hget,hmem⟩:=z5u hsp hS.rise hh
  obtain ⟨x,h1,h2,h3,h4,h5,h6,h7⟩:=hS
  have hxl:=zj5 h2
  have hyl:=zzv h5 hget
  have h12:=hx02.get h1 (by simp)
  have h22:=h2.ext hx02 (by simp)
  have one:∀ h:at_ < 0 ∨ (y.2.1.2.length:Int)≤at_ ∨ t=0,zha (zay rl k) at_ t=1:=by intro h;rw [hvy];simp only [zha,if_pos h]
  refine zac ?_
  refine zq (fun h=>keep 1 (by omega) (one (.inl h))) (fun ha0=>?_)
  simp only [xq,jr,Nat.zero_add]
  refine jh (s:=.slc) (t:=x) rfl h12 rfl ?_
  refine zua rfl h22.cells hxl hget rfl ?_
  refine zq (fun h=>keep 1 (by omega) (one (.inr (.inl (by omega))))) (fun hal=>?_)
  refine zb3 (fun h=>keep 1 (by omega) (one (.inr (.inr (UInt8.toNat_inj.1 (by simpa using h)))))) (fun ht=>?_)
  obtain ⟨i,rfl⟩:∃ i:Nat,at_=(i:Int):=⟨at_.toNat,by omega⟩
  have hil:i < y.2.1.2.length:=by omega
  have hs0:zha (zay rl k) (i:Int) t=0:=by
   rw [hvy]
   simp only [zha]
   rw [if_neg]
   rintro (h | h | h)
   ·omega
   ·omega
   ·subst h;exact ht rfl
  obtain ⟨hO,hOf⟩:=h5 y hmem
  obtain ⟨bb,cc,hxa,hbb,hic,hci,hput⟩:=(hO.ext hx02 (by simp)).put (i:=i) (by simpa using hil) (.int .u8 ((y.2.1.2.getD i 0 ^^^ t).toNat:Int))
  refine jh (s:=.slc) (t:=x) rfl h12 rfl ?_
  refine zua rfl h22.cells hxl hget rfl ?_
  rw [hxa]
  refine zqz i rfl (by omega) ?_
  rw [Nat.zero_add]
  refine jh (t:=((y.2.1.2.getD i 0).toNat:Int)) rfl hbb (by rw [hci,zdv hil];rfl) ?_
  refine qpc _ _ ?_
  refine zqz i rfl (by omega) ?_
  rw [Nat.zero_add]
  refine zcd rfl hbb hic fun w3 hw3=>?_
  rw [← hw3] at hput
  have hbf:bb ∈ fp:=hOf bb (by simp only [xw];rw [hxa];simp)
  have hx23:Ext [bb] w2.heap w3.heap:=by rw [hw3];exact Ext.set _ (by simp)
  have heq:=hsp.eq
  subst heq
  obtain ⟨_,hlo,hhi⟩:=zxa.1 h7.rise
  have hlen:(spoilt y.2.1.2 (i:Int) t).length=y.2.1.2.length:=by simp [spoilt]
  have hspb:byteCells (spoilt y.2.1.2 (i:Int) t)=(byteCells y.2.1.2).set i (.int .u8 ((y.2.1.2.getD i 0 ^^^ t).toNat:Int)):=by
   simp only [spoilt,byteCells,Int.toNat_natCast,List.map_set]
  refine ⟨by rw [hs0],pre++(y.1,(y.2.1.1,spoilt y.2.1.2 (i:Int) t),y.2.2) :: tl,⟨x,hx23.get h12 ?_,?_,h3,h4,?_,?_,?_⟩,(hx02.mono (by simp)).trans (hx23.mono (by simpa using hbf)),?_⟩
  ·simp only [List.mem_singleton];rintro rfl;rw [h12] at hbb;cases hbb
  ·have henc:(pre++(y.1,(y.2.1.1,spoilt y.2.1.2 (i:Int) t),y.2.2) :: tl).flatMap zhg=(pre++y :: tl).flatMap zhg:=qll rfl
   rw [henc]
   refine h22.ext hx23 fun b hb=>?_
   simp only [List.mem_singleton];rintro rfl
   rcases h22 with ⟨rfl,_⟩ | ⟨b2,c2,hx2',_,hb2,_⟩
   ·simp [xw] at hb
   ·simp only [xw,hx2',List.mem_singleton] at hb;subst hb;rw [hbb] at hb2;cases hb2
  ·intro z hz
   rcases zfd.1 hz with rfl | hz
   ·refine ⟨?_,hOf⟩
    show Mine _ _ _ _ _ (byteCells (spoilt y.2.1.2 (i:Int) t))
    rw [hspb];exact hput
   ·obtain ⟨hz1,hz2⟩:=h5 z (zfd.2 (.inr hz))
    refine ⟨(hz1.ext hx02 (by simp)).ext hx23 fun b hb=>?_,hz2⟩
    simp only [List.mem_singleton];rintro rfl
    refine h6 y hmem z (zfd.2 (.inr hz)) ?_ b (by simp only [xw];rw [hxa];simp) hb
    rcases List.mem_append.1 hz with hz | hz
    ·exact (z5a (hlo z hz)).symm
    ·exact z5a (hhi z hz)
  ·refine Apart.mid (h6.sub fun z hz=>zfd.2 (.inr hz)) fun z hz b hb=>?_
   refine h6 y hmem z (zfd.2 (.inr hz)) ?_ b hb
   rcases List.mem_append.1 hz with hz | hz
   ·exact (z5a (hlo z hz)).symm
   ·exact z5a (hhi z hz)
  ·exact h7.sub.mid (h7.len y hmem) hlo hhi
  ·intro k'
   rw [hs0,hvy,ztq (y:=(y.1,(y.2.1.1,spoilt y.2.1.2 (i:Int) t),y.2.2)) fun z hz=>z5a (hlo z hz)]
   show (if k'=y.1 then some (spoilt y.2.1.2 (i:Int) t) else _)=_
   by_cases e:k'=k
   ·subst e;simp [hyk]
   ·rw [if_neg (by rw [hyk];exact e),if_neg (fun h=>e h.2),ztq (y:=y) (fun z hz=>z5a (hlo z hz)),if_neg (by rw [hyk];exact e)]
theorem qks {H:Heap} {B:Nat} {T:TypeId} {sz:Nat} {x:Option Addr × Nat × Nat} {vs:List Value} (h:Mine H B T sz x vs):x.2.1≤x.2.2:=by
 rcases h with ⟨rfl,_⟩ | ⟨b,c,_,_,_,_,_,h,_⟩
 ·exact Nat.le_refl _
 ·exact h
theorem za9 {H:Heap} {B:Nat} {T:TypeId} {sz:Nat} {x:Option Addr × Nat × Nat} {vs:List Value} (h:Mine H B T sz x vs):∀ b ∈ xw x,b < H.size∧∃ c,H[b]?=some (.cells c T (0,0)):=by
 intro b hb
 rcases h with ⟨rfl,_⟩ | ⟨b2,c,hx,_,hb2,_⟩
 ·simp [xw] at hb
 ·simp only [xw,hx,List.mem_singleton] at hb
  subst hb;exact ⟨lt_of_get hb2,c,hb2⟩
theorem qns {H:Heap} {a:Option Addr} {l c:Nat} {rl:SM} {i:Nat} {n:Int} (hL:Cells H a (rl.flatMap zhg)) (hlen:l=rl.length) (hc:l≤c) (hi:i≤rl.length) (hn:n=(i:Int)) :
  ∃ a',(∀ w,(Instr.sliceAt vk (.slice a l c) none (some (.int .i64 n)) none).run P w=.ok (.slice a' i c) w)∧Cells H a' ((rl.take i).flatMap zhg):=by
 refine ⟨_,fun w=>zaq (l:=0) (h:=i) uB szB .no (.yes hn) (Nat.zero_le _) (by omega),?_⟩
 exact Cells.takeB (rl:=rl) (Cells.dropB hL 0 c (by omega)) i
theorem qjx {H:Heap} {a:Option Addr} {l c:Nat} {rl:SM} {i:Nat} {n:Int} (hL:Cells H a (rl.flatMap zhg)) (hlen:l=rl.length) (hc:l≤c) (hi:i≤rl.length) (hn:n=(i:Int)) :
  ∃ a',(∀ w,(Instr.sliceAt vk (.slice a l c) (some (.int .i64 n)) none none).run P w=.ok (.slice a' (l - i) (c - i)) w)∧Cells H a' ((rl.drop i).flatMap zhg):=by
 refine ⟨_,fun w=>zaq (l:=i) (h:=l) uB szB (.yes hn) .no (by omega) (by omega),?_⟩
 exact Cells.dropB hL i c (by omega)
theorem qaj.sub {H:Heap} {fp:List Nat} {r r':SM} (h:qaj H fp r) (hs:∀ x ∈ r',x ∈ r):qaj H fp r':=fun x hx=>h x (hs x hx)
theorem qaj.mono {H:Heap} {fp fp':List Nat} {r:SM} (h:qaj H fp r) (hs:∀ x ∈ fp,x ∈ fp'):qaj H fp' r:=fun x hx=>⟨(h x hx).1,fun b hb=>hs b ((h x hx).2 b hb)⟩
theorem qaj.off {H H':Heap} {fp:List Nat} {r:SM} {b:Nat} {c:Array Value} {T:TypeId} {o:Obj} (h:qaj H fp r) (hb:H[b]?=some (.cells c T (0,0))) (hT:T ≠ qy) (hx:Ext [b] H H'):qaj H' fp r:=by
 intro x hxr
 refine ⟨(h x hxr).1.ext hx fun b' hb'=>?_,(h x hxr).2⟩
 simp only [List.mem_singleton];rintro rfl
 obtain ⟨_,c',h'⟩:=za9 (h x hxr).1 _ hb'
 rw [hb] at h'
 injection h' with h'
 injection h' with _ h2
 exact hT h2
theorem z7w {place:Nat→Option (Nat × Nat)} {cells:Array Value} {i off size:Nat} {v:Value} {rest:List (Nat × Value)} (hp:place i=some (off,size)) (hs:v.cells.size=size) (ho:off+size≤cells.size):Instr.fill place cells ((i,v) :: rest)=Instr.fill place (setCells cells off v.cells.toList) rest:=by
 simp only [Instr.fill,hp,hs,ne_eq,not_true_eq_false,decide_false,Bool.false_or]
 rw [if_neg (by simp;omega)]
 have h:=zox off v.cells.toList 0 cells
 simp only [Nat.add_zero] at h
 rw [← Array.foldl_toList,Array.toList_zipIdx,h]
theorem qe3 {x:Option Addr × Nat × Nat}:(zcr x).cells=#[zcr x]:=rfl
theorem qk5 (u v:Value):P.built zbk [(0,u),(1,v)]=Instr.fill (fun i=>#[(0,32),(32,1)][i]?) ((List.replicate 32 (Value.int .u8 0))++[Value.slice none 0 0]).toArray [(0,u),(1,v)]:=by kernel_rfl
theorem qol {A:List Value} (hA:A.length=32) (x:Option Addr × Nat × Nat) (w:World):(Instr.build zbk #[(0,.agg A.toArray),(1,zcr x)]).run P w=.ok (.agg (A++[zcr x]).toArray) w:=by
 refine run_build w _ _ _ ?_
 show P.built zbk [(0,.agg A.toArray),(1,zcr x)]=_
 have hc:(Value.agg A.toArray).cells=A.toArray:=rfl
 rw [qk5,z7w (off:=0) (size:=32) rfl (by rw [hc];simpa using hA) (by simp),z7w (off:=32) (size:=1) rfl rfl (by simp)]
 simp only [Instr.fill]
 congr 1
 rw [hc,qe3]
 apply Array.ext_getElem?
 intro j
 show (setCells (setCells _ 0 A.toArray.toList) 32 [zcr x])[j]?=_
 rw [zgt (by simp),zgt (by simp;omega)]
 simp only [List.length_cons,List.length_nil,List.getElem?_toArray,hA]
 by_cases h1:j < 32
 ·rw [if_neg (by omega),if_pos (by omega),List.getElem?_append_left (by omega)]
  simp
 ·by_cases h2:j=32
  ·subst h2;simp [hA]
  ·rw [if_neg (by omega),if_neg (by omega)]
   rw [List.getElem?_eq_none (by simp;omega),List.getElem?_eq_none (by simp;omega)]
theorem qnc {w:World} {H:Heap} (hw:w.heap=H) (y:BE) (h32:y.1.length=32) {K:(Option Addr × Nat × Nat)→World→Prop} (hK:∀ a w1,Ext [] H w1.heap→Cells w1.heap a ([y].flatMap zhg)→K (a,1,1) w1) :
  zaz P (Instr.build zbk #[(0,.agg (byteCells y.1).toArray),(1,.slice y.2.1.1.1 y.2.1.1.2.1 y.2.1.1.2.2)]) .any w fun t=>zal P (Instr.buildSlice vk 1 #[(0,t)]) .slc w K:=by
 refine qm (s:=.any) _ (qol (A:=byteCells y.1) (by rw [jf,h32]) y.2.1.1 w) ?_
 have hc:(Value.agg (byteCells y.1++[zcr y.2.1.1]).toArray).cells=(zhg y).toArray:=by
  show (byteCells y.1++[zcr y.2.1.1]).toArray=_
  rw [zhg,qgc h32]
 refine zad (s:=.slc) (some ⟨w.heap.size,0,none⟩,1,1) _ (zd0 EB uB (v:=.agg (byteCells y.1++[zcr y.2.1.1]).toArray) (by rw [hc];simp [ze1]) (by omega) (by omega)) ?_
 refine hK _ _ (by rw [← hw];exact .push _) (.inr ⟨w.heap.size,0,_,_,_,rfl,zn,?_,?_⟩)
 ·rw [hc];simp
 ·rw [hc];simp
def bare (r:SM):List (List UInt8 × List UInt8):=r.map fun x=>(x.1,x.2.1.2)
theorem z9u:∀ {r s:SM},bare r=bare s→∀ k,zay r k=zay s k
 | [],[],_,_=>rfl
 | [],y :: s,h,_=>by simp [bare] at h
 | x :: r,[],h,_=>by simp [bare] at h
 | x :: r,y :: s,h,k=>by
  simp only [bare,List.map_cons,List.cons.injEq,Prod.mk.injEq] at h
  obtain ⟨⟨h1,h2⟩,h3⟩:=h
  have ih:=z9u (r:=r) (s:=s) h3 k
  unfold zay at ih ⊢
  by_cases e:x.1=k
  ·rw [zb8 e,zb8 (by rw [← h1];exact e)];simp [h2]
  ·rw [zb7 e,zb7 (by rw [← h1];exact e)];exact ih
theorem qgx {r s:SM} (h:bare r=bare s):r.map (·.1)=s.map (·.1):=by
 have:=congrArg (List.map (·.1)) h
 simpa [bare,Function.comp_def] using this
theorem qk2 {r s:SM} (h:bare r=bare s) (hs:ROk s):ROk r:=by
 have hk:=qgx h
 refine ⟨fun x hx=>?_,?_⟩
 ·have:x.1 ∈ s.map (·.1):=by rw [← hk];exact List.mem_map.2 ⟨x,hx,rfl⟩
  obtain ⟨y,hy,e⟩:=List.mem_map.1 this
  rw [← e];exact hs.len y hy
 ·have h1:(s.map (·.1)).Pairwise fun a b=>Lib.compareBytes a b < 0:=List.pairwise_map.2 hs.rise
  rw [← hk] at h1
  exact List.pairwise_map.1 h1
theorem qcv {r s:SM} (h:bare r=bare s):r.length=s.length:=by simpa [bare] using congrArg List.length h
set_option maxHeartbeats 4000000 in
theorem qjf {w:World} {H:Heap} {fp:List Nat} {p:Nat} {q:Int} {rl:SM} (hw:w.heap=H) (hS:zeq H fp p q rl) (hn:rl.length < 549755813888) (hlen:∀ x ∈ rl,x.2.1.2.length < 1099511627776) :
  qj P zh4 #[.pointer (some ⟨p,0,none⟩)] w fun e w'=>∃ p' fp' rl',e=.returned (.pointer (some ⟨p',0,none⟩))∧zeq w'.heap fp' p' q rl'∧Ext [] H w'.heap∧(∀ b ∈ fp',H.size≤b∧b < w'.heap.size)∧bare rl'=bare rl:=by
 obtain ⟨x,h1,h2,h3,h4,h5,h6,h7⟩:=hS
 have hxl:=zj5 h2
 refine zs6 ?_
 unfold zie
 simp only [xq,jr,Nat.zero_add]
 refine jh (s:=.int .i64) (t:=q) hw h1 rfl ?_
 refine qm (s:=.any) _ (bR q _) ?_
 refine jv hw fun w1 hw1=>?_
 have hx1:Ext [] H w1.heap:=by rw [hw1];exact .push _
 have hs1:w1.heap.size=H.size+1:=by rw [hw1];simp
 refine jd (fun (s:Int) W=>∃ (i:Nat) (xc:Option Addr × Nat × Nat) (cl:SM),s=(i:Int)∧i≤rl.length∧Ext [] H W.heap∧H.size < W.heap.size∧W.heap[H.size]?=some (.cells #[.int .i64 q,zcr xc] zfb (0,0))∧Mine W.heap (H.size+1) zbk 33 xc (cl.flatMap zhg) ∧
  bare cl=bare (rl.take i)∧(∀ z ∈ cl,Mine W.heap (H.size+1) qy 1 z.2.1.1 (byteCells z.2.1.2))∧Apart cl) (fun s _=>(rl.length - s).toNat)
  ⟨0,(none,0,0),[],rfl,Nat.zero_le _,hx1,by omega,by rw [hw1];exact zn,.inl ⟨rfl,rfl⟩,rfl,(by intro z hz;cases hz),(by intro z hz;cases hz)⟩ ?_
 rintro _ W ⟨i,xc,cl,rfl,hi,hxW,hsW,hbW,hmW,hbare,hvals,hap⟩
 refine jh (s:=.slc) (t:=x) rfl (hxW.get h1 (by simp)) rfl ?_
 refine zq (fun hlt=>?_) (fun hge=>?_)
 ·have hil:i < rl.length:=by omega
  have hget:=List.getElem?_eq_getElem hil
  have hmem:rl[i] ∈ rl:=List.getElem_mem hil
  have hk:=h7.len _ hmem
  have hyl:=zzv h5 hget
  have hLl:=hlen _ hmem
  have hcl:cl.length=i:=by rw [qcv hbare];simp;omega
  have hcll:xc.2.1=i:=by have:=hmW.len;rw [qg zhg ze1] at this;omega
  obtain ⟨hyM,_⟩:=h5 _ hmem
  generalize rl[i]=y at *
  refine jw rfl fun w3 hw3=>?_
  have hx3:Ext [] W.heap w3.heap:=by rw [hw3];exact .refl _ _
  have hx03:Ext [] H w3.heap:=hxW.trans hx3
  have hb3:=hx3.get hbW (by simp)
  have h13:=hx03.get h1 (by simp)
  have h23:=h2.ext hx03 (by simp)
  refine jh (s:=.slc) (t:=xc) rfl hb3 rfl ?_
  refine jh (s:=.slc) (t:=x) rfl h13 rfl ?_
  refine zdh ze1 (by omega) h23.cells hxl hget rfl fun rb o c T fr _ hrb hrs hrc _=>?_
  have hkey:c.extract o (o+32)=(byteCells y.1).toArray:=z8w hk hrs hrc
  refine zre rfl hrb (by omega) ?_
  rw [hkey]
  refine jh (s:=.slc) (t:=x) rfl h13 rfl ?_
  refine zdh ze1 (by omega) h23.cells hxl hget rfl fun rb' o' c' T' fr' _ hrb' hrs' hrc' _=>?_
  simp only [jr]
  refine jh (s:=.slc) (t:=y.2.1.1) rfl hrb' (z5b hrc') ?_
  refine qn0 rfl fun w4 hx4 hm4=>?_
  have hx04:=hx03.trans hx4
  refine ⟨jh (s:=.slc) (t:=y.2.1.1) rfl (hx4.get hrb' (by simp)) (z5b hrc') rfl,?_⟩
  refine ⟨jh (s:=.slc) (t:=x) rfl (hx04.get h1 (by simp)) rfl rfl,?_⟩
  refine ⟨zre rfl (hx4.get hrb (by simp)) (by omega) (by rw [hkey]),?_⟩
  refine ⟨jh (s:=.slc) (t:=x) rfl (hx04.get h1 (by simp)) rfl rfl,?_⟩
  refine ⟨jh (s:=.slc) (t:=xc) rfl (hx4.get hb3 (by simp)) rfl rfl,?_⟩
  refine qkz rfl hm4 hx4.1 (hyM.ext hx04 (by simp)).cells hyl (by omega) ?_
  intro x5 w5 hm5 hl5 hx5
  have hx35:Ext [] w3.heap w5.heap:=hx4.own hx5 (by intro b hb;simp [xw] at hb;omega)
  have hx05:=hx03.trans hx35
  refine ⟨zre rfl (hx35.get hrb (by simp)) (by omega) (by rw [hkey]),?_⟩
  refine ⟨jh (s:=.slc) (t:=x) rfl (hx05.get h1 (by simp)) rfl rfl,?_⟩
  refine ⟨jh (s:=.slc) (t:=xc) rfl (hx35.get hb3 (by simp)) rfl rfl,?_⟩
  refine qnc rfl (y.1,(x5,y.2.1.2),0) hk fun a6 w6 hx6 hC6=>?_
  have hx36:=hx35.trans hx6
  refine ⟨jh (s:=.slc) (t:=xc) rfl (hx36.get hb3 (by simp)) rfl rfl,?_⟩
  have hm6:Mine w6.heap (H.size+1) zbk 33 xc (cl.flatMap zhg):=hmW.ext (hx3.trans hx36) (by simp)
  refine qnv (r1:=cl) (r2:=[(y.1,(x5,y.2.1.2),0)]) rfl hm6 (by have:=(hx3.trans hx36).1;omega) hC6 rfl (by simp;omega) ?_
  intro x7 w7 hm7 hl7 hx7 hs7
  have hb6:=hx36.get hb3 (by simp)
  have hnb:H.size ∉ xw xc:=fun h=>by have:=jc hm6 _ h;omega
  have hb7:=hx7.get hb6 hnb
  refine zcd rfl hb7 (by simp) fun w8 hw8=>?_
  have hx78:Ext [H.size] w7.heap w8.heap:=by rw [hw8];exact Ext.set _ (by simp)
  have hg7:=jc hm7
  have hx06:=hx03.trans hx36
  have hx08:Ext [] H w8.heap:=(hx06.own hx7 (by intro b hb hlt;have:=jc hm6 _ hb;omega)).own hx78 (by intro b hb hlt;simp at hb;omega)
  refine xu ((i+1:Nat):Int) (by omega) (by omega) (by omega) ?_
  have hs56:=hx6.1
  have hs35:=hx35.1
  have hs4:=hx4.1
  have hsw3:W.heap.size≤w3.heap.size:=hx3.1
  have hg5:=jc hm5
  have tail:∀ {z:BV},Mine w6.heap (H.size+1) qy 1 z.1 (byteCells z.2)→Mine w8.heap (H.size+1) qy 1 z.1 (byteCells z.2):=by
   intro z hz
   refine (hz.ext hx7 fun b hb hb2=>?_).ext hx78 fun b hb=>?_
   ·obtain ⟨_,c1,e1⟩:=za9 hz b hb
    obtain ⟨_,c2,e2⟩:=za9 hm6 b hb2
    rw [e1] at e2;cases e2
   ·have:=jc hz b hb
    simp only [List.mem_singleton];omega
  refine ⟨⟨i+1,x7,cl++[(y.1,(x5,y.2.1.2),0)],rfl,by omega,hx08,by have:=hx7.1;have:=hx78.1;have:=hx36.1;omega,by rw [hw8];exact qw hb7,hm7.ext hx78 (fun b hb=>by have:=hg7 b hb;simp;omega),?_,?_,?_⟩,by omega⟩
  ·unfold bare at hbare ⊢
   rw [List.take_add_one,hget,List.map_append,List.map_append,hbare];rfl
  ·intro z hz
   rcases List.mem_append.1 hz with hz | hz
   ·exact tail ((hvals z hz).ext (hx3.trans hx36) (by simp))
   ·simp only [List.mem_singleton] at hz;subst hz
    exact tail (z:=(x5,y.2.1.2)) ((hm5.mono (by omega)).ext hx6 (by simp))
  ·refine Apart.mid (t:=[]) (by rw [List.append_nil];exact hap) fun z hz b hb hb2=>?_
   rw [List.append_nil] at hz
   have h8:=hg5 b hb
   have h9:=(za9 (hvals z hz) b hb2).1
   omega
 ·have hie:i=rl.length:=by omega
  subst hie
  rw [List.take_length] at hbare
  refine ⟨H.size,H.size :: (xw xc++cl.flatMap fun z=>xw z.2.1.1),cl,rfl,⟨xc,hbW,hmW.mono (Nat.zero_le _),by simp,fun b hb=>by simp [hb],fun z hz=>⟨(hvals z hz).mono (Nat.zero_le _),fun b hb=>by simp only [List.mem_cons,List.mem_append,List.mem_flatMap];exact .inr (.inr ⟨z,hz,hb⟩)⟩,hap,qk2 hbare h7⟩,hxW,?_,hbare⟩
  intro b hb
  simp only [List.mem_cons,List.mem_append,List.mem_flatMap] at hb
  rcases hb with rfl | hb | ⟨z,hz,hb⟩
  ·exact ⟨Nat.le_refl _,hsW⟩
  ·exact ⟨by have:=jc hmW b hb;omega,(za9 hmW b hb).1⟩
  ·exact ⟨by have:=jc (hvals z hz) b hb;omega,(za9 (hvals z hz) b hb).1⟩
end Go.Proofs.YtbmegmbnlajbbaaGreatDoor.Bl
namespace Go.Proofs.YtbmegmbnlajbbaaGreatDoor.Bl
open Go Go.Fw Go.Proofs
def Whole (r:SM):Prop:=∀ k L,zay r k=some L→Sha.sum L=k∧L.length≤4096
theorem Whole.small {r:SM} (h:Whole r):Small r:=fun k L hv=>by have:=(h k L hv).2;omega
theorem Rows.ext {M:List Nat} {H H':Heap} {a:Option Addr} {n:Nat} {Ls:List (List UInt8)} (h:Rows H a n Ls) (hx:Ext M H H') (hM:∀ b,b < H.size→b ∉ M):Rows H' a n Ls:=by
 refine ⟨h.1,fun i hi=>?_⟩
 obtain ⟨b,o,c,T,fr,x,h1,h2,h3,h4,h5,h6⟩:=h.2 i hi
 refine ⟨b,o,c,T,fr,x,h1,hx.get h2 (hM b (lt_of_get h2)),h3,h4.ext hx fun y hy hv=>?_,h5,h6⟩
 obtain ⟨z,hz,hlt⟩:=h4.lt hv
 rw [hy] at hz;cases hz
 exact hM _ hlt
end Go.Proofs.YtbmegmbnlajbbaaGreatDoor.Bl
namespace Go.Proofs.YtbmegmbnlajbbaaGreatDoor.Bl
open Go Go.Fw Go.Proofs
theorem z6b {F:BL} {d L k:List UInt8}:zuw (F++[(d,L)]) k=match zuw F k with | some v=>some v | none=>if k=d then some L else none:=by
 induction F with
 | nil =>
  simp only [zuw,List.nil_append,List.find?_cons,List.find?_nil,Option.map_none]
  by_cases e:d=k
  ·subst e;simp
  ·have:(d == k)=false:=by simp [e]
   simp [this,Ne.symm e]
 | cons x F ih =>
  simp only [zuw,List.cons_append,List.find?_cons] at ih ⊢
  by_cases e:x.1=k
  ·simp [e]
  ·have:(x.1 == k)=false:=by simp [e]
   simp only [this]
   exact ih
theorem qab:∀ (Ls:List (List UInt8)) (F:BL),(∀ k L,zuw F k=some L→Sha.sum L=k)→∀ k L,zuw (Ls.foldl zve F) k=some L→Sha.sum L=k
 | [],F,h=>h
 | M :: Ls,F,h=>by
  rw [List.foldl_cons]
  refine qab Ls (zve F M) fun k L hg=>?_
  unfold zve at hg
  split at hg
  ·exact h k L hg
  ·rw [z6b] at hg
   cases hf:zuw F k with
   | some v=>rw [hf] at hg;simp only at hg;exact h k L (by rw [hf];exact hg)
   | none =>
    rw [hf] at hg
    simp only at hg
    split at hg
    ·rename_i e;cases hg;exact e.symm
    ·cases hg
theorem zyj:∀ (Ls:List (List UInt8)) (F:BL),(F.map (·.1)).Nodup→((Ls.foldl zve F).map (·.1)).Nodup
 | [],F,h=>h
 | M :: Ls,F,h=>by
  rw [List.foldl_cons]
  refine zyj Ls (zve F M) ?_
  unfold zve
  split
  ·exact h
  ·rename_i hn
   rw [List.map_append,List.nodup_append]
   refine ⟨h,by simp,fun a ha b hb=>?_⟩
   simp only [List.map_cons,List.map_nil,List.mem_singleton] at hb
   subst hb
   rintro rfl
   obtain ⟨x,hx,e⟩:=List.mem_map.1 ha
   apply hn
   unfold zuw
   rw [Option.isSome_map]
   rw [List.find?_isSome]
   exact ⟨x,hx,by simp [e]⟩
theorem qi2 {V U:List UInt8→Option (List UInt8)} {F:BL} {L:List UInt8} (hF:∀ k L,zuw F k=some L→Sha.sum L=k) (hU:∀ k,U k=z15 (V k) (zuw F k) k) (k:List UInt8) :
  (if k=Sha.sum L then z15 (U (Sha.sum L)) (some L) (Sha.sum L) else U k)=z15 (V k) (zuw (zve F L) k) k:=by
 unfold zve
 cases hf:zuw F (Sha.sum L) with
 | some M =>
  simp only [Option.isSome_some,if_true]
  by_cases e:k=Sha.sum L
  ·subst e
   rw [if_pos rfl,hU,hf]
   have hM:=hF _ _ hf
   cases hv:V (Sha.sum L) with
   | none=>simp [z15,hM]
   | some old =>
    by_cases e2:Sha.sum old=Sha.sum L
    ·simp [z15,e2]
    ·simp [z15,e2,hM]
  ·rw [if_neg e,hU]
 | none =>
  simp only [Option.isSome_none,Bool.false_eq_true,if_false]
  rw [z6b]
  by_cases e:k=Sha.sum L
  ·subst e
   rw [if_pos rfl,hU,hf]
   simp [z15]
  ·rw [if_neg e,hU]
   cases zuw F k with
   | some M=>rfl
   | none=>simp [e]
theorem qam {r:SM} {p:List UInt8→Bool} {k:List UInt8}:zcj (r.filter fun x=>p x.1) k=if p k then zcj r k else none:=by
 induction r with
 | nil=>simp [zcj]
 | cons x r ih =>
  rw [List.filter_cons]
  by_cases e:x.1=k
  ·subst e
   cases hp:p x.1 with
   | true=>simp only [if_true];rw [zb8 rfl,zb8 rfl]
   | false=>simp only [Bool.false_eq_true,if_false];rw [ih,hp];simp
  ·rw [zb7 e]
   cases hp:p x.1 with
   | true=>simp only [if_true];rw [zb7 e,ih]
   | false=>simp only [Bool.false_eq_true,if_false];exact ih
theorem zx3 {r:SM} {p:List UInt8→Bool} {k:List UInt8}:zay (r.filter fun x=>p x.1) k=if p k then zay r k else none:=by
 unfold zay;rw [qam];split <;> rfl
def ql3 (F:BL):SM:=F.map fun x=>(x.1,((none,0,0),x.2),0)
theorem qg0 {F:BL}:view (ql3 F)=F:=by
 unfold view ql3
 rw [List.map_map]
 conv=>rhs;rw [← List.map_id F]
 rfl
theorem qfx {F:BL} {k:List UInt8}:zay (ql3 F) k=zuw F k:=by rw [← ztw,qg0]
theorem z6x {tl rl:SM} {F:BL} (hk:(tl.map (·.1)).Nodup) (hF:(F.map (·.1)).Nodup) (hv:∀ k,zay tl k=z15 (zay rl k) (zuw F k) k):zm4 tl rl=extra rl F:=by
 have h1:zm4 tl rl=total (tl.filter fun x=>(zay rl x.1).isNone):=rfl
 have h2:extra rl F=total ((ql3 F).filter fun x=>(zay rl x.1).isNone):=by
  unfold extra total ql3
  rw [List.filter_map,List.map_map]
  rfl
 rw [h1,h2]
 refine (zx7 (hk.sublist (List.Sublist.map _ List.filter_sublist)) (List.Nodup.sublist (List.Sublist.map _ List.filter_sublist) (by simpa [ql3,Function.comp_def] using hF)) fun k=>?_).1
 rw [zx3 (p:=fun k=>(zay rl k).isNone),zx3 (p:=fun k=>(zay rl k).isNone),qfx,hv]
 cases zay rl k with
 | none=>cases zuw F k <;> rfl
 | some v=>rfl
theorem Mine.putk {H:Heap} {B sz:Nat} {T:TypeId} {x:Option Addr × Nat × Nat} {vs:List Value} (h:Mine H B T sz x vs) {i:Nat} (hi:i < vs.length) (v:Value) :
  ∃ b c,x.1=some ⟨b,0,none⟩∧H[b]?=some (.cells c T (0,0))∧i < c.size∧Mine (H.setIfInBounds b (.cells (c.setIfInBounds i v) T (0,0))) B T sz x (vs.set i v):=by
 rcases h with ⟨_,rfl⟩ | ⟨b,c,hx,hB,hb,hc,hl,hle,he⟩
 ·cases hi
 ·have hvc:vs.length≤c.size:=by rw [hl,hc];exact Nat.mul_le_mul_right sz hle
  have hget:∀ j,j < vs.length→c[j]?=vs[j]?:=by
   intro j hj
   have:((c.extract 0 vs.length).toList)[j]?=vs[j]?:=by rw [he]
   rw [Array.getElem?_toList,Array.getElem?_extract,if_pos (by omega)] at this
   simpa using this
  refine ⟨b,c,hx,hb,by omega,.inr ⟨b,_,hx,hB,qw hb,by simpa using hc,by simpa using hl,hle,?_⟩⟩
  apply List.ext_getElem?
  intro j
  rw [Array.getElem?_toList,Array.getElem?_extract]
  simp only [List.length_set,Nat.sub_zero,Nat.zero_add,Array.size_setIfInBounds]
  by_cases hj:j < vs.length
  ·rw [if_pos (by omega),Array.getElem?_setIfInBounds,List.getElem?_set]
   by_cases e:i=j
   ·subst e;simp [hi,show i < c.size by omega]
   ·simp only [e,if_false];exact hget j hj
  ·rw [if_neg (by omega),List.getElem?_eq_none (by simp;omega)]
theorem set_mid {pre t:SM} {y:BE} {v:Option Addr × Nat × Nat} {L:List UInt8} {s:Nat}:((pre++y :: t).flatMap zhg).set (pre.length * 33+32) (zcr v)=(pre++(y.1,(v,L),s) :: t).flatMap zhg:=by
 have h1:(pre.flatMap zhg).length=pre.length * 33:=qg zhg ze1 _
 have h2:(byteCells (pad y.1)).length=32:=by rw [jf,zv6]
 simp only [List.flatMap_append,List.flatMap_cons]
 rw [List.set_append_right _ _ (by omega),h1,Nat.add_sub_cancel_left,List.set_append_left _ _ (by rw [ze1];omega)]
 congr 2
 unfold zhg
 rw [List.set_append_right _ _ (by omega),h2]
 rfl
theorem qit {rl pre rest:SM} {k:List UInt8} (h:Split rl k pre rest) (hr:zlt rl) (hh:hit rest k=false):∀ x ∈ rest,Lib.compareBytes k x.1 < 0:=by
 intro x hx
 have h1:=h.hi x hx
 have h2:x.1 ≠ k:=by
  intro e
  have hv:=qds hr.nodup (y:=x) (by rw [h.eq];simp [hx])
  rw [e,zxc h hr hh] at hv
  cases hv
 have h3:Lib.compareBytes x.1 k ≠ 0:=fun e=>h2 (zfs.1 e)
 rw [zts]
 rcases zka (a:=x.1) (b:=k) with e | e | e <;> omega
def Pt (H:Heap) (pc:Nat) (q:Int) (rl:SM) (Ls:List (List UInt8)) (i:Nat) (W:World):Prop:=∃ tl fpc,Ext [] H W.heap∧zeq W.heap fpc pc q tl∧(∀ b ∈ fpc,H.size≤b∧b < W.heap.size) ∧
 (∀ k,zay tl k=z15 (zay rl k) (zuw (fresh (Ls.take i)) k) k)∧tl.length≤rl.length+i∧total tl≤total rl+4096 * i∧∀ x ∈ tl,x.2.1.2.length < 1099511627776
theorem Pt.next {H:Heap} {pc:Nat} {q:Int} {rl tl:SM} {Ls:List (List UInt8)} {i:Nat} (hi:i < Ls.length) {U:List UInt8→Option (List UInt8)} (hU:∀ k,U k=z15 (zay rl k) (zuw (fresh (Ls.take i)) k) k)
  (ht:∀ k,zay tl k=if k=Sha.sum Ls[i] then z15 (U (Sha.sum Ls[i])) (some Ls[i]) (Sha.sum Ls[i]) else U k):∀ k,zay tl k=z15 (zay rl k) (zuw (fresh (Ls.take (i+1))) k) k:=by
 intro k
 rw [ht,zvo hi]
 exact qi2 (qab _ [] (by intro k L h;simp [zuw] at h)) hU k
set_option maxHeartbeats 16000000 in
theorem qfz {w:World} {H:Heap} {fp:List Nat} {p:Nat} {q:Int} {rl:SM} {a:Option Addr} {n nc:Nat} {Ls:List (List UInt8)} (hw:w.heap=H) (hS:zeq H fp p q rl) (hfp:∀ b ∈ fp,b < H.size)
  (hL:Rows H a n Ls) (hb:total rl+4096 * Ls.length < 1125899906842624) (hn:rl.length+Ls.length < 274877906944) (hq:0≤q) (hq2:q≤9223372036854775807) (hlen:∀ x ∈ rl,x.2.1.2.length < 1099511627776) (hlens:∀ L ∈ Ls,L.length < 140737488351233) :
  qj P ze2 #[.pointer (some ⟨p,0,none⟩),.slice a n nc] w fun e w'=>∃ code rl' fp',e=.returned (.int .i64 code)∧zeq w'.heap fp' p q rl'∧Ext fp H w'.heap∧(∀ b ∈ fp',b ∈ fp ∨ (H.size≤b∧b < w'.heap.size))∧zz3 q rl Ls code rl' ∧
   rl'.length≤rl.length+Ls.length∧total rl'≤total rl+4096 * Ls.length∧∀ x ∈ rl',x.2.1.2.length < 1099511627776:=by
 obtain ⟨rfl,hL⟩:=hL
 refine zsg ?_
 unfold zg5
 refine jd (fun (s:Int) W=>∃ i:Nat,s=(i:Int)∧i≤Ls.length∧W=w∧∀ j (h:j < Ls.length),j < i→Ls[j].length≤4096) (fun s _=>(Ls.length - s).toNat) ⟨0,rfl,Nat.zero_le _,rfl,by intro j h h2;omega⟩ ?_
 rintro _ _ ⟨i,rfl,hi,rfl,hsh⟩
 refine zq (fun hlt=>?_) (fun hge=>?_)
 ·have hil:i < Ls.length:=by omega
  obtain ⟨bl,ol,cl,Tl,frl,xl,rfl,hbl,hcl,hxC,hxl,hxc⟩:=hL i hil
  refine zqz i rfl hil ?_
  refine jh (s:=.slc) (t:=xl) hw hbl hcl ?_
  refine zq (fun hbig=>?_) (fun hsmall=>?_)
  ·have hlong:long Ls:=⟨Ls[i],List.getElem_mem hil,by omega⟩
   exact ⟨2,rl,fp,rfl,by rw [hw];exact hS,by rw [hw];exact .refl _ _,fun b hb=>.inl hb,⟨fun _=>⟨rfl,rfl⟩,fun h=>absurd hlong h,fun h=>absurd hlong h⟩,by omega,by omega,hlen⟩
  ·refine xu ((i+1:Nat):Int) (by omega) (by omega) (by omega) ?_
   refine ⟨⟨i+1,rfl,by omega,rfl,fun j hj hj1=>?_⟩,by omega⟩
   by_cases e:j=i
   ·subst e;omega
   ·exact hsh j hj (by omega)
 have hnlong:¬ long Ls:=by
  rintro ⟨L,hLm,hLl⟩
  obtain ⟨j,hj,rfl⟩:=List.mem_iff_getElem.1 hLm
  have:=hsh j hj (by omega)
  omega
 have hsm:∀ j (h:j < Ls.length),Ls[j].length≤4096:=fun j h=>hsh j h (by omega)
 clear hge hsh hi i
 refine zl (qjf hw hS (by omega) hlen) ?_
 rintro e w2 ⟨pc,fpc,tl0,rfl,hT0,hx2,hfpc,hbare⟩
 refine ⟨some ⟨pc,0,none⟩,rfl,?_⟩
 have htot0:total tl0=total rl:=by
  have:=congrArg (fun l=>(l.map fun x:List UInt8 × List UInt8=>x.2.length).sum) hbare
  simpa [bare,total,Function.comp_def] using this
 refine jd (fun (s:Int) W=>∃ i:Nat,s=(i:Int)∧i≤Ls.length∧Pt H pc q rl Ls i W) (fun s _=>(Ls.length - s).toNat) ⟨0,rfl,Nat.zero_le _,tl0,fpc,hx2,hT0,hfpc,fun k=>by rw [z9u hbare];rfl,by rw [qcv hbare];omega,by omega,?_⟩ ?_
 ·intro x hx
  have:(x.1,x.2.1.2) ∈ bare tl0:=List.mem_map.2 ⟨x,hx,rfl⟩
  rw [hbare] at this
  obtain ⟨y,hy,e⟩:=List.mem_map.1 this
  simp only [Prod.mk.injEq] at e
  rw [← e.2];exact hlen y hy
 clear hT0 hbare hfpc hx2 htot0 fpc tl0
 rintro _ W ⟨i,rfl,hi,tl,fpc,hxW,hT,hfpc,hview,htl,htt,hlt2⟩
 refine zq (fun hlt=>?_) (fun hge=>?_)
 ·have hil:i < Ls.length:=by omega
  obtain ⟨bl,ol,cl,Tl,frl,xl,rfl,hbl,hcl,hxC,hxl,hxc⟩:=hL i hil
  have hLl:=hsm i hil
  have hnext:=fun (tl':SM)=>Pt.next (H:=H) (pc:=pc) (q:=q) (tl:=tl') hil hview
  refine joinP_of (fun _ W'=>Pt H pc q rl Ls (i+1) W') ?_ ?_
  rotate_left
  ·rintro _ W' h
   refine xu ((i+1:Nat):Int) (by omega) (by omega) (by omega) ?_
   exact ⟨⟨i+1,rfl,by omega,h⟩,by omega⟩
  refine joinP_of (fun _ W'=>Pt H pc q rl Ls (i+1) W') ?_ (fun _ _ h=>h)
  generalize hLL:Ls[i]=L at *
  refine zqz i rfl hil ?_
  refine jh (s:=.slc) (t:=xl) rfl (hxW.get hbl (by simp)) hcl ?_
  refine zl (zus rfl (hxC.ext hxW (by simp)) hxl (by omega)) ?_
  rintro e w4 ⟨rfl,hx4⟩
  refine ⟨arr (Sha.sum L),rfl,?_⟩
  refine qn8 rfl zaf fun w6 hb6 hx6 hs6=>?_
  have hx46:=hx4.trans hx6
  have hx06:=hxW.trans hx46
  refine je rfl hb6 (by simp [byteCells,zaf]) ?_
  have hT6:=hT.ext hx46 (by simp)
  refine zl (qgp rfl hT6 zaf (by omega)) ?_
  rintro e w7 ⟨pre,rest,rfl,hsp,hx7⟩
  refine ⟨((pre.length:Int),hit rest (Sha.sum L)),rfl,?_⟩
  have hx07:=hx06.trans hx7
  have hT7:=hT6.ext hx7 (by simp)
  have hb7:=hx7.get hb6 (by simp)
  have hW7:W.heap.size≤w7.heap.size:=(hx46.trans hx7).1
  have hHW:=hxW.1
  have hrise:=hT.rise
  have hfp7:∀ b ∈ fpc,H.size≤b∧b < w7.heap.size:=fun b hb=>⟨(hfpc b hb).1,by have:=(hfpc b hb).2;omega⟩
  generalize w4.heap.size=bk at *
  clear hx4 hx6 hx46 hx06 hT hT6 hb6 hfpc hxW hs6
  cases hh:hit rest (Sha.sum L) with
  | false =>
   refine zab rfl ?_
   have hvn:=zxc hsp hrise hh
   have hgap:=qit hsp hrise hh
   obtain ⟨xt,t1,t2,t3,t4,t5,t6,t7⟩:=hT7
   have hpH:=(hfp7 _ t3).1
   have heq:=hsp.eq
   subst heq
   have hll:(pre++rest).length=pre.length+rest.length:=by simp
   have hxl7:=zj5 t2
   have hxc7:=qks t2
   refine qpe rfl fun w8 hx8 hm8=>?_
   have hx78:=hx8
   simp only [xq,jr,Nat.zero_add]
   refine jh (s:=.slc) (t:=xt) rfl (hx78.get t1 (by simp)) rfl ?_
   obtain ⟨a1,hr1,hC1⟩:=qns (i:=pre.length) (t2.ext hx78 (by simp)).cells hxl7 hxc7 (by omega) rfl
   rw [List.take_left] at hC1
   refine qm (s:=.slc) (a1,pre.length,xt.2.2) (hr1 _) ?_
   refine qnv (r1:=[]) (r2:=pre) rfl hm8 hx8.1 hC1 rfl (by simp;omega) ?_
   intro x9 w9 hm9 hl9 hx9 hs9
   rw [List.nil_append] at hm9
   have hx79:Ext [] w7.heap w9.heap:=hx8.own hx9 (by intro b hb;simp [xw] at hb;omega)
   refine jw rfl fun w10 hw10=>?_
   have hx910:Ext [] w9.heap w10.heap:=by rw [hw10];exact .refl _ _
   have hx710:=hx79.trans hx910
   refine zqz i rfl hil ?_
   refine je rfl (hx710.get hb7 (by simp)) (by simp [byteCells,zaf]) ?_
   have hbl10:=(hx07.trans hx710).get hbl (by simp)
   refine jh (s:=.slc) (t:=xl) rfl hbl10 hcl ?_
   refine qn0 rfl fun w11 hx11 hm11=>?_
   have hx711:=hx710.trans hx11
   refine ⟨jh (s:=.slc) (t:=xl) rfl (hx11.get hbl10 (by simp)) hcl rfl,?_⟩
   refine ⟨je rfl (hx711.get hb7 (by simp)) (by simp [byteCells,zaf]) rfl,?_⟩
   refine qkz rfl hm11 hx11.1 (hxC.ext (hx07.trans hx711) (by simp)) hxl (by omega) ?_
   intro x12 w12 hm12 hl12 hx12
   have hx712:Ext [] w7.heap w12.heap:=hx711.own hx12 (by intro b hb hlt;have:=hx710.1;simp [xw] at hb;omega)
   have hx912:Ext [] w9.heap w12.heap:=(hx910.trans hx11).own hx12 (by intro b hb hlt;have:=hx910.1;simp [xw] at hb;omega)
   refine ⟨je rfl (hx712.get hb7 (by simp)) (by simp [byteCells,zaf]) rfl,?_⟩
   refine qnc rfl (Sha.sum L,(x12,L),0) zaf fun a13 w13 hx13 hC13=>?_
   have hx913:=hx912.trans hx13
   have hx713:=hx712.trans hx13
   have hm13:=hm9.ext hx913 (by simp)
   have hs78:=hx8.1
   have hs79:=hx79.1
   refine qnv (r1:=pre) (r2:=[(Sha.sum L,(x12,L),0)]) rfl hm13 (by have:=hx713.1;omega) hC13 rfl (by simp;omega) ?_
   intro x14 w14 hm14 hl14 hx14 hs14
   have hx714:Ext [] w7.heap w14.heap:=hx713.own hx14 (by intro b hb hlt;have:=jc hm13 b hb;omega)
   refine jh (s:=.slc) (t:=xt) rfl (hx714.get t1 (by simp)) rfl ?_
   obtain ⟨a2,hr2,hC2⟩:=qjx (i:=pre.length) (t2.ext hx714 (by simp)).cells hxl7 hxc7 (by omega) rfl
   rw [List.drop_left] at hC2
   refine qm (s:=.slc) (a2,xt.2.1 - pre.length,xt.2.2 - pre.length) (hr2 _) ?_
   refine qnv (r1:=pre++[(Sha.sum L,(x12,L),0)]) (r2:=rest) rfl hm14 (by have:=hx714.1;omega) hC2 (by simp only;omega) (by simp;omega) ?_
   intro x15 w15 hm15 hl15 hx15 hs15
   have hx715:Ext [] w7.heap w15.heap:=hx714.own hx15 (by intro b hb hlt;have:=jc hm14 b hb;omega)
   have t15:=hx715.get t1 (by simp)
   refine zcd rfl t15 (by simp) fun w16 hw16=>?_
   have hx1516:Ext [pc] w15.heap w16.heap:=by rw [hw16];exact Ext.set _ (by simp)
   rw [List.append_assoc,List.singleton_append] at hm15
   have hg15:=jc hm15
   have hg12:=jc hm12
   have hpc7:=(hfp7 _ t3).2
   have hm16:=hm15.ext hx1516 (fun b hb=>by have:=hg15 b hb;simp only [List.mem_singleton];omega)
   have h12_15:Mine w15.heap 0 qy 1 x12 (byteCells L):=by
    have h1:=hm12.ext hx13 (by simp)
    have h2:=h1.ext hx14 (fun b hb hb2=>by
     obtain ⟨_,c1,e1⟩:=za9 h1 b hb
     obtain ⟨_,c2,e2⟩:=za9 hm13 b hb2
     rw [e1] at e2;cases e2)
    have h3:=h2.ext hx15 (fun b hb hb2=>by
     obtain ⟨_,c1,e1⟩:=za9 h2 b hb
     obtain ⟨_,c2,e2⟩:=za9 hm14 b hb2
     rw [e1] at e2;cases e2)
    exact h3.mono (Nat.zero_le _)
   have hs712:=hx712.1
   have hs710:=hx710.1
   have h12_16:Mine w16.heap 0 qy 1 x12 (byteCells L):=h12_15.ext hx1516 (fun b hb=>by have:=hg12 b hb;simp only [List.mem_singleton];omega)
   refine ⟨pre++(Sha.sum L,(x12,L),0) :: rest,fpc++xw x15++xw x12,(hx07.trans hx715).own hx1516 (by intro b hb hlt;simp at hb;omega),⟨x15,by rw [hw16];exact qw t15,hm16.mono (Nat.zero_le _),by simp [t3],fun b hb=>by simp [hb],?_,?_,?_⟩,?_,?_,?_,?_,?_⟩
   ·intro z hz
    rcases zfd.1 hz with rfl | hz
    ·exact ⟨h12_16,fun b hb=>by simp only [List.mem_append];exact .inr hb⟩
    ·have hV:=(t5.ext hx715 (by simp)).off (o:=.map #[] 0) t15 (by decide) hx1516
     exact ⟨(hV z hz).1,fun b hb=>by simp [(hV z hz).2 b hb]⟩
   ·refine t6.mid fun z hz b hb hb2=>?_
    have h1:=hg12 b hb
    have h2:=(hfp7 b ((t5 z hz).2 b hb2)).2
    have:=hx710.1
    omega
   ·exact t7.mid zaf hsp.lo hgap
   ·intro b hb
    rw [List.append_assoc] at hb
    rcases List.mem_append.1 hb with hb | hb
    ·exact ⟨(hfp7 b hb).1,by have:=(hfp7 b hb).2;have:=hx715.1;have:=hx1516.1;omega⟩
    ·rcases List.mem_append.1 hb with hb | hb
     ·exact ⟨by have:=hg15 b hb;omega,(za9 hm16 b hb).1⟩
     ·exact ⟨by have:=hg12 b hb;omega,(za9 h12_16 b hb).1⟩
   ·refine hnext _ fun k=>?_
    rw [ztq (y:=(Sha.sum L,(x12,L),0)) (fun z hz=>z5a (hsp.lo z hz)),hvn]
    rfl
   ·simp only [List.length_append,List.length_cons] at htl ⊢;omega
   ·rw [z8u];simp only;omega
   ·intro z hz
    rcases zfd.1 hz with rfl | hz
    ·simp only;omega
    ·exact hlt2 z hz
  | true =>
   refine jl rfl ?_
   obtain ⟨y,t,rfl,hyk,hvy,hget,hmem⟩:=z5u hsp hrise hh
   obtain ⟨xt,t1,t2,t3,t4,t5,t6,t7⟩:=hT7
   have hpH:=(hfp7 _ t3).1
   have hxl7:=zj5 t2
   have hyl:=zzv t5 hget
   have hyL:=hlt2 _ hmem
   refine jw rfl fun w17 hw17=>?_
   have hx17:Ext [] w7.heap w17.heap:=by rw [hw17];exact .refl _ _
   simp only [xq,jr,Nat.zero_add]
   refine jh (s:=.slc) (t:=xt) rfl (hx17.get t1 (by simp)) rfl ?_
   refine zua rfl (t2.ext hx17 (by simp)).cells hxl7 hget rfl ?_
   refine je rfl (hx17.get hb7 (by simp)) (by simp [byteCells,zaf]) ?_
   refine zl (zus rfl ((t5 y hmem).1.ext hx17 (by simp)).cells hyl (by omega)) ?_
   rintro e w18 ⟨rfl,hx18⟩
   refine ⟨arr (Sha.sum y.2.1.2),rfl,?_⟩
   have hx718:=hx17.trans hx18
   refine ⟨je rfl (hx718.get hb7 (by simp)) (by simp [byteCells,zaf]) rfl,?_⟩
   refine qm (s:=.bool) _ (z3j u27 u5 c5 g27 zaf zaf) ?_
   have heq:=hsp.eq
   subst heq
   obtain ⟨_,hlo,hhi⟩:=zxa.1 hrise
   by_cases e:Sha.sum y.2.1.2=Sha.sum L
   ·refine jl (by simp [e]) ?_
    refine ⟨pre++y :: t,fpc,hx07.trans hx718,⟨xt,hx718.get t1 (by simp),t2.ext hx718 (by simp),t3,t4,t5.ext hx718 (by simp),t6,t7⟩,fun b hb=>⟨(hfp7 b hb).1,by have:=(hfp7 b hb).2;have:=hx718.1;omega⟩,?_,by omega,by omega,hlt2⟩
    refine hnext _ fun k=>?_
    rw [hvy]
    by_cases e2:k=Sha.sum L
    ·rw [if_pos e2,e2,hvy];simp [z15,e]
    ·rw [if_neg e2]
   ·refine zab (by simp [e]) ?_
    refine jw rfl fun w19 hw19=>?_
    have hx719:Ext [] w7.heap w19.heap:=by rw [hw19];exact hx718
    refine zqz i rfl hil ?_
    have t119:=hx719.get t1 (by simp)
    refine jh (s:=.slc) (t:=xt) rfl t119 rfl ?_
    have hbl19:=(hx07.trans hx719).get hbl (by simp)
    refine jh (s:=.slc) (t:=xl) rfl hbl19 hcl ?_
    refine qn0 rfl fun w20 hx20 hm20=>?_
    refine ⟨jh (s:=.slc) (t:=xl) rfl (hx20.get hbl19 (by simp)) hcl rfl,?_⟩
    refine ⟨jh (s:=.slc) (t:=xt) rfl (hx20.get t119 (by simp)) rfl rfl,?_⟩
    have hx720:=hx719.trans hx20
    refine qkz rfl hm20 hx20.1 (hxC.ext (hx07.trans hx720) (by simp)) hxl (by omega) ?_
    intro x21 w21 hm21 hl21 hx21
    have hx721:Ext [] w7.heap w21.heap:=hx720.own hx21 (by intro b hb hlt;have:=hx719.1;simp [xw] at hb;omega)
    have t121:=hx721.get t1 (by simp)
    refine ⟨jh (s:=.slc) (t:=xt) rfl t121 rfl rfl,?_⟩
    have t221:=t2.ext hx721 (by simp)
    have hlv:((pre++y :: t).flatMap zhg).length=(pre++y :: t).length * 33:=qg zhg ze1 _
    obtain ⟨bb,cc,hxa,hbb,hic,hput⟩:=Mine.putk t221 (i:=pre.length * 33+32) (by rw [hlv];simp;omega) (zcr x21)
    rw [set_mid (s:=y.2.2) (L:=L)] at hput
    rw [hxa]
    refine qi8 pre.length rfl (by rw [hxl7];simp) ?_
    simp only [jr,Nat.zero_add]
    refine zcd rfl hbb hic fun w22 hw22=>?_
    have hw22':w22.heap=w21.heap.setIfInBounds bb (.cells (cc.setIfInBounds (pre.length * 33+32) (zcr x21)) zbk (0,0)):=hw22
    rw [← hw22'] at hput
    have hx2122:Ext [bb] w21.heap w22.heap:=by rw [hw22];exact Ext.set _ (by simp)
    have hbf:bb ∈ fpc:=t4 bb (by simp only [xw];rw [hxa];simp)
    have hg21:=jc hm21
    have hs719:=hx719.1
    have h21_22:Mine w22.heap 0 qy 1 x21 (byteCells L):=(hm21.mono (Nat.zero_le _)).ext hx2122 (fun b hb=>by have:=hg21 b hb;have:=(hfp7 _ hbf).2;simp only [List.mem_singleton];omega)
    refine ⟨pre++(y.1,(x21,L),y.2.2) :: t,fpc++xw x21,(hx07.trans hx721).own hx2122 (by intro b hb hlt;simp at hb;have:=(hfp7 _ hbf).1;omega),⟨xt,hx2122.get t121 ?_,hput,by simp [t3],fun b hb=>by simp [t4 b hb],?_,?_,?_⟩,?_,?_,?_,?_,?_⟩
    ·simp only [List.mem_singleton];rintro rfl;rw [t121] at hbb;cases hbb
    ·intro z hz
     rcases zfd.1 hz with rfl | hz
     ·exact ⟨h21_22,fun b hb=>by simp only [List.mem_append];exact .inr hb⟩
     ·have hV:=(t5.ext hx721 (by simp)).off (o:=.map #[] 0) hbb (by decide) hx2122
      have hz':z ∈ pre++y :: t:=zfd.2 (.inr hz)
      exact ⟨(hV z hz').1,fun b hb=>by simp [(hV z hz').2 b hb]⟩
    ·refine Apart.mid (t6.sub fun z hz=>zfd.2 (.inr hz)) fun z hz b hb hb2=>?_
     have h1:=hg21 b hb
     have h2:=(hfp7 b ((t5 z (zfd.2 (.inr hz))).2 b hb2)).2
     omega
    ·exact t7.sub.mid (t7.len y hmem) hlo hhi
    ·intro b hb
     rcases List.mem_append.1 hb with hb | hb
     ·exact ⟨(hfp7 b hb).1,by have:=(hfp7 b hb).2;have:=hx721.1;have:=hx2122.1;omega⟩
     ·exact ⟨by have:=hg21 b hb;omega,(za9 h21_22 b hb).1⟩
    ·refine hnext _ fun k=>?_
     rw [ztq (y:=(y.1,(x21,L),y.2.2)) (fun z hz=>z5a (hlo z hz)),hvy]
     show (if k=y.1 then some L else _)=_
     rw [hyk]
     by_cases e2:k=Sha.sum L
     ·rw [if_pos e2,if_pos e2];simp [z15,e]
     ·rw [if_neg e2,if_neg e2,ztq (y:=y) (fun z hz=>z5a (hlo z hz)),if_neg (by rw [hyk];exact e2)]
    ·simp only [List.length_append,List.length_cons] at htl ⊢;omega
    ·rw [z8u] at htt ⊢;simp only;omega
    ·intro z hz
     rcases zfd.1 hz with rfl | hz
     ·simp only;omega
     ·exact hlt2 z (zfd.2 (.inr hz))
 ·have hie:i=Ls.length:=by omega
  subst hie
  rw [List.take_length] at hview
  refine jw rfl fun w25 hw25=>?_
  have hxW5:Ext [] W.heap w25.heap:=by rw [hw25];exact .refl _ _
  have hx25:=hxW.trans hxW5
  have hS25:=hS.ext hx25 (by simp)
  have hT25:=hT.ext hxW5 (by simp)
  obtain ⟨x,h1,h2,h3,h4,h5,h6,h7⟩:=hS
  simp only [xq,jr,Nat.zero_add]
  refine jh (s:=.int .i64) (t:=q) rfl (hx25.get h1 (by simp)) rfl ?_
  refine zl (qix rfl hT25 hS25 (by omega) (by omega) (by omega)) ?_
  rintro e w26 ⟨rfl,hx26⟩
  refine ⟨_,rfl,?_⟩
  have hx026:=hx25.trans hx26
  refine ⟨jh (s:=.int .i64) (t:=q) rfl (hx026.get h1 (by simp)) rfl rfl,?_⟩
  refine zl (qde rfl (hS25.ext hx26 (by simp)) (by omega) (by omega)) ?_
  rintro e w27 ⟨rfl,rfl⟩
  refine ⟨(total rl:Int),rfl,?_⟩
  refine ⟨jh (s:=.int .i64) (t:=q) rfl (hx026.get h1 (by simp)) rfl rfl,?_⟩
  refine zbu (q - total rl) rfl (by omega) (by omega) ?_
  have hext:zm4 tl rl=extra rl (fresh Ls):=z6x hT.keys (zyj Ls [] (by simp)) hview
  have hT26:=hT25.ext hx26 (by simp)
  have hpl:=lt_of_get h1
  refine zq (fun hfull=>?_) (fun hfit=>?_)
  ·refine ⟨3,rl,fp,rfl,hS25.ext hx26 (by simp),hx026.mono (by simp),fun b hb=>.inl hb,⟨fun h=>absurd h hnlong,fun _ _=>⟨rfl,rfl⟩,fun _ h=>absurd (by omega) h⟩,by omega,by omega,hlen⟩
  ·obtain ⟨xt,t1,t2,t3,t4,t5,t6,t7⟩:=hT26
   refine jh (s:=.slc) (t:=xt) rfl t1 rfl ?_
   have hp26:=hx026.get h1 (by simp)
   refine zcd rfl hp26 (by simp) fun w28 hw28=>?_
   have hx28:Ext [p] w27.heap w28.heap:=by rw [hw28];exact Ext.set _ (by simp)
   have hnp:∀ b ∈ fpc,b ∉ [p]:=fun b hb=>by have:=(hfpc b hb).1;simp only [List.mem_singleton];omega
   refine ⟨0,tl,fp++fpc,rfl,⟨xt,by rw [hw28];exact qw hp26,t2.ext hx28 (fun b hb=>hnp b (t4 b hb)),by simp [h3],fun b hb=>by simp [t4 b hb],(t5.ext hx28 hnp).mono (fun b hb=>by simp [hb]),t6,t7⟩,(hx026.mono (by simp)).trans (hx28.mono (by simpa using h3)),?_,⟨fun h=>absurd h hnlong,fun _ h=>absurd h (by omega),fun _ _=>⟨rfl,hview⟩⟩,by omega,by omega,hlt2⟩
   intro b hb
   rcases List.mem_append.1 hb with hb | hb
   ·exact .inl hb
   ·exact .inr ⟨(hfpc b hb).1,by have:=(hfpc b hb).2;have:=hxW5.1;have:=hx26.1;have:=hx28.1;omega⟩
theorem qeo {r rl:SM} (h:∀ k,zay r k=zay rl k) (F:BL):extra r F=extra rl F:=by
 unfold extra
 rw [show (fun x:List UInt8 × List UInt8=>(zay r x.1).isNone)=fun x=>(zay rl x.1).isNone from funext fun x=>by rw [h]]
theorem qcb {q:Int} {r r' rl rl':SM} {Ls:List (List UInt8)} {code code':Int} (h:zz3 q r Ls code r') (h':zz3 q rl Ls code' rl') (hv:∀ k,zay r k=zay rl k) (ht:total r=total rl):code=code'∧∀ k,zay r' k=zay rl' k:=by
 have hx:=qeo hv (fresh Ls)
 by_cases hl:long Ls
 ·obtain ⟨rfl,rfl⟩:=h.1 hl
  obtain ⟨rfl,rfl⟩:=h'.1 hl
  exact ⟨rfl,hv⟩
 by_cases hf:q < total r+extra r (fresh Ls)
 ·obtain ⟨rfl,rfl⟩:=h.2.1 hl hf
  obtain ⟨rfl,rfl⟩:=h'.2.1 hl (by omega)
  exact ⟨rfl,hv⟩
 ·obtain ⟨rfl,h2⟩:=h.2.2 hl hf
  obtain ⟨rfl,h3⟩:=h'.2.2 hl (by omega)
  exact ⟨rfl,fun k=>by rw [h2,h3,hv]⟩
theorem Small.view {r s:SM} (h:Small r) (hv:∀ k,zay r k=zay s k):Small s:=fun k L hk=>h k L (by rw [hv];exact hk)
end Go.Proofs.YtbmegmbnlajbbaaGreatDoor.Bl
namespace Go.Proofs.YtbmegmbnlajbbaaGreatDoor
open Go Go.Fw Go.Proofs
structure Itm where
 name:List UInt8
 kind:Int
 sum:List UInt8
deriving DecidableEq,Inhabited
structure Nod where
 kind:Int
 data:List UInt8
 size:Int
 parts:List (List UInt8)
 items:List Itm
deriving DecidableEq,Inhabited
def zfk (i:Itm):List Value:=.string (strOf i.name) :: .int .i64 i.kind :: Bl.zgg i.sum
theorem zax (i:Itm):(zfk i).length=34:=by simp [zfk,Bl.zd7]
theorem z3r {i:Itm}:zcz (zfk i):=by
 intro v hv
 simp only [zfk,List.mem_cons] at hv
 rcases hv with rfl | rfl | hv
 ·rfl
 ·rfl
 ·exact Bl.zx9 v hv
def zdu (n:Nod) (xp xi:Option Addr × Nat × Nat):List Value:=[.int .i64 n.kind,.string (strOf n.data),.int .i64 n.size,zcr xp,zcr xi]
structure NodW (H:Heap) (n:Nod) (xp xi:Option Addr × Nat × Nat):Prop where
 parts:Cells H xp.1 (n.parts.flatMap Bl.zgg)
 plen:xp.2.1=n.parts.length
 items:Cells H xi.1 (n.items.flatMap zfk)
 ilen:xi.2.1=n.items.length
 p32:∀ p ∈ n.parts,p.length=32
 i32:∀ i ∈ n.items,i.sum.length=32
theorem NodW.ext {H H':Heap} {n:Nod} {xp xi:Option Addr × Nat × Nat} (h:NodW H n xp xi) (hx:Ext [] H H'):NodW H' n xp xi :=
 ⟨h.parts.ext hx (by simp),h.plen,h.items.ext hx (by simp),h.ilen,h.p32,h.i32⟩
def ql0 (i:Itm):List UInt8:=zrq i.name++zgk i.kind++i.sum
def zk7 (l:List (List UInt8)):List UInt8:=l.flatten
def zsn (l:List Itm):List UInt8:=(l.map ql0).flatten
def zjy (n:Nod):List UInt8:=zgk n.kind++(if n.kind=1 then zrq n.data else if n.kind=2 then zgk n.size++zk7 n.parts else zgk n.items.length++zsn n.items)
structure SmallN (n:Nod):Prop where
 data:n.data.length≤65536
 parts:n.parts.length≤65536
 items:n.items.length≤65536
 names:∀ i ∈ n.items,i.name.length≤65536
theorem zqk:∀ {l:List (List UInt8)},(∀ p ∈ l,p.length=32)→(zk7 l).length=32 * l.length
 | [],_=>by simp [zk7]
 | p :: l,h=>by
  have h1:=h p (by simp)
  have h2:=zqk (l:=l) fun q hq=>h q (by simp [hq])
  simp only [zk7,List.flatten_cons,List.length_append,List.length_cons] at *
  omega
theorem qjo {i:Itm} (h:i.name.length≤65536) (h32:i.sum.length=32):(ql0 i).length≤65600:=by
 have h1:=zd2 (n:=i.name.length) (by omega)
 have h2:=zd3 (k:=i.kind)
 simp only [ql0,zrq,List.length_append]
 omega
theorem zs7:∀ {l:List Itm},(∀ i ∈ l,i.name.length≤65536)→(∀ i ∈ l,i.sum.length=32)→(zsn l).length≤65600 * l.length
 | [],_,_=>by simp [zsn]
 | i :: l,h,h'=>by
  have h1:=qjo (h i (by simp)) (h' i (by simp))
  have h2:=zs7 (l:=l) (fun q hq=>h q (by simp [hq])) (fun q hq=>h' q (by simp [hq]))
  simp only [zsn,List.map_cons,List.flatten_cons,List.length_append,List.length_cons] at *
  omega
theorem z19 {l:List Itm} {i:Itm}:zsn (l++[i])=zsn l++ql0 i:=by simp [zsn]
theorem zzt {l:List (List UInt8)} {p:List UInt8}:zk7 (l++[p])=zk7 l++p:=by simp [zk7]
theorem qmu {w:World} {H1:Heap} {F:List Nat} {b:Nat} {L k:List UInt8} (hO:zwx H1 F b L w) (hk:k.length=32) (hL:L.length≤274877906944) :
  qj P zfl #[.pointer (some ⟨b,0,none⟩),arr k] w fun e w'=>e=.returned (.tuple #[])∧zwx H1 F b (L++k) w':=by
 refine zte ?_
 unfold zih
 refine jv rfl fun w0 hw0=>?_
 have hx0:Ext [] w.heap w0.heap:=by rw [hw0];exact .push _
 have hd0:w0.heap[w.heap.size]?=some (.cells (byteCells k).toArray zf (0,0)):=by rw [hw0];exact zn
 refine zab rfl ?_
 refine jw rfl fun w1 hw1=>?_
 have hx1:Ext [] w.heap w1.heap:=by rw [hw1];exact hx0
 have hd1:w1.heap[w.heap.size]?=some (.cells (byteCells k).toArray zf (0,0)):=by rw [hw1];exact hd0
 have hO1:=hO.ext hx1
 obtain ⟨x,h1,h2,h3,h4,h5,h6⟩:=hO1
 have hxl:x.2.1=L.length:=by have:=h3.len;simp at this;omega
 simp only [xq]
 refine jh (s:=.slc) (t:=x) rfl h2 rfl ?_
 refine qm (s:=.slc) (some (if 32=0 then (⟨w.heap.size,0,none⟩:Addr) else (⟨w.heap.size,0,none⟩:Addr).add (0 * 1)),32 - 0,32 - 0) (zdw Bl.u27 sz8 .no .no (by omega) (by omega)) ?_
 have hadd:(some (if 32=0 then (⟨w.heap.size,0,none⟩:Addr) else (⟨w.heap.size,0,none⟩:Addr).add (0 * 1)))=some (⟨w.heap.size,0,none⟩:Addr):=by simp [Addr.add]
 have hcd:Cells w1.heap (some (if 32=0 then (⟨w.heap.size,0,none⟩:Addr) else (⟨w.heap.size,0,none⟩:Addr).add (0 * 1))) (byteCells k):=by
  rw [hadd]
  exact .inr ⟨_,0,_,_,_,rfl,hd1,by simp,by simp [List.take_of_length_le]⟩
 refine zcq E8 (by omega) uS8 (za5 uS8) rfl h3 (Nat.zero_le _) (Src.slc rfl hcd (by simp [hk])) vg (by simp only;omega) ?_
 intro x' w4 hm4 hl4 hx4 hs4
 have hb4:w4.heap[b]?=some (.cells #[zcr x] zgu (0,0)):=hx4.get h2 h4
 refine zcd rfl hb4 (by simp) fun w5 hw5=>?_
 have hx5:Ext [b] w4.heap w5.heap:=by rw [hw5];exact Ext.set _ (by simp)
 have hs1:=h1.1
 have hbl:=lt_of_get h2
 have hbx:b ∉ xw x':=fun h=>by
  rcases hs4 b h with h | h
  ·exact h4 h
  ·omega
 refine ⟨trivial,x',?_,by rw [hw5];exact qw hb4,?_,hbx,fun c hc=>?_,h6⟩
 ·have h14:Ext (b :: F) H1 w4.heap:=h1.own hx4 (fun c hc hlt=>by
   rcases h5 c hc with h | h
   ·exact List.mem_cons_of_mem _ h
   ·omega)
  exact h14.trans (hx5.mono (by simp))
 ·rw [← byteCells_append]
  exact hm4.ext hx5 (fun c hc=>by simp only [List.mem_singleton];rintro rfl;exact hbx hc)
 ·rcases hs4 c hc with h | h
  ·exact h5 c h
  ·exact .inr (by omega)
theorem zcT:(zc P ql).size=34:=by kernel_rfl
theorem szT:P.cellsOf ql=34:=by kernel_rfl
theorem zcN:(zc P zi).size=5:=by kernel_rfl
theorem szN:P.cellsOf zi=5:=by kernel_rfl
theorem szD:P.cellsOf zf=32:=by kernel_rfl
theorem zcD:(zc P zf).size=32:=by kernel_rfl
theorem qid {w:World} {H:Heap} (n:Nod) (xp xi:Option Addr × Nat × Nat) (hw:w.heap=H) {K:Nat→World→Prop} (hK:∀ w',w'.heap=H.push (.cells (zdu n xp xi).toArray zi (0,0))→K H.size w') :
  zbn (zc P zi) zi w fun b w1=>zby P (storeVar zi (⟨b,0,none⟩:Addr) (.agg (zdu n xp xi).toArray)) w1 fun w2=>K b w2 :=
 qgq (v:=.agg (zdu n xp xi).toArray) szN zcN (by simp [Value.cells,zdu]) (by
  intro v hv
  simp only [Value.cells,zdu,List.mem_cons,List.not_mem_nil,or_false] at hv
  rcases hv with rfl | rfl | rfl | rfl | rfl <;> rfl) hw hK
theorem qna {w:World} {H:Heap} (i:Itm) (hw:w.heap=H) {K:Nat→World→Prop} (hK:∀ w',w'.heap=H.push (.cells (zfk i).toArray ql (0,0))→K H.size w') :
  zbn (zc P ql) ql w fun b w1=>zby P (storeVar ql (⟨b,0,none⟩:Addr) (.agg (zfk i).toArray)) w1 fun w2=>K b w2 :=
 qgq (v:=.agg (zfk i).toArray) (by rw [szT];simp [Value.cells,zax]) (by rw [zcT];simp [Value.cells,zax]) (by simp [Value.cells,zax]) (by simpa [Value.cells] using z3r) hw hK
theorem qie {w:World} {H:Heap} {k:List UInt8} (hk:k.length=32) (hw:w.heap=H) {K:Nat→World→Prop} (hK:∀ w',w'.heap=H.push (.cells (byteCells k).toArray zf (0,0))→K H.size w') :
  zbn (zc P zf) zf w fun b w1=>zby P (storeVar zf (⟨b,0,none⟩:Addr) (arr k)) w1 fun w2=>K b w2 :=
 qgq (v:=arr k) (by rw [szD,Bl.za6,hk]) (by rw [zcD,Bl.za6,hk]) (by rw [Bl.za6];omega) (by simpa [Value.cells,arr] using vg) hw hK
theorem zfv {vs:List Value}:(Value.cells (.agg vs.toArray):Array Value)=vs.toArray:=rfl
def zt4:List UInt8→List Itm→Bool
 | _,[]=>true
 | last,i :: r=>decide (Lib.compareBytes last i.name < 0) && zd6 i.name && (decide (i.kind=2) || decide (i.kind=3)) && zt4 i.name r
def zqb (l:List Itm):Bool:=zt4 [] l && decide (l.length≤64)
def z0b (size:Int):Int:=(size+63) / 64
def zc4 (n:Nod):Bool :=
 if n.kind=1 then decide (0 < n.data.length∧n.data.length≤64∧n.size=0∧n.parts.length=0∧n.items.length=0)
 else if n.kind=2 then decide (n.data=[]∧0≤n.size∧n.size≤1024∧(n.parts.length:Int)=z0b n.size∧n.items.length=0)
 else if n.kind=3 then decide (n.data=[]∧n.size=0∧n.parts.length=0) && zqb n.items else false
theorem zzk:∀ {l:List Itm} {last:List UInt8},zt4 last l=true→∀ i ∈ l,zd6 i.name=true
 | [],_,_=>by simp
 | i :: r,last,h=>by
  simp only [zt4,Bool.and_eq_true] at h
  intro j hj
  rcases List.mem_cons.1 hj with rfl | hj
  ·exact h.1.1.2
  ·exact zzk h.2 j hj
theorem z7u {n:Nod} (h:zc4 n=true):SmallN n:=by
 unfold zc4 at h
 split at h
 ·simp only [decide_eq_true_eq] at h
  have:n.items=[]:=List.eq_nil_of_length_eq_zero h.2.2.2.2
  exact ⟨by omega,by omega,by omega,by rw [this];simp⟩
 ·split at h
  ·have h:=of_decide_eq_true h
   unfold z0b at h
   have:n.items=[]:=List.eq_nil_of_length_eq_zero h.2.2.2.2
   exact ⟨by rw [h.1];simp,by omega,by omega,by rw [this];simp⟩
  ·split at h
   ·simp only [Bool.and_eq_true,decide_eq_true_eq,zqb] at h
    exact ⟨by rw [h.1.1];simp,by omega,by omega,fun i hi=>by have:=(zet.1 (zzk h.2.1 i hi)).1.2.1;omega⟩
   ·cases h
theorem z81 {L:List UInt8}:zwb [L]=0 ↔ zd6 L=true:=by
 rw [qjb]
 simp [okP]
set_option maxHeartbeats 4000000 in
theorem qjs {w:World} {H:Heap} {a:Option Addr} {l c:Nat} {T:List Itm} (hw:w.heap=H) (hL:Cells H a (T.flatMap zfk)) (hl:l=T.length) (hn:∀ i ∈ T,i.name.length≤9223372036854775807) (hm:T.length≤9223372036854775807) :
  qj P zo8 #[.slice a l c] w fun e w'=>e=.returned (.bool (zqb T))∧Ext [] H w'.heap:=by
 subst hl
 refine z1c ?_
 unfold zn4
 refine jd (fun (s:ByteArray × Int) W=>∃ (i:Nat) (last:List UInt8),s=(strOf last,(i:Int))∧i≤T.length∧zt4 [] T=zt4 last (T.drop i)∧Ext [] H W.heap) (fun s _=>(T.length - s.2).toNat)
  ⟨0,[],rfl,Nat.zero_le _,by simp,by rw [hw];exact .refl _ _⟩ ?_
 rintro _ W ⟨i,last,rfl,hi,hr,hxW⟩
 refine zq (fun hlt=>?_) (fun hge=>?_)
 ·have hil:i < T.length:=by omega
  have hget:=List.getElem?_eq_getElem hil
  have hmem:T[i] ∈ T:=List.getElem_mem hil
  have hdrop:T.drop i=T[i] :: T.drop (i+1):=(List.drop_eq_getElem_cons hil)
  rw [hdrop] at hr
  generalize T[i]=v at hget hmem hr
  have hvn:=hn v hmem
  have hfalse:∀ {W':World},Ext [] H W'.heap→zt4 last (v :: T.drop (i+1))=false→(Ending.returned (.bool false)=.returned (.bool (zqb T))∧Ext [] H W'.heap):=by
   intro W' hx h
   refine ⟨?_,hx⟩
   rw [zqb,hr,h];rfl
  refine zac ?_
  refine zjm (i:=i) zax (by omega) rfl (hL.ext hxW (by simp)) rfl hget rfl ?_
  refine qna v rfl fun w3 hw3=>?_
  have hx3:Ext [] W.heap w3.heap:=by rw [hw3];exact .push _
  have hb3:w3.heap[W.heap.size]?=some (.cells (zfk v).toArray ql (0,0)):=by rw [hw3];exact zn
  have hx03:=hxW.trans hx3
  refine joinP_of (fun _ W'=>Ext [] w3.heap W'.heap∧Lib.compareBytes last v.name < 0∧zd6 v.name=true) ?_ ?_
  ·refine jh (s:=.str) (t:=strOf v.name) rfl hb3 rfl ?_
   refine zfc (p:=¬ Lib.compareBytes last v.name < 0) (by
    rw [bytesLess_eq,zau,zau,ze5]
    simp only [Bool.or_eq_true,decide_eq_true_eq,beq_iff_eq]
    constructor
    ·rintro (h | h) h2
     ·exact absurd h (by have:=ze5.2 h;have:=ze5.2 h2;have:=zts (a:=last) (b:=v.name);omega)
     ·rw [h] at h2;have:=ze5.2 h2;rw [zfs.2 rfl] at this;omega
    ·intro h
     have h1:¬ Lib.compareBytes last v.name < 0:=fun h2=>h (ze5.1 h2)
     have h2:=zts (a:=last) (b:=v.name)
     by_cases h3:Lib.compareBytes v.name last=0
     ·right;exact zfs.1 h3
     ·left;exact ze5.1 (by omega)) (fun h=>hfalse hx03 (by simp [zt4,h])) (fun h=>?_)
   have hlt:Lib.compareBytes last v.name < 0:=by omega
   refine jh (s:=.str) (t:=strOf v.name) rfl hb3 rfl ?_
   refine zad (s:=.slc) (some ⟨w3.heap.size,0,none⟩,1,1) _ (zd0 qmj zw5 (v:=.string (strOf v.name)) rfl (by omega) (by omega)) ?_
   have hx4:Ext [] w3.heap (w3.heap.push (.cells (Value.string (strOf v.name)).cells qc)):=.push _
   have hc4:Cells (w3.heap.push (.cells (Value.string (strOf v.name)).cells qc)) (some ⟨w3.heap.size,0,none⟩) (strRow [v.name]):=.inr ⟨_,0,_,_,_,rfl,zn,by simp [strRow,Value.cells],by simp [strRow,Value.cells]⟩
   refine zl (qk8 (p:=[v.name]) rfl hc4 rfl (by intro L hL;simp at hL;subst hL;exact hvn) (by simp)) ?_
   rintro e w5 ⟨rfl,hw5⟩
   subst hw5
   refine ⟨zwb [v.name],rfl,?_⟩
   refine zb1 (fun h=>hfalse (hx03.trans hx4) (by
    have:zd6 v.name=false:=by rw [← Bool.not_eq_true];exact fun h2=>h (z81.2 h2)
    simp [zt4,this])) (fun h=>⟨hx4,hlt,z81.1 h⟩)
  rintro _ W5 ⟨hx35,hlt,hok⟩
  have hb5:=hx35.get hb3 (by simp)
  have hx05:=hx03.trans hx35
  refine jh (s:=.int .i64) (t:=v.kind) rfl hb5 rfl ?_
  refine joinP_of (fun s' W'=>s'=strOf v.name∧Ext [] H W'.heap∧(v.kind=2 ∨ v.kind=3)) ?_ ?_
  ·refine joinP_of (fun _ W'=>W'=W5∧(v.kind=2 ∨ v.kind=3)) ?_ ?_
   ·refine zac ?_
    refine zb3 (fun h=>⟨rfl,.inl h⟩) (fun h2=>?_)
    refine zb3 (fun h=>⟨rfl,.inr h⟩) (fun h3=>hfalse hx05 (by simp [zt4,h2,h3]))
   rintro _ W' ⟨rfl,hk⟩
   exact jh (s:=.str) (t:=strOf v.name) rfl hb5 rfl ⟨rfl,hx05,hk⟩
  rintro _ W' ⟨rfl,hx',hk⟩
  refine xu ((i+1:Nat):Int) (by omega) (by omega) (by omega) ?_
  refine ⟨⟨i+1,v.name,rfl,by omega,?_,hx'⟩,by omega⟩
  rw [hr]
  rcases hk with hk | hk <;> simp [zt4,hlt,hok,hk]
 ·obtain rfl:i=T.length:=by omega
  refine ⟨?_,hxW⟩
  rw [List.drop_length] at hr
  congr 2
  rw [zqb,hr,Bool.eq_iff_iff]
  simp [zt4]
  omega
set_option maxHeartbeats 4000000 in
theorem qhu {w:World} {H:Heap} {n:Nod} {xp xi:Option Addr × Nat × Nat} (hw:w.heap=H) (hN:NodW H n xp xi) (hs:n.size≤4611686018427387904) (hnn:∀ i ∈ n.items,i.name.length≤9223372036854775807) (hm:n.items.length≤9223372036854775807) :
  qj P zlo #[.agg (zdu n xp xi).toArray] w fun e w'=>e=.returned (.bool (zc4 n))∧Ext [] H w'.heap:=by
 obtain ⟨g1,g2,g3,g4,g5,g6⟩:=hN
 refine z3t ?_
 unfold zp7
 refine jv hw fun w1 hw1=>?_
 have hx1:Ext [] H w1.heap:=by rw [hw1];exact .push _
 have hb1:w1.heap[H.size]?=some (.cells (zdu n xp xi).toArray zi (0,0)):=by rw [hw1];exact zn
 refine jh (s:=.int .i64) (t:=n.kind) rfl hb1 rfl ?_
 have hle:∀ {k:Nat},(((k:Int) == 0)=true) ↔ k=0:=by intro k;simp
 refine zb3 (fun h1=>?_) (fun h1=>?_)
 ·have hf:∀ {p:Prop},(¬ (0 < n.data.length∧n.data.length≤64∧n.size=0∧n.parts.length=0∧n.items.length=0))→(Ending.returned (.bool false)=.returned (.bool (zc4 n))∧Ext [] H w1.heap):=by
   intro p h
   exact ⟨by rw [zc4,if_pos h1,decide_eq_false h],hx1⟩
  refine jh (s:=.str) (t:=strOf n.data) rfl hb1 rfl ?_
  refine zq (fun h2=>?_) (fun h2=>hf (p:=True) fun h=>h2 (by simp;omega))
  refine jh (s:=.str) (t:=strOf n.data) rfl hb1 rfl ?_
  refine zq (fun h3=>?_) (fun h3=>hf (p:=True) fun h=>h3 (by simp;omega))
  refine jh (s:=.int .i64) (t:=n.size) rfl hb1 rfl ?_
  refine zb3 (fun h4=>?_) (fun h4=>hf (p:=True) fun h=>h4 h.2.2.1)
  refine jh (s:=.slc) (t:=xp) rfl hb1 rfl ?_
  refine zb3 (fun h5=>?_) (fun h5=>hf (p:=True) fun h=>h5 (by omega))
  refine jh (s:=.slc) (t:=xi) rfl hb1 rfl ?_
  refine ⟨?_,hx1⟩
  rw [zc4,if_pos h1]
  congr 2
  rw [Bool.eq_iff_iff,hle,decide_eq_true_eq,g4]
  simp at h2 h3
  exact ⟨fun h=>⟨by omega,by omega,h4,by omega,h⟩,fun h=>h.2.2.2.2⟩
 refine zb3 (fun h2=>?_) (fun h2=>?_)
 ·have hf:∀ {W:World},Ext [] H W.heap→(¬ (n.data=[]∧0≤n.size∧n.size≤1024∧(n.parts.length:Int)=z0b n.size∧n.items.length=0))→(Ending.returned (.bool false)=.returned (.bool (zc4 n))∧Ext [] H W.heap):=by
   intro W hx h
   exact ⟨by rw [zc4,if_neg h1,if_pos h2,decide_eq_false h],hx⟩
  refine jw rfl fun w2 hw2=>?_
  have hx2:Ext [] H w2.heap:=by rw [hw2];exact hx1
  have hb2:w2.heap[H.size]?=some (.cells (zdu n xp xi).toArray zi (0,0)):=by rw [hw2];exact hb1
  refine jh (s:=.str) (t:=strOf n.data) rfl hb2 rfl ?_
  refine zfc (p:=n.data=[]) (by rw [zjw]) (fun h3=>?_) (fun h3=>⟨rfl,hf hx2 fun h=>h3 h.1⟩)
  refine jh (s:=.int .i64) (t:=n.size) rfl hb2 rfl ?_
  refine zq (fun h4=>?_) (fun h4=>⟨rfl,hf hx2 fun h=>h4 h.2.1⟩)
  refine jh (s:=.int .i64) (t:=n.size) rfl hb2 rfl ?_
  refine zq (fun h5=>?_) (fun h5=>⟨rfl,hf hx2 fun h=>h5 h.2.2.1⟩)
  refine jh (s:=.slc) (t:=xp) rfl hb2 rfl ?_
  refine jh (s:=.int .i64) (t:=n.size) rfl hb2 rfl ?_
  have hparts:qj P ziv #[.int .i64 n.size] w2 fun e w'=>e=.returned (.int .i64 (z0b n.size))∧w'=w2:=by
   refine ztr ?_
   unfold zlm
   refine xu (n.size+64) rfl (by omega) (by omega) ?_
   refine zbu (n.size+63) (by omega) (by omega) (by omega) ?_
   refine zyl (n.size+63).toNat 64 (by omega) rfl (by omega) (by omega) ?_
   refine ⟨?_,rfl⟩
   congr 2
   unfold z0b
   omega
  refine zl hparts ?_
  rintro e w3 ⟨rfl,rfl⟩
  refine ⟨z0b n.size,rfl,?_⟩
  refine ⟨jh (s:=.slc) (t:=xp) rfl hb2 rfl rfl,?_⟩
  refine zb3 (fun h6=>?_) (fun h6=>hf hx2 fun h=>h6 (by rw [g2];exact h.2.2.2.1))
  refine jh (s:=.slc) (t:=xi) rfl hb2 rfl ?_
  refine ⟨?_,hx2⟩
  rw [zc4,if_neg h1,if_pos h2]
  congr 2
  rw [Bool.eq_iff_iff,hle,decide_eq_true_eq,g4]
  rw [g2] at h6
  exact ⟨fun h=>⟨h3,h4,h5,h6,h⟩,fun h=>h.2.2.2.2⟩
 refine zb3 (fun h3=>?_) (fun h3=>⟨by rw [zc4,if_neg h1,if_neg h2,if_neg h3],hx1⟩)
 have hf:¬ (n.data=[]∧n.size=0∧n.parts.length=0)→(Ending.returned (.bool false)=.returned (.bool (zc4 n))∧Ext [] H w1.heap):=by
  intro h
  exact ⟨by rw [zc4,if_neg h1,if_neg h2,if_pos h3,decide_eq_false h];rfl,hx1⟩
 refine jh (s:=.str) (t:=strOf n.data) rfl hb1 rfl ?_
 refine zfc (p:=n.data=[]) (by rw [zjw]) (fun h4=>?_) (fun h4=>hf fun h=>h4 h.1)
 refine jh (s:=.int .i64) (t:=n.size) rfl hb1 rfl ?_
 refine zb3 (fun h5=>?_) (fun h5=>hf fun h=>h5 h.2.1)
 refine jh (s:=.slc) (t:=xp) rfl hb1 rfl ?_
 refine zb3 (fun h6=>?_) (fun h6=>hf fun h=>h6 (by omega))
 refine jh (s:=.slc) (t:=xi) rfl hb1 rfl ?_
 refine zl (qjs rfl (g3.ext hx1 (by simp)) g4 hnn hm) ?_
 rintro e w4 ⟨rfl,hx4⟩
 refine ⟨zqb n.items,rfl,?_⟩
 refine ⟨?_,hx1.trans hx4⟩
 rw [zc4,if_neg h1,if_neg h2,if_pos h3,decide_eq_true ⟨h4,h5,by omega⟩]
 rfl
theorem qdm {n:Nod}:(zgk n.kind).length≤10:=zd3
set_option maxHeartbeats 8000000 in
theorem qgf {w:World} {H:Heap} {n:Nod} {xp xi:Option Addr × Nat × Nat} (hw:w.heap=H) (hN:NodW H n xp xi) (hR:zc4 n=true) :
  qj P zn1 #[.agg (zdu n xp xi).toArray] w fun e w'=>∃ y,e=.returned (.tuple #[zcr y,.int .i64 0])∧Mine w'.heap H.size qy 1 y (byteCells (zjy n))∧Ext [] H w'.heap:=by
 have hS:=z7u hR
 have hsz:n.size≤4611686018427387904:=by
  unfold zc4 at hR
  split at hR
  ·have:=of_decide_eq_true hR;omega
  ·split at hR
   ·have:=of_decide_eq_true hR;omega
   ·split at hR
    ·simp only [Bool.and_eq_true,decide_eq_true_eq] at hR;omega
    ·cases hR
 refine z02 ?_
 unfold zob
 refine jv hw fun w1 hw1=>?_
 have hx1:Ext [] H w1.heap:=by rw [hw1];exact .push _
 have hb1:w1.heap[H.size]?=some (.cells (zdu n xp xi).toArray zi (0,0)):=by rw [hw1];exact zn
 refine je rfl hb1 rfl ?_
 refine zl (qhu rfl (hN.ext hx1) hsz (fun i hi=>by have:=hS.names i hi;omega) (by have:=hS.items;omega)) ?_
 rintro e w2 ⟨rfl,hx12⟩
 refine ⟨zc4 n,rfl,?_⟩
 rw [hR]
 refine jl rfl ?_
 have hx2:=hx1.trans hx12
 have hb2:=hx12.get hb1 (by simp)
 rw [zcO]
 refine jv rfl fun w3 hw3=>?_
 have hx23:Ext [] w2.heap w3.heap:=by rw [hw3];exact .push _
 have ho3:w3.heap[w2.heap.size]?=some (.cells #[zcr (none,0,0)] zgu (0,0)):=by rw [hw3];exact zn
 have hO3:zwx w3.heap [] w2.heap.size [] w3:=⟨(none,0,0),.refl _ _,ho3,.inl ⟨rfl,rfl⟩,by simp [xw],by simp [xw],lt_of_get ho3⟩
 have hb3:=hx23.get hb2 (by simp)
 have hN3:=hN.ext (hx2.trans hx23)
 have hH2:H.size < w2.heap.size:=lt_of_get hb2
 have keep:∀ {W:World} {K:List UInt8},zwx w3.heap [] w2.heap.size K W→Ext [w2.heap.size] w3.heap W.heap:=fun ⟨x,h1,_⟩=>h1
 have hne:H.size ∉ [w2.heap.size]:=by simp;omega
 have u1:=@qdm n
 refine jh (s:=.int .i64) (t:=n.kind) rfl hb3 rfl ?_
 refine cvU fun k1 e1 l1=>?_
 refine zl (qg6 k1 hO3 l1 (by simp)) ?_
 rintro e w4 ⟨rfl,hO4⟩
 refine ⟨(),rfl,?_⟩
 rw [show ztb k1=zgk n.kind by rw [e1];rfl,List.nil_append] at hO4
 have hx4:=keep hO4
 have hb4:=hx4.get hb3 hne
 refine joinP_of (fun _ W=>zwx w3.heap [] w2.heap.size (zjy n) W∧(zjy n).length≤274877906944) ?_ ?_
 rotate_left
 ·rintro _ W ⟨hOW,hlen⟩
  refine zl (qbx hOW (by omega)) ?_
  rintro e w5 ⟨y,rfl,hm,hx5⟩
  refine ⟨y,rfl,?_⟩
  have hx3W:Ext [] H W.heap:=(hx2.trans hx23).own (keep hOW) (by intro c hc hlt;simp at hc;omega)
  have:=hx3W.1
  exact ⟨y,rfl,hm.mono this,hx3W.trans hx5⟩
 refine jh (s:=.int .i64) (t:=n.kind) rfl hb4 rfl ?_
 refine zac ?_
 refine zb3 (fun h1=>?_) (fun h1=>?_)
 ·refine jh (s:=.str) (t:=strOf n.data) rfl hb4 rfl ?_
  have hd:=hS.data
  refine zl (qki n.data hO4 (by omega)) ?_
  rintro e w5 ⟨rfl,hO5⟩
  refine ⟨(),rfl,?_⟩
  have nl:=zd2 (n:=n.data.length) (by omega)
  have:zjy n=zgk n.kind++zrq n.data:=by unfold zjy;rw [if_pos h1]
  rw [this]
  exact ⟨hO5,by simp only [List.length_append,zrq];omega⟩
 refine zb3 (fun h2=>?_) (fun h2=>?_)
 ·refine jh (s:=.int .i64) (t:=n.size) rfl hb4 rfl ?_
  refine cvU fun k2 e2 l2=>?_
  refine zl (qg6 k2 hO4 l2 (by omega)) ?_
  rintro e w6 ⟨rfl,hO6⟩
  refine ⟨(),rfl,?_⟩
  rw [show ztb k2=zgk n.size by rw [e2];rfl] at hO6
  have u2:=@zd3 n.size
  have hb6:=(keep hO6).get hb3 hne
  refine jh (s:=.slc) (t:=xp) rfl hb6 rfl ?_
  have hpl:=hS.parts
  have hp32:=hN.p32
  have henc:zjy n=zgk n.kind++zgk n.size++zk7 n.parts:=by unfold zjy;rw [if_neg h1,if_pos h2,List.append_assoc]
  refine jd (fun (s:Int) W=>∃ i:Nat,s=(i:Int)∧i≤n.parts.length∧zwx w3.heap [] w2.heap.size (zgk n.kind++zgk n.size++zk7 (n.parts.take i)) W) (fun s _=>(n.parts.length - s).toNat) ⟨0,rfl,Nat.zero_le _,by simpa [zk7] using hO6⟩ ?_
  rintro _ W ⟨i,rfl,hi,hOW⟩
  have hpre:(zk7 (n.parts.take i)).length≤32 * 65536:=by
   rw [zqk fun p hp=>hp32 p (List.mem_of_mem_take hp)]
   simp;omega
  refine zq (fun hlt=>?_) (fun hge=>?_)
  ·have hil:i < n.parts.length:=by have:=hN.plen;omega
   have hget:=List.getElem?_eq_getElem hil
   have hmem:n.parts[i] ∈ n.parts:=List.getElem_mem hil
   have htake:n.parts.take (i+1)=n.parts.take i++[n.parts[i]]:=by rw [List.take_add_one,hget];rfl
   generalize n.parts[i]=v at hget hmem htake
   have hv:=hp32 v hmem
   have hcW:=hN3.parts.ext (keep hOW) (fun a ha hne2 h=>by
    obtain ⟨x,hx,hlt⟩:=hN.parts.lt hne2
    rw [hx] at ha;cases ha
    simp at h;omega)
   refine zjm (i:=i) Bl.zd7 (by omega) rfl hcW hN.plen hget rfl ?_
   rw [Bl.qmd hv]
   refine qie hv rfl fun w9 hw9=>?_
   have hx9:Ext [] W.heap w9.heap:=by rw [hw9];exact .push _
   have hb9:w9.heap[W.heap.size]?=some (.cells (byteCells v).toArray zf (0,0)):=by rw [hw9];exact zn
   refine je rfl hb9 (by simp [hv]) ?_
   refine zl (qmu (k:=v) (hOW.ext hx9) hv (by simp only [List.length_append];omega)) ?_
   rintro e w10 ⟨rfl,hO10⟩
   refine ⟨(),rfl,?_⟩
   refine xu ((i+1:Nat):Int) (by omega) (by omega) (by omega) ?_
   refine ⟨⟨i+1,rfl,by omega,?_⟩,by omega⟩
   rw [htake,zzt]
   simpa using hO10
  ·obtain rfl:i=n.parts.length:=by have:=hN.plen;omega
   rw [List.take_length] at hOW hpre
   rw [henc]
   exact ⟨hOW,by simp only [List.length_append];omega⟩
 ·refine jh (s:=.slc) (t:=xi) rfl hb4 rfl ?_
  have hil:=hN.ilen
  rw [hil]
  refine cvU fun k2 e2 l2=>?_
  refine zl (qg6 k2 hO4 l2 (by omega)) ?_
  rintro e w6 ⟨rfl,hO6⟩
  refine ⟨(),rfl,?_⟩
  rw [show ztb k2=zgk (n.items.length:Int) by rw [e2];rfl] at hO6
  have u2:=@zd3 (n.items.length:Int)
  have hb6:=(keep hO6).get hb3 hne
  refine jh (s:=.slc) (t:=xi) rfl hb6 rfl ?_
  have hpl:=hS.items
  have hnm:=hS.names
  have hi32:=hN.i32
  have henc:zjy n=zgk n.kind++zgk n.items.length++zsn n.items:=by unfold zjy;rw [if_neg h1,if_neg h2,List.append_assoc]
  refine jd (fun (s:Int) W=>∃ i:Nat,s=(i:Int)∧i≤n.items.length∧zwx w3.heap [] w2.heap.size (zgk n.kind++zgk n.items.length++zsn (n.items.take i)) W) (fun s _=>(n.items.length - s).toNat) ⟨0,rfl,Nat.zero_le _,by simpa [zsn] using hO6⟩ ?_
  rintro _ W ⟨i,rfl,hi,hOW⟩
  have hpre:(zsn (n.items.take i)).length≤65600 * 65536:=by
   have h:=zs7 (l:=n.items.take i) (fun p hp=>hnm p (List.mem_of_mem_take hp)) (fun p hp=>hi32 p (List.mem_of_mem_take hp))
   have:(n.items.take i).length≤65536:=by simp;omega
   omega
  refine zq (fun hlt=>?_) (fun hge=>?_)
  ·have hil2:i < n.items.length:=by omega
   have hget:=List.getElem?_eq_getElem hil2
   have hmem:n.items[i] ∈ n.items:=List.getElem_mem hil2
   have htake:n.items.take (i+1)=n.items.take i++[n.items[i]]:=by rw [List.take_add_one,hget];rfl
   generalize n.items[i]=v at hget hmem htake
   have hv:=hi32 v hmem
   have hvn:=hnm v hmem
   have hcW:=hN3.items.ext (keep hOW) (fun a ha hne2 h=>by
    obtain ⟨x,hx,hlt⟩:=hN.items.lt hne2
    rw [hx] at ha;cases ha
    simp at h;omega)
   refine zjm (i:=i) zax (by omega) rfl hcW hil hget rfl ?_
   refine qna v rfl fun w9 hw9=>?_
   have hx9:Ext [] W.heap w9.heap:=by rw [hw9];exact .push _
   have hb9:w9.heap[W.heap.size]?=some (.cells (zfk v).toArray ql (0,0)):=by rw [hw9];exact zn
   have nl:=zd2 (n:=v.name.length) (by omega)
   have uk:=@zd3 v.kind
   have hOsz:w2.heap.size < W.heap.size:=by have:=(keep hOW).1;have:=lt_of_get ho3;omega
   obtain ⟨F9,hO9,hF9,hF9l⟩:=hOW.rebase hx9
   have kp:∀ {K:List UInt8} {W':World},zwx w9.heap F9 w2.heap.size K W'→W'.heap[W.heap.size]?=some (.cells (zfk v).toArray ql (0,0)):=by
    intro K W' ⟨x,h1,_⟩
    refine h1.get hb9 fun h=>?_
    rcases List.mem_cons.1 h with h | h
    ·omega
    ·have:=hF9l _ h;omega
   refine jh (s:=.str) (t:=strOf v.name) rfl hb9 rfl ?_
   refine zl (qki v.name hO9 (by simp only [List.length_append];omega)) ?_
   rintro e w10 ⟨rfl,hO10⟩
   refine ⟨(),rfl,?_⟩
   refine jh (s:=.int .i64) (t:=v.kind) rfl (kp hO10) rfl ?_
   refine cvU fun k3 e3 l3=>?_
   refine zl (qg6 k3 hO10 l3 (by simp only [List.length_append,zrq];omega)) ?_
   rintro e w11 ⟨rfl,hO11⟩
   refine ⟨(),rfl,?_⟩
   rw [show ztb k3=zgk v.kind by rw [e3];rfl] at hO11
   refine zre (o:=2) rfl (kp hO11) (by simp [zax]) ?_
   have hex:(zfk v).toArray.extract 2 (2+32)=(Bl.zgg v.sum).toArray:=by
    apply Array.ext'
    simp [zfk,List.take_of_length_le,Bl.zd7]
   rw [hex,Bl.qmd hv]
   refine zl (qmu (k:=v.sum) hO11 hv (by simp only [List.length_append,zrq];omega)) ?_
   rintro e w12 ⟨rfl,hO12⟩
   refine ⟨(),rfl,?_⟩
   refine xu ((i+1:Nat):Int) (by omega) (by omega) (by omega) ?_
   refine ⟨⟨i+1,rfl,by omega,?_⟩,by omega⟩
   have:=hOW.unbase hx9 hF9 hO12
   rw [htake,z19]
   simpa [ql0] using this
  ·obtain rfl:i=n.items.length:=by omega
   rw [List.take_length] at hOW hpre
   rw [henc]
   exact ⟨hOW,by simp only [List.length_append];omega⟩
theorem qkh {w:World} {H:Heap} {b o:Nat} {c:Array Value} {T:TypeId} {fr:Nat × Nat} {k:List UInt8} (hw:w.heap=H) (hb:H[b]?=some (.cells c T fr)) (hs:o+32≤c.size) (hk:k.length=32) (hc:∀ j,j < 32→c[o+j]?=(byteCells k)[j]?)
  {K:(Option Addr × Nat × Nat)→Prop} (hK:∀ y:Option Addr × Nat × Nat,Cells H y.1 (byteCells k)→y.2.1=k.length→K y) :
  zaz P (Instr.sliceAt zf (Value.pointer (some (⟨b,o,none⟩:Addr))) none none none) .slc w K:=by
 refine qm (s:=.slc) (some (if 32=0 then (⟨b,o,none⟩:Addr) else (⟨b,o,none⟩:Addr).add (0 * 1)),32 - 0,32 - 0) (zdw Bl.u27 sz8 .no .no (by omega) (by omega)) ?_
 refine hK _ ?_ (by simp [hk])
 have hadd:(some (if 32=0 then (⟨b,o,none⟩:Addr) else (⟨b,o,none⟩:Addr).add (0 * 1)))=some (⟨b,o,none⟩:Addr):=by simp [Addr.add]
 show Cells H (some (if 32=0 then (⟨b,o,none⟩:Addr) else (⟨b,o,none⟩:Addr).add (0 * 1))) (byteCells k)
 rw [hadd]
 refine .inr ⟨b,o,c,T,fr,rfl,hb,by simp [hk];omega,?_⟩
 apply List.ext_getElem?
 intro j
 rw [Array.getElem?_toList,Array.getElem?_extract]
 simp only [jf,hk]
 by_cases hj:j < 32
 ·rw [if_pos (by omega),hc j hj]
 ·rw [if_neg (by omega),List.getElem?_eq_none (by simp [hk];omega)]
set_option maxHeartbeats 8000000 in
theorem zv4 {w:World} {H:Heap} {n:Nod} {xp xi:Option Addr × Nat × Nat} (hw:w.heap=H) (hN:NodW H n xp xi) (hS:SmallN n) :
  qj P ziu #[.agg (zdu n xp xi).toArray] w fun e w'=>∃ y,e=.returned (zcr y)∧Mine w'.heap H.size qy 1 y (byteCells (zjy n))∧Ext [] H w'.heap:=by
 refine z4y ?_
 unfold zpm
 refine jv hw fun w1 hw1=>?_
 have hx1:Ext [] H w1.heap:=by rw [hw1];exact .push _
 have hb1:w1.heap[H.size]?=some (.cells (zdu n xp xi).toArray zi (0,0)):=by rw [hw1];exact zn
 have u1:=@qdm n
 have h1s:H.size≤w1.heap.size:=hx1.1
 refine jh (s:=.int .i64) (t:=n.kind) rfl hb1 rfl ?_
 refine cvU fun k1 e1 l1=>?_
 refine zl (zxv rfl l1) ?_
 rintro e w2 ⟨y1,rfl,hm2,hx2⟩
 refine ⟨y1,rfl,?_⟩
 rw [show ztb k1=zgk n.kind by rw [e1];rfl] at hm2
 have hb2:=hx2.get hb1 (by simp)
 have fin:∀ {W:World} {x:Option Addr × Nat × Nat} {L:List UInt8},Mine W.heap w1.heap.size qy 1 x (byteCells L)→Ext [] w1.heap W.heap→L=zjy n→∃ y,Ending.returned (zcr x)=.returned (zcr y)∧Mine W.heap H.size qy 1 y (byteCells (zjy n))∧Ext [] H W.heap:=by
  intro W x L hm hx he
  exact ⟨x,rfl,by rw [← he];exact hm.mono h1s,hx1.trans hx⟩
 refine jh (s:=.int .i64) (t:=n.kind) rfl hb2 rfl ?_
 refine zb3 (fun h1=>?_) (fun h1=>?_)
 ·refine jh (s:=.str) (t:=strOf n.data) rfl hb2 rfl ?_
  have hd:=hS.data
  have nl:=zd2 (n:=n.data.length) (by omega)
  refine zl (qch n.data rfl (by omega)) ?_
  rintro e w3 ⟨y3,rfl,hm3,hx3⟩
  refine ⟨y3,rfl,?_⟩
  have hx03:=hx2.trans hx3
  refine qi9 rfl (hm2.ext hx3 (by simp)) hx03.1 hm3.cells (by have:=hm3.len;simp at this;omega) (by simp [zrq];omega) fun x4 w4 hm4 hx4 hs4=>?_
  exact fin hm4 (zky hx03 (hm2.ext hx3 (by simp)) (Nat.le_refl _) hx4) (by unfold zjy;rw [if_pos h1])
 refine jh (s:=.int .i64) (t:=n.kind) rfl hb2 rfl ?_
 refine zb3 (fun h2=>?_) (fun h2=>?_)
 ·refine jh (s:=.int .i64) (t:=n.size) rfl hb2 rfl ?_
  refine cvU fun k2 e2 l2=>?_
  refine zl (zxv rfl l2) ?_
  rintro e w3 ⟨y3,rfl,hm3,hx3⟩
  refine ⟨y3,rfl,?_⟩
  rw [show ztb k2=zgk n.size by rw [e2];rfl] at hm3
  have u2:=@zd3 n.size
  have hx03:=hx2.trans hx3
  refine qi9 rfl (hm2.ext hx3 (by simp)) hx03.1 hm3.cells (by have:=hm3.len;simp at this;omega) (by omega) fun x4 w4 hm4 hx4 hs4=>?_
  have hx04:=zky hx03 (hm2.ext hx3 (by simp)) (Nat.le_refl _) hx4
  have hpl:=hS.parts
  have hp32:=hN.p32
  have henc:zjy n=zgk n.kind++zgk n.size++zk7 n.parts:=by unfold zjy;rw [if_neg h1,if_pos h2,List.append_assoc]
  refine jd (fun (s:(Option Addr × Nat × Nat) × Int) W=>∃ i:Nat,s.2=(i:Int)∧i≤n.parts.length∧Ext [] w1.heap W.heap∧Mine W.heap w1.heap.size qy 1 s.1 (byteCells (zgk n.kind++zgk n.size++zk7 (n.parts.take i)))) (fun s _=>(n.parts.length - s.2).toNat) ⟨0,rfl,Nat.zero_le _,hx04,by simpa [zk7] using hm4⟩ ?_
  rintro ⟨z,_⟩ W ⟨i,rfl,hi,hxW,hmW⟩
  have hpre:(zk7 (n.parts.take i)).length≤32 * 65536:=by
   rw [zqk fun p hp=>hp32 p (List.mem_of_mem_take hp)]
   simp;omega
  have hplen:=hN.plen
  refine jh (s:=.slc) (t:=xp) rfl (hxW.get hb1 (by simp)) rfl ?_
  refine zq (fun hlt=>?_) (fun hge=>?_)
  ·have hil:i < n.parts.length:=by simp only at hlt;omega
   have hget:=List.getElem?_eq_getElem hil
   have hmem:n.parts[i] ∈ n.parts:=List.getElem_mem hil
   have htake:n.parts.take (i+1)=n.parts.take i++[n.parts[i]]:=by rw [List.take_add_one,hget];rfl
   generalize n.parts[i]=v at hget hmem htake
   have hv:=hp32 v hmem
   refine jh (s:=.slc) (t:=xp) rfl (hxW.get hb1 (by simp)) rfl ?_
   refine Bl.zdh (i:=i) Bl.zd7 (by omega) (hN.parts.ext (hx1.trans hxW) (by simp)) hplen hget rfl fun b o c T fr _ hb hsz hc _=>?_
   rw [Bl.zgx hv] at hc
   refine qkh rfl hb hsz hv hc fun y hy hyl=>?_
   refine qi9 rfl hmW hxW.1 hy hyl (by simp only [List.length_append];omega) fun x5 w5 hm5 hx5 hs5=>?_
   refine xu ((i+1:Nat):Int) (by simp) (by omega) (by omega) ?_
   refine ⟨⟨i+1,rfl,by omega,zky hxW hmW (Nat.le_refl _) hx5,?_⟩,by simp only;omega⟩
   rw [htake,zzt]
   simpa using hm5
  ·obtain rfl:i=n.parts.length:=by simp only at hge;omega
   rw [List.take_length] at hmW
   exact fin hmW hxW henc.symm
 ·refine jh (s:=.slc) (t:=xi) rfl hb2 rfl ?_
  have hil:=hN.ilen
  rw [hil]
  refine cvU fun k2 e2 l2=>?_
  refine zl (zxv rfl l2) ?_
  rintro e w3 ⟨y3,rfl,hm3,hx3⟩
  refine ⟨y3,rfl,?_⟩
  rw [show ztb k2=zgk (n.items.length:Int) by rw [e2];rfl] at hm3
  have u2:=@zd3 (n.items.length:Int)
  have hx03:=hx2.trans hx3
  refine qi9 rfl (hm2.ext hx3 (by simp)) hx03.1 hm3.cells (by have:=hm3.len;simp at this;omega) (by omega) fun x4 w4 hm4 hx4 hs4=>?_
  have hx04:=zky hx03 (hm2.ext hx3 (by simp)) (Nat.le_refl _) hx4
  have hpl:=hS.items
  have hnm:=hS.names
  have hi32:=hN.i32
  have henc:zjy n=zgk n.kind++zgk n.items.length++zsn n.items:=by unfold zjy;rw [if_neg h1,if_neg h2,List.append_assoc]
  refine jd (fun (s:(Option Addr × Nat × Nat) × Int) W=>∃ i:Nat,s.2=(i:Int)∧i≤n.items.length∧Ext [] w1.heap W.heap∧Mine W.heap w1.heap.size qy 1 s.1 (byteCells (zgk n.kind++zgk n.items.length++zsn (n.items.take i)))) (fun s _=>(n.items.length - s.2).toNat) ⟨0,rfl,Nat.zero_le _,hx04,by simpa [zsn] using hm4⟩ ?_
  rintro ⟨z,_⟩ W ⟨i,rfl,hi,hxW,hmW⟩
  have hpre:(zsn (n.items.take i)).length≤65600 * 65536:=by
   have h:=zs7 (l:=n.items.take i) (fun p hp=>hnm p (List.mem_of_mem_take hp)) (fun p hp=>hi32 p (List.mem_of_mem_take hp))
   have:(n.items.take i).length≤65536:=by simp;omega
   omega
  refine jh (s:=.slc) (t:=xi) rfl (hxW.get hb1 (by simp)) rfl ?_
  refine zq (fun hlt=>?_) (fun hge=>?_)
  ·have hil2:i < n.items.length:=by simp only at hlt;omega
   have hget:=List.getElem?_eq_getElem hil2
   have hmem:n.items[i] ∈ n.items:=List.getElem_mem hil2
   have htake:n.items.take (i+1)=n.items.take i++[n.items[i]]:=by rw [List.take_add_one,hget];rfl
   generalize n.items[i]=v at hget hmem htake
   have hv:=hi32 v hmem
   have hvn:=hnm v hmem
   have nl:=zd2 (n:=v.name.length) (by omega)
   have uk:=@zd3 v.kind
   have itc:∀ {W':World},Ext [] w1.heap W'.heap→Cells W'.heap xi.1 (n.items.flatMap zfk):=fun h=>hN.items.ext (hx1.trans h) (by simp)
   refine jh (s:=.slc) (t:=xi) rfl (hxW.get hb1 (by simp)) rfl ?_
   refine Bl.zdh (i:=i) zax (by omega) (itc hxW) hil hget rfl fun b o c T fr _ hb hsz hc _=>?_
   refine jh (s:=.str) (t:=strOf v.name) rfl hb (hc 0 (by omega)) ?_
   refine zl (qch v.name rfl (by omega)) ?_
   rintro e w5 ⟨y5,rfl,hm5,hx5⟩
   refine ⟨y5,rfl,?_⟩
   have hx05:=hxW.trans hx5
   refine qi9 rfl (hmW.ext hx5 (by simp)) hx05.1 hm5.cells (by have:=hm5.len;simp at this;omega) (by simp only [List.length_append,zrq];omega) fun x6 w6 hm6 hx6 hs6=>?_
   have hx06:=zky hx05 (hmW.ext hx5 (by simp)) (Nat.le_refl _) hx6
   refine jh (s:=.slc) (t:=xi) rfl (hx06.get hb1 (by simp)) rfl ?_
   refine Bl.zdh (i:=i) zax (by omega) (itc hx06) hil hget rfl fun b' o' c' T' fr' _ hb' hsz' hc' _=>?_
   simp only [jr]
   refine jh (s:=.int .i64) (t:=v.kind) rfl hb' (hc' 1 (by omega)) ?_
   refine cvU fun k3 e3 l3=>?_
   refine zl (zxv rfl l3) ?_
   rintro e w7 ⟨y7,rfl,hm7,hx7⟩
   refine ⟨y7,rfl,?_⟩
   rw [show ztb k3=zgk v.kind by rw [e3];rfl] at hm7
   have hx07:=hx06.trans hx7
   refine qi9 rfl (hm6.ext hx7 (by simp)) hx07.1 hm7.cells (by have:=hm7.len;simp at this;omega) (by simp only [List.length_append,zrq];omega) fun x8 w8 hm8 hx8 hs8=>?_
   have hx08:=zky hx07 (hm6.ext hx7 (by simp)) (Nat.le_refl _) hx8
   refine jh (s:=.slc) (t:=xi) rfl (hx08.get hb1 (by simp)) rfl ?_
   refine Bl.zdh (i:=i) zax (by omega) (itc hx08) hil hget rfl fun b2 o2 c2 T2 fr2 _ hb2' hsz2 hc2 _=>?_
   simp only [jr]
   refine qkh (k:=v.sum) rfl hb2' (by omega) hv (fun j hj=>?_) fun y hy hyl=>?_
   ·have:=hc2 (2+j) (by omega)
    rw [← Nat.add_assoc] at this
    rw [this]
    simp only [zfk,Bl.zgx hv]
    rw [show 2+j=(j+1)+1 by omega]
    rfl
   refine qi9 rfl hm8 hx08.1 hy hyl (by simp only [List.length_append,zrq];omega) fun x9 w9 hm9 hx9 hs9=>?_
   refine xu ((i+1:Nat):Int) (by simp) (by omega) (by omega) ?_
   refine ⟨⟨i+1,rfl,by omega,zky hx08 hm8 (Nat.le_refl _) hx9,?_⟩,by omega⟩
   rw [htake,z19]
   simpa [ql0] using hm9
  ·obtain rfl:i=n.items.length:=by simp only at hge;omega
   rw [List.take_length] at hmW
   exact fin hmW hxW henc.symm
abbrev BV:=(Option Addr × Nat × Nat) × List UInt8
def za3 (H:Heap) (B:Nat) (x:Option Addr × Nat × Nat) (Ls:List (List UInt8)):Prop :=
 ∃ ys:List BV,Mine H B zh 1 x (ys.map fun y=>zcr y.1)∧ys.map (·.2)=Ls∧∀ y ∈ ys,Mine H B qy 1 y.1 (byteCells y.2)∧∀ b ∈ xw y.1,b ∉ xw x
theorem za3.nil {H:Heap} {B:Nat}:za3 H B (none,0,0) []:=⟨[],.inl ⟨rfl,rfl⟩,rfl,by simp⟩
theorem za3.len {H:Heap} {B:Nat} {x:Option Addr × Nat × Nat} {Ls:List (List UInt8)} (h:za3 H B x Ls):x.2.1=Ls.length:=by
 obtain ⟨ys,h1,h2,_⟩:=h
 have:=h1.len
 rw [← h2];simp at *;omega
theorem za3.ge {H:Heap} {B:Nat} {x:Option Addr × Nat × Nat} {Ls:List (List UInt8)} (h:za3 H B x Ls):∀ b ∈ xw x,B≤b:=by
 obtain ⟨ys,h1,_⟩:=h
 exact jc h1
theorem za9 {H:Heap} {B:Nat} {T:TypeId} {sz:Nat} {x:Option Addr × Nat × Nat} {vs:List Value} (h:Mine H B T sz x vs):∀ b ∈ xw x,b < H.size∧∃ c T fr,H[b]?=some (.cells c T fr):=by
 intro b hb
 rcases h with ⟨rfl,_⟩ | ⟨b',c',hx1,_,hg,_⟩
 ·simp [xw] at hb
 ·simp [xw,hx1] at hb
  subst hb
  exact ⟨lt_of_get hg,_,_,_,hg⟩
theorem zgz {H:Heap} {B:Nat} {T:TypeId} {sz:Nat} {x:Option Addr × Nat × Nat} {vs:List Value} (h:Mine H B T sz x vs):x.2.1≤x.2.2:=by
 rcases h with ⟨rfl,_⟩ | ⟨_,_,_,_,_,_,_,h,_⟩
 ·exact Nat.le_refl _
 ·exact h
theorem za3.lt {H:Heap} {B:Nat} {x:Option Addr × Nat × Nat} {Ls:List (List UInt8)} (h:za3 H B x Ls):∀ b ∈ xw x,b < H.size∧∃ c T fr,H[b]?=some (.cells c T fr):=by
 obtain ⟨ys,h1,_⟩:=h
 exact za9 h1
theorem za3.ext {H H':Heap} {B:Nat} {x:Option Addr × Nat × Nat} {Ls:List (List UInt8)} {M:List Nat} (h:za3 H B x Ls) (hx:Ext M H H') (hM:∀ b ∈ M,b < B):za3 H' B x Ls:=by
 obtain ⟨ys,h1,h2,h3⟩:=h
 refine ⟨ys,h1.ext hx fun b hb hm=>?_,h2,fun y hy=>⟨(h3 y hy).1.ext hx fun b hb hm=>?_,(h3 y hy).2⟩⟩
 ·have:=jc h1 b hb;have:=hM b hm;omega
 ·have:=jc (h3 y hy).1 b hb;have:=hM b hm;omega
theorem za3.beside {B B':Nat} {W W':World} {x:Option Addr × Nat × Nat} {Ls:List (List UInt8)} (h:za3 W.heap B x Ls) (hx:Beside B' W W'):za3 W'.heap B x Ls:=by
 obtain ⟨ys,h1,h2,h3⟩:=h
 exact ⟨ys,hx.mine h1,h2,fun y hy=>⟨hx.mine (h3 y hy).1,(h3 y hy).2⟩⟩
theorem za3.mono {H:Heap} {B B':Nat} {x:Option Addr × Nat × Nat} {Ls:List (List UInt8)} (h:za3 H B x Ls) (hB:B'≤B):za3 H B' x Ls:=by
 obtain ⟨ys,h1,h2,h3⟩:=h
 exact ⟨ys,h1.mono hB,h2,fun y hy=>⟨(h3 y hy).1.mono hB,(h3 y hy).2⟩⟩
theorem za3.rows {H:Heap} {B:Nat} {x:Option Addr × Nat × Nat} {Ls:List (List UInt8)} (h:za3 H B x Ls):Bl.Rows H x.1 x.2.1 Ls:=by
 have hl:=h.len
 obtain ⟨ys,h1,h2,h3⟩:=h
 refine ⟨hl,fun i hi=>?_⟩
 have hyl:ys.length=Ls.length:=by rw [← h2];simp
 have hiy:i < ys.length:=by omega
 rcases h1 with ⟨rfl,_⟩ | ⟨b,c,hx1,_,hg,hc,hle,hxle,he⟩
 ·simp at hl;omega
 have hy:=h3 ys[i] (List.getElem_mem hiy)
 have hL:Ls[i]=ys[i].2:=by simp [← h2]
 refine ⟨b,0,c,_,_,ys[i].1,hx1,hg,?_,by rw [hL];exact hy.1.cells,by rw [hL];have:=hy.1.len;simp at this;omega,?_⟩
 ·have h5:(c.extract 0 (ys.map fun y=>zcr y.1).length).toList[i]?=(ys.map fun y=>zcr y.1)[i]?:=by rw [he]
  rw [Array.getElem?_toList,Array.getElem?_extract] at h5
  simp at h5
  rw [if_pos (by omega),List.getElem?_eq_getElem hiy] at h5
  simpa using h5
 ·rcases hy.1 with ⟨h,_⟩ | ⟨_,_,_,_,_,_,_,h,_⟩
  ·rw [h];exact Nat.le_refl _
  ·exact h
theorem EBs:Elem P zh 1 24:=zn0 (z:=.slice none 0 0) (by kernel_rfl) rfl
theorem uSS:P.underlying jg=some (.slice zh):=by kernel_rfl
theorem zw8 {w:World} {H:Heap} {B:Nat} {x y:Option Addr × Nat × Nat} {Ls:List (List UInt8)} {L:List UInt8} (hw:w.heap=H) (hB:za3 H B x Ls) (hBs:B≤H.size) (hy:Mine H B qy 1 y (byteCells L)) (hyx:∀ b ∈ xw y,b ∉ xw x) (hlen:Ls.length≤1073741824) {K:(Option Addr × Nat × Nat)→World→Prop}
  (hK:∀ x' w',za3 w'.heap B x' (Ls++[L])→Ext (xw x) H w'.heap→(∀ c ∈ xw x',c ∈ xw x ∨ H.size≤c)→K x' w') :
  zal P (Instr.buildSlice jg 1 #[(0,(Value.slice y.1 y.2.1 y.2.2))]) .slc w fun (t15:(Option Addr × Nat × Nat)) w_4 =>
  zal P (Builtin.append_ #[jg,jg] jg #[(Value.slice x.1 x.2.1 x.2.2),(Value.slice t15.1 t15.2.1 t15.2.2)]) .slc w_4 K:=by
 have hl:=hB.len
 have hylt:=za9 hy
 obtain ⟨ys,h1,h2,h3⟩:=hB
 have hylen:ys.length=Ls.length:=by rw [← h2];simp
 refine zad (s:=.slc) (some ⟨w.heap.size,0,none⟩,1,1) _ (zd0 EBs uSS (v:=.slice y.1 y.2.1 y.2.2) rfl (by omega) (by omega)) ?_
 subst hw
 have hxp:Ext [] w.heap (w.heap.push (.cells (Value.slice y.1 y.2.1 y.2.2).cells zh)):=.push _
 refine zcq (n:=1) (us:=[zcr y]) (H:=w.heap.push (.cells (Value.slice y.1 y.2.1 y.2.2).cells zh)) EBs (by omega) uSS (za5 uSS) rfl (h1.ext hxp (by simp)) (by simp;omega)
  (Src.slc rfl (.inr ⟨w.heap.size,0,_,_,_,rfl,zn,by simp [Value.cells],by simp [Value.cells,zcr]⟩) rfl) (by intro v hv;simp at hv;subst hv;rfl) (by omega) ?_
 intro x' w4 hm4 hl4 hx4 hs4
 have hx04:Ext (xw x) w.heap w4.heap:=(hxp.mono (by simp)).trans hx4
 have hs0:w.heap.size≤w4.heap.size:=hx04.1
 have hs4':∀ c ∈ xw x',c ∈ xw x ∨ w.heap.size≤c:=fun c hc=>by
  rcases hs4 c hc with h | h
  ·exact .inl h
  ·right;have:=hxp.1;omega
 refine hK x' w4 ⟨ys++[(y,L)],by simpa using hm4,by simp [h2],fun z hz=>?_⟩ hx04 hs4'
 rcases List.mem_append.1 hz with hz | hz
 ·obtain ⟨g1,g2⟩:=h3 z hz
  refine ⟨g1.ext hx04 g2,fun b hb h=>?_⟩
  rcases hs4' b h with h | h
  ·exact g2 b hb h
  ·have:=(za9 g1 b hb).1;omega
 ·simp only [List.mem_singleton] at hz
  subst hz
  refine ⟨hy.ext hx04 hyx,fun b hb h=>?_⟩
  rcases hs4' b h with h | h
  ·exact hyx b hb h
  ·have:=(hylt b hb).1;omega
theorem stD {w:World} {H:Heap} {b o:Nat} {c:Array Value} {T:TypeId} {k:List UInt8} (hk:k.length=32) (hw:w.heap=H) (hb:H[b]?=some (.cells c T (0,0))) (hs:o+32≤c.size) {K:World→Prop}
  (hK:∀ w',w'.heap=H.setIfInBounds b (.cells (setCells c o (byteCells k)) T (0,0))→K w'):zby P (storeVar zf (⟨b,o,none⟩:Addr) (arr k)) w K:=by
 refine zbj (v:=arr k) (by rw [szD,Bl.za6,hk]) (by rw [Bl.za6];omega) (by simpa [Value.cells,arr] using vg) hw hb (by rw [Bl.za6];omega) fun w' hw'=>hK w' ?_
 rw [hw']
 simp [Value.cells,arr]
theorem z9j {w:World} {H:Heap} {b:Nat} {c:Array Value} {T:TypeId} {k:List UInt8} (hk:k.length=32) (hw:w.heap=H) (hb:H[b]?=some (.cells c T (0,0))) (hs:c.size=32) {K:World→Prop}
  (hK:∀ w',w'.heap=H.setIfInBounds b (.cells (byteCells k).toArray T (0,0))→K w'):zby P (storeVar zf (⟨b,0,none⟩:Addr) (arr k)) w K:=by
 refine stD hk hw hb (by omega) fun w' hw'=>hK w' ?_
 rw [hw',zan (by simp [hk,hs])]
theorem zaf {L:List UInt8}:(Sha.sum L).length=32:=Bl.zaf
set_option maxHeartbeats 4000000 in
theorem qh3 {w:World} {H:Heap} {B:Nat} {x xp xi:Option Addr × Nat × Nat} {Ls:List (List UInt8)} {n:Nod} (hw:w.heap=H) (hB:za3 H B x Ls) (hB0:0 < B) (hBs:B≤H.size) (hN:NodW H n xp xi) (hR:zc4 n=true) (hS:Bl.Rounds H) (hlen:Ls.length≤1073741824) (hel:(zjy n).length≤1099511627776) :
  qj P zle #[.slice x.1 x.2.1 x.2.2,.agg (zdu n xp xi).toArray] w fun e w'=>∃ x',e=.returned (.tuple #[zcr x',arr (Sha.sum (zjy n))])∧za3 w'.heap B x' (Ls++[zjy n])∧Ext (xw x) H w'.heap∧∀ c ∈ xw x',c ∈ xw x ∨ H.size≤c:=by
 refine z8k ?_
 unfold zrv
 refine jv hw fun w1 hw1=>?_
 have hx1:Ext [] H w1.heap:=by rw [hw1];exact .push _
 have hb1:w1.heap[H.size]?=some (.cells (zdu n xp xi).toArray zi (0,0)):=by rw [hw1];exact zn
 refine jv rfl fun w2 hw2=>?_
 have hx2:Ext [] w1.heap w2.heap:=by rw [hw2];exact .push _
 have hd2:w2.heap[w1.heap.size]?=some (.cells (zc P zf) zf (0,0)):=by rw [hw2];exact zn
 have hx02:=hx1.trans hx2
 refine je rfl (hx2.get hb1 (by simp)) rfl ?_
 refine zl (qgf rfl (hN.ext hx02) hR) ?_
 rintro e w3 ⟨y,rfl,hm3,hx3⟩
 refine ⟨(y,0),rfl,?_⟩
 have hx03:=hx02.trans hx3
 have hs02:=hx02.1
 have hxlt:=hB.lt
 refine zw8 rfl (hB.ext hx03 (by simp)) (by have:=hx03.1;omega) (hm3.mono (by omega)) (fun b hb h=>by have:=jc hm3 b hb;have:=(hxlt b h).1;omega) hlen fun x5 w5 hB5 hx5 hs5=>?_
 have hylt:=za9 hm3
 have hm5:=hm3.ext hx5 (fun b hb h=>by have:=jc hm3 b hb;have:=(hxlt b h).1;omega)
 have hx05:Ext (xw x) H w5.heap:=(hx03.mono (by simp)).trans hx5
 have h0x:0 ∉ xw x:=fun h=>by have:=hB.ge 0 h;omega
 have hyl:y.2.1=(zjy n).length:=by have:=hm3.len;simp at this;omega
 refine zl (Bl.qjt rfl hm5.cells hyl (zgz hm3) (hS.ext hx05 h0x) (by omega)) ?_
 rintro e w6 ⟨rfl,hx6⟩
 refine ⟨arr (Sha.sum (zjy n)),rfl,?_⟩
 have hs1:H.size < w1.heap.size:=lt_of_get hb1
 have hdn:w1.heap.size ∉ xw x:=fun h=>by have:=(hxlt _ h).1;omega
 have hd6:w6.heap[w1.heap.size]?=some (.cells (zc P zf) zf (0,0)):=hx6.get (hx5.get (hx3.get hd2 (by simp)) hdn) (by simp)
 refine z9j zaf rfl hd6 (by rw [zcD]) fun w7 hw7=>?_
 have hd7:w7.heap[w1.heap.size]?=some (.cells (byteCells (Sha.sum (zjy n))).toArray zf (0,0)):=by rw [hw7];exact qw hd6
 refine je rfl hd7 (by simp [zaf]) ?_
 have hx06:=hx05.trans (hx6.mono (by simp))
 have hdx5:w1.heap.size ∉ xw x5:=fun h=>by
  rcases hs5 _ h with h | h
  ·exact hdn h
  ·have:=hx3.1;have:=lt_of_get hd2;omega
 refine ⟨x5,rfl,?_,?_,fun c hc=>?_⟩
 ·have hB6:=hB5.ext hx6 (by simp)
  obtain ⟨ys,g1,g2,g3⟩:=hB6
  have hx67:Ext [w1.heap.size] w6.heap w7.heap:=by rw [hw7];exact Ext.set _ (by simp)
  refine ⟨ys,g1.ext hx67 (fun b hb h=>by simp at h;subst h;exact hdx5 hb),g2,fun z hz=>⟨(g3 z hz).1.ext hx67 fun b hb h=>?_,(g3 z hz).2⟩⟩
  simp at h;subst h
  obtain ⟨_,c',T',fr',hcell⟩:=za9 (g3 z hz).1 _ hb
  rcases (g3 z hz).1 with ⟨h,_⟩ | ⟨b',c2,hx1',_,hg,_⟩
  ·rw [h] at hb;simp [xw] at hb
  ·simp [xw,hx1'] at hb
   subst hb
   rw [hd6] at hg
   simp only [Option.some.injEq,Obj.cells.injEq] at hg
   exact absurd hg.2.1 (by decide)
 ·rw [hw7];exact hx06.set_own (.inl (by omega))
 ·rcases hs5 c hc with h | h
  ·exact .inl h
  ·right;have:=hx03.1;omega
theorem qof {w:World} {H:Heap} {D:List UInt8} (hw:w.heap=H) {K:(Option Addr × Nat × Nat)→World→Prop}
  (hK:∀ y w',Cells w'.heap y.1 (byteCells D)→y.2.1=D.length→y.2.1≤y.2.2→xw y=[H.size]→Ext [] H w'.heap→H.size < w'.heap.size→K y w'):zal P (convert qc zh (.string (strOf D))) .slc w K:=by
 subst hw
 have h:=run_bytes_of_string w qc zh qy (strOf D) z0e uS8 u8 (P:=P)
 have hge:=grownCap_ge w (strOf D).size 0 qy
 refine zad (s:=.slc) (some ⟨w.heap.size,0,none⟩,(strOf D).size,grownCap w (strOf D).size 0 qy) _ h ?_
 refine hK _ _ (.inr ⟨w.heap.size,0,_,_,_,rfl,zn,?_,?_⟩) (by simp) hge rfl (.push _) (by show w.heap.size < (w.heap.push _).size;simp)
 ·simp [bytesRow,strOf]
 ·rw [Nat.zero_add]
  simp [bytesRow,strOf,byteCells,List.take_of_length_le]
theorem z2q {w:World} {t e:TypeId} {sz:Nat} {a:Option Addr} {len cap l h m:Nat} {k:IntKind} (hu:P.underlying t=some (.slice e)) (hs:(P.info? e).map (·.size)=some sz) (h1:l≤h) (h2:h≤m) (h3:m≤cap) :
  (Instr.sliceAt t (.slice a len cap) (some (.int k (l:Int))) (some (.int k (h:Int))) (some (.int k (m:Int)))).run P w=.ok (.slice (if m=l then a else a.map (·.add (l * sz))) (h - l) (m - l)) w:=by
 have em:∀ code,(Instr.sliceBound (.int k (m:Int)) cap code).run P w=.ok m w:=by
  intro code
  simp [Instr.sliceBound,asIntOf,h3]
 have eh:∀ code,(Instr.sliceBound (.int k (h:Int)) m code).run P w=.ok h w:=by
  intro code
  simp [Instr.sliceBound,asIntOf,h2]
 have el:∀ code,(Instr.sliceBound (.int k (l:Int)) h code).run P w=.ok l w:=by
  intro code
  simp [Instr.sliceBound,asIntOf,h1]
 simp [Instr.sliceAt,Instr.slice,Instr.sliceBounds,qx hu,em,eh,el,zbm hs]
def npc (D:List UInt8):Nat:=(D.length+63) / 64
def zkw (D:List UInt8) (j:Nat):List UInt8:=(D.drop (64 * j)).take 64
def zzy (y:Option Addr × Nat × Nat) (D:List UInt8) (j:Nat):Option Addr × Nat × Nat:=(if 64 * j+min 64 (D.length - 64 * j)=64 * j then y.1 else y.1.map (·.add (64 * j * 1)),(64 * j+min 64 (D.length - 64 * j)) - 64 * j,(64 * j+min 64 (D.length - 64 * j)) - 64 * j)
theorem zqn {D:List UInt8} {j:Nat}:(zkw D j).length=min 64 (D.length - 64 * j):=by simp [zkw]
theorem zwj {D:List UInt8} {j:Nat}:j < npc D ↔ 64 * j < D.length:=by unfold npc;omega
theorem qca {H:Heap} {y:Option Addr × Nat × Nat} {D:List UInt8} {j:Nat} (h:Cells H y.1 (byteCells D)) (hj:j < npc D):Cells H (zzy y D j).1 (byteCells (zkw D j)):=by
 have hj':=zwj.1 hj
 have h1:=h.part (64 * j) (min 64 (D.length - 64 * j)) (by simp;omega)
 rw [zfy,zfw] at h1
 have h2:zkw D j=(D.drop (64 * j)).take (min 64 (D.length - 64 * j)):=by
  unfold zkw
  by_cases h64:64≤D.length - 64 * j
  ·rw [Nat.min_eq_left h64]
  ·rw [Nat.min_eq_right (by omega),List.take_of_length_le (by simp;omega),List.take_of_length_le (by simp)]
 rw [h2]
 unfold zzy
 simp only
 rw [if_neg (by omega),Nat.mul_one]
 exact h1
theorem qhi {w:World} {H:Heap} {b c:Nat} {y:Option Addr × Nat × Nat} {D:List UInt8} (hw:w.heap=H) (hb:H[b]?=some (.cells #[zcr y] zh (0,0))) (hc:H[c]?=some (.cells #[.int .i64 64] zdf (0,0))) (hy:y.2.1=D.length) (hcap:y.2.1≤y.2.2) (hD:D.length≤1099511627776) :
  qkn P (.func (.func zat) #[] #[.pointer (some ⟨b,0,none⟩),.pointer (some ⟨c,0,none⟩)]) (fun ys=>ys=List.range (npc D)) (fun pre j=>j=pre.length∧j < npc D) (fun j=>#[zcr (zzy y D j)]) [b,c] w:=by
 refine ⟨_,_,rfl,fun l I J w1 M hx1 hMM hst h0 hY=>?_⟩
 have hx1:=hw ▸ hx1
 have hb1:=hx1.get hb (by simp)
 have hc1:=hx1.get hc (by simp)
 have hbl:=lt_of_get hb1
 have hcl:=lt_of_get hc1
 refine zen ?_
 unfold zbs
 refine jd (fun s W=>∃ i:Nat,s=((64 * i:Nat):Int)∧i≤npc D∧I (List.range i) W∧w1.heap.size≤W.heap.size∧W.heap[b]?=some (.cells #[zcr y] zh (0,0))∧W.heap[c]?=some (.cells #[.int .i64 64] zdf (0,0))) (fun s _=>(64 * npc D+64 - s).toNat)
  ⟨0,rfl,Nat.zero_le _,h0,Nat.le_refl _,hb1,hc1⟩ ?_
 rintro _ W ⟨i,rfl,hi,hI,hsz,hbW,hcW⟩
 simp only [xq]
 refine jh (s:=.slc) (t:=y) rfl hbW rfl ?_
 refine zq (fun hil=>?_) (fun hil=>?_)
 ·have hil:i < npc D:=zwj.2 (by omega)
  have hil':=zwj.1 hil
  refine jw rfl fun w2 hw2=>?_
  have hx02:Ext [] W.heap w2.heap:=by rw [hw2];exact .refl _ _
  have hb2:=hx02.get hbW (by simp)
  have hc2:=hx02.get hcW (by simp)
  refine jh (s:=.int .i64) (t:=(64:Int)) rfl hc2 rfl ?_
  refine jh (s:=.slc) (t:=y) rfl hb2 rfl ?_
  refine qm (s:=.slc) (if y.2.2=64 * i then y.1 else y.1.map (·.add (64 * i * 1)),y.2.1 - 64 * i,y.2.2 - 64 * i) (zaq uS8 sz8 (.yes rfl) .no (by omega) hcap) ?_
  refine qm (s:=.int .i64) ((min 64 (D.length - 64 * i):Nat):Int) (by rw [run_min_int2];congr 2;simp only;split <;> omega) ?_
  refine jh (s:=.slc) (t:=y) rfl hb2 rfl ?_
  refine xu ((64 * i+min 64 (D.length - 64 * i):Nat):Int) (by omega) (by omega) (by omega) ?_
  refine xu ((64 * i+min 64 (D.length - 64 * i):Nat):Int) (by omega) (by omega) (by omega) ?_
  refine qm (s:=.slc) (zzy y D i) (z2q uS8 sz8 (by omega) (Nat.le_refl _) (by omega)) ?_
  refine zso ((hY (List.range i) i w2 ⟨by simp,hil⟩ (hst _ _ _ hI (.new hsz hx02))).mono ?_)
  have hs2:W.heap.size≤w2.heap.size:=hx02.1
  rintro e W2 ⟨hK,⟨rfl,hI2⟩ | ⟨rfl,hJ2⟩⟩
  ·refine ⟨true,rfl,?_⟩
   refine jl rfl ?_
   have hb3:=hK.get hb2 hbl (fun h=>(hMM _ h).2 (by simp))
   have hc3:=hK.get hc2 hcl (fun h=>(hMM _ h).2 (by simp))
   refine jh (s:=.int .i64) (t:=(64:Int)) rfl hc3 rfl ?_
   refine xu ((64 * (i+1):Nat):Int) (by omega) (by omega) (by omega) ?_
   refine ⟨⟨i+1,rfl,by omega,?_,?_,hb3,hc3⟩,by omega⟩
   ·rw [List.range_succ];exact hI2
   ·exact Nat.le_trans (Nat.le_trans hsz hs2) hK.1
  ·refine ⟨false,rfl,?_⟩
   exact zab rfl ⟨⟨_,rfl⟩,.inr hJ2⟩
 ·have hil:i=npc D:=by
   have:¬ i < npc D:=fun h=>by have:=zwj.1 h;omega
   omega
  refine ⟨⟨_,rfl⟩,.inl ⟨List.range (npc D),rfl,?_⟩⟩
  rw [← hil];exact hI
theorem qly {w:World} {H:Heap} {y:Option Addr × Nat × Nat} {D:List UInt8} (hw:w.heap=H) (hy:y.2.1=D.length) (hcap:y.2.1≤y.2.2) (hD:D.length≤1099511627776) :
  qj P zbf #[.slice y.1 y.2.1 y.2.2,.int .i64 64] w fun e w'=>∃ gv b c,e=.returned gv∧H.size≤b∧H.size≤c∧b < w'.heap.size∧c < w'.heap.size∧Ext [] H w'.heap ∧
   qkn P gv (fun ys=>ys=List.range (npc D)) (fun pre j=>j=pre.length∧j < npc D) (fun j=>#[zcr (zzy y D j)]) [b,c] w':=by
 refine ze4 ?_
 unfold zci
 refine jv hw fun w1 hw1=>?_
 have hx1:Ext [] H w1.heap:=by rw [hw1];exact .push _
 have hb1:w1.heap[H.size]?=some (.cells #[zcr y] zh (0,0)):=by rw [hw1];exact zn
 refine jv rfl fun w2 hw2=>?_
 have hx2:Ext [] w1.heap w2.heap:=by rw [hw2];exact .push _
 have hc2:w2.heap[w1.heap.size]?=some (.cells #[.int .i64 64] zdf (0,0)):=by rw [hw2];exact zn
 have hb2:=hx2.get hb1 (by simp)
 refine zac ?_
 refine jh (s:=.int .i64) (t:=(64:Int)) rfl hc2 rfl ?_
 refine jl rfl ?_
 refine qm (s:=.any) (.func (.func zat) #[] #[.pointer (some ⟨H.size,0,none⟩),.pointer (some ⟨w1.heap.size,0,none⟩)]) (by simp [Instr.makeFunc];rfl) ?_
 have hs1:=hx1.1
 exact ⟨_,H.size,w1.heap.size,rfl,Nat.le_refl _,hs1,lt_of_get hb2,lt_of_get hc2,hx1.trans hx2,qhi rfl hb2 hc2 hy hcap hD⟩
end Go.Proofs.YtbmegmbnlajbbaaGreatDoor
