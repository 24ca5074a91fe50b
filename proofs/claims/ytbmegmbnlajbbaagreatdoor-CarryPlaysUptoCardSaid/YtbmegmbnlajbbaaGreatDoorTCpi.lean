/- Part 9 of the texts below the card, joined. -/
import Derived.Test.YtbmegmbnlajbbaaGreatDoorTCph
import Derived.Test.YtbmegmbnlajbbaaGreatDoorRows
import Derived.Test.YtbmegmbnlajbbaaGreatDoorTCpg
namespace Go.Proofs.YtbmegmbnlajbbaaGreatDoor
open Go Go.Fw Go.Proofs Go.Sort
theorem Mets.same {v:List UInt8->Option (List UInt8)}{n:Nod}{M:List Pr}{s t t':LSt}(h:Mets v n M s t) (h':Mets v n M s t'):t=t':=by
 induction h with
 | nil=>cases h';rfl
 | kid hk hr _ ih=>
  cases h' with
  | kid _ hr' hm'=>
   obtain⟨_,rfl,_⟩:=hr.same hr'
   exact ih hm'
  | foul hne _=>exact absurd hk hne
 | foul hne _ ih=>
  cases h' with
  | kid hk _ _=>exact absurd hk hne
  | foul _ hm'=>exact ih hm'
theorem z6t {q:Int}{r rl r1 r2:Bl.SM}{st s1 s2:LSt}{L:List UInt8}{c1 c2:Int}(h:OfferRes q r st L c1 r1 s1) (h':OfferRes q rl st L c2 r2 s2) (hv:∀ k,Bl.zaa r k=Bl.zaa rl k) (ht:Bl.total r=Bl.total rl):c1=c2/\(∀ k,Bl.zaa r1 k=Bl.zaa r2 k)/\s1=s2:=by
 cases h with
 | foreign hn=>
  cases h' with
  | foreign _=>exact⟨rfl,hv,rfl⟩
  | form he _=>obtain⟨p,hp,e⟩:=he;exact absurd e (hn p hp)
  | full he _ _ _ _=>obtain⟨p,hp,e⟩:=he;exact absurd e (hn p hp)
  | ok he _ _ _ _=>obtain⟨p,hp,e⟩:=he;exact absurd e (hn p hp)
 | form he hb=>
  cases h' with
  | foreign hn=>obtain⟨p,hp,e⟩:=he;exact absurd e (hn p hp)
  | form _ _=>exact⟨rfl,hv,rfl⟩
  | full _ h1 h2 _ _=>exact (hb.elim (fun h=>h h1) (fun h=>h h2)).elim
  | ok _ h1 h2 _ _=>exact (hb.elim (fun h=>h h1) (fun h=>h h2)).elim
 | full he h1 h2 hP hne=>
  cases h' with
  | foreign hn=>obtain⟨p,hp,e⟩:=he;exact absurd e (hn p hp)
  | form _ hb=>exact (hb.elim (fun h=>h h1) (fun h=>h h2)).elim
  | full _ _ _ hP' _=>
   obtain⟨e,hv'⟩:=Bl.zhn hP hP' hv ht
   exact⟨e,hv',rfl⟩
  | ok _ _ _ hP' _=>exact absurd (Bl.zhn hP hP' hv ht).1 hne
 | ok he h1 h2 hP hm=>
  cases h' with
  | foreign hn=>obtain⟨p,hp,e⟩:=he;exact absurd e (hn p hp)
  | form _ hb=>exact (hb.elim (fun h=>h h1) (fun h=>h h2)).elim
  | full _ _ _ hP' hne=>exact absurd (Bl.zhn hP hP' hv ht).1.symm hne
  | ok _ _ _ hP' hm'=>
   obtain⟨_,hv'⟩:=Bl.zhn hP hP' hv ht
   rw [show Bl.zaa r1=Bl.zaa r2 from funext hv'] at hm
   exact⟨rfl,hv',hm.same hm'⟩
theorem z2m (x y:Operand) (a b:Bool) (w:World):(eqM .eql zlu x y (.bool a) (.bool b)).run P w=.ok (.bool (a==b)) w:=by
 have h:(Op.equal zlu (.bool a) (.bool b)).run P w=.ok (a==b) w:=run_equalIn_bool' w 9999 zlu a b (by kernel_rfl)
 simp [eqM,eqGuard,binOp,h]
theorem zz2 {most:Int}:∀ {ps:List Pr}{out:List (List UInt8)},(zjf most ps out).length<=out.length+ps.length
 | [],out=>by simp [zjf]
 | p :: ps,out=>by
  rw [zjf]
  split
  ·omega
  ·have:=zz2 (most:=most) (ps:=ps) (out:=if p.1∈out then out else out++[p.1])
   have h2:(if p.1∈out then out else out++[p.1]).length<=out.length+1:=by split <;> simp
   simp only [List.length_cons];omega
theorem qe6 {w:World}{H:Heap}{cf:List Nat}{c pS:Nat}{st:LSt}(hw:w.heap=H) (hC:zh7 H cf c pS st):qc P zdc #[.pointer (some ⟨c,0,none⟩)] w fun e w'=>e=.returned (.bool st.foul)/\w'=w:=by
 obtain⟨m,clk,l,x,g1,_⟩:=hC
 refine zmi ?_
 unfold zid
 refine zah rfl ?_
 simp only [zy,jo,Nat.zero_add]
 exact je (s:=.bool) (t:=st.foul) hw g1 rfl ⟨rfl,trivial⟩
set_option maxHeartbeats 4000000 in
theorem z9m {w:World}{H:Heap}{cf rcf:List Nat}{c pS rc pR:Nat}{st:LSt}{most:Int}(hw:w.heap=H) (hC:zh7 H cf c pS st) (hD:zhd H rcf rc pR st) (hwl:st.want.length<=1000000000) :
  qc P zk6 #[.pointer (some ⟨c,0,none⟩),.pointer (some ⟨rc,0,none⟩),.int .i64 most] w fun e w'=>e=.returned (.bool true)/\Ext [] H w'.heap:=by
 refine z0z ?_
 unfold zt8
 simp only [zy,jo,Nat.zero_add]
 refine jl hw fun w1 hw1=>?_
 have hx1:Ext [] H w1.heap:=by rw [hw1];exact .refl _ _
 have hlen:∀ m,(zjf m st.want []).length<=1099511627776:=fun m=>by have:=zz2 (most:=m) (ps:=st.want) (out:=[]);simp only [List.length_nil] at this;omega
 have l27:∀ {G:Heap}{B:Nat}{x:Option Addr×Nat×Nat}{M:List (List UInt8)},Mine G B zf 32 x (M.flatMap Bl.zbp)->x.2.1=M.length:=fun hm=>by have:=hm.len;rw [zu Bl.zbp Bl.zaf] at this;omega
 refine zk (z2y (most:=most) rfl (hC.ext hx1 (by simp)) hwl) ?_
 rintro e w2 ⟨x9,rfl,hm9,h9,hx2⟩
 refine⟨x9,rfl,?_⟩
 have hx02:=hx1.trans hx2
 refine zk (zy9 (most:=most) rfl (hD.ext hx02 (by simp)) hwl) ?_
 rintro e w3 ⟨x12,rfl,hm12,_,hx3⟩
 refine⟨x12,rfl,?_⟩
 have hx03:=hx02.trans hx3
 refine zk (z1t (c:=x9.2.2) (d:=x12.2.2) rfl (hm9.ext hx3 (by simp)).cells (l27 hm9) hm12.cells (l27 hm12) h9 h9 (hlen _)) ?_
 rintro e w4 ⟨rfl,hw4⟩
 refine⟨_,rfl,zah (by simp) ?_⟩
 have hx04:Ext [] H w4.heap:=by rw [hw4];exact hx03
 refine zk (z2y (most:=1000) rfl (hC.ext hx04 (by simp)) hwl) ?_
 rintro e w5 ⟨x16,rfl,hm16,h16,hx5⟩
 refine⟨x16,rfl,?_⟩
 have hx05:=hx04.trans hx5
 refine zk (zy9 (most:=1000) rfl (hD.ext hx05 (by simp)) hwl) ?_
 rintro e w6 ⟨x18,rfl,hm18,_,hx6⟩
 refine⟨x18,rfl,?_⟩
 have hx06:=hx05.trans hx6
 refine zk (z1t (c:=x16.2.2) (d:=x18.2.2) rfl (hm16.ext hx6 (by simp)).cells (l27 hm16) hm18.cells (l27 hm18) h16 h16 (hlen _)) ?_
 rintro e w7 ⟨rfl,hw7⟩
 refine⟨_,rfl,zah (by simp) ?_⟩
 have hx07:Ext [] H w7.heap:=by rw [hw7];exact hx06
 have hC7:=hC.ext hx07 (by simp)
 obtain⟨xs,xw,g1,_,g3,_⟩:=hD.ext hx07 (by simp)
 have hxl:xw.2.1=st.want.length:=by have:=g3.len;rw [ztg] at this;omega
 refine je (s:=.slc) (t:=xw) rfl g1 rfl ?_
 refine zk (z3u rfl hC7) ?_
 rintro e w8 ⟨rfl,rfl⟩
 refine⟨decide (st.want=[]/\st.foul=false),rfl,?_⟩
 refine⟨je (s:=.slc) (o:=2) (t:=xw) (K:=fun z=>Value.slice z.1 z.2.1 z.2.2=Value.slice xw.1 xw.2.1 xw.2.2) rfl g1 rfl rfl,?_⟩
 have tail:∀ {b:Bool},b=true->xq b (
   ld .bool (⟨rc,3,none⟩:Addr) w8 fun (t45:Bool)=>
   qw P zdc #[(Value.pointer (some ⟨c,0,none⟩))] [.bool] false w8 fun (t41:Bool) w_9=>
   ((ld .bool (⟨rc,3,none⟩:Addr) w_9 fun (t45_1:Bool)=>(Value.bool t45_1)=(Value.bool t45)) /\
   za7 P (eqM .eql zlu (.tmp 41) (.tmp 45) (Value.bool t41) (Value.bool t45)) .bool w_9 fun (t46:Bool)=>
   Ending.returned (Value.bool t46)=.returned (.bool true)/\Ext [] H w_9.heap)) (True/\Ending.returned (Value.bool false)=.returned (.bool true)/\Ext [] H w8.heap):=by
  rintro _ rfl
  refine zah rfl ?_
  refine je (s:=.bool) (t:=st.foul) rfl g1 rfl ?_
  refine zk (qe6 rfl hC7) ?_
  rintro e w9 ⟨rfl,rfl⟩
  refine⟨st.foul,rfl,?_⟩
  refine⟨je (s:=.bool) (o:=3) (t:=st.foul) (K:=fun z=>Value.bool z=Value.bool st.foul) rfl g1 rfl rfl,?_⟩
  refine qp (s:=.bool) _ (z2m _ _ _ _ _) ?_
  exact⟨by simp,hx07⟩
 refine zax (fun h0=>?_) (fun h0=>?_)
 ·have h0:(xw.2.1:Int)=0:=h0
  have hnil:st.want=[]:=List.eq_nil_of_length_eq_zero (by omega)
  refine je (s:=.bool) (t:=st.foul) rfl g1 rfl ?_
  refine qp (s:=.bool) _ (z2m _ _ _ _ _) ?_
  refine tail ?_
  rw [hnil];cases st.foul <;> simp
 ·have h0:(xw.2.1:Int)≠0:=h0
  have hnil:st.want≠[]:=fun h=>by rw [h] at hxl;simp at hxl;omega
  refine qp (s:=.bool) _ (z2m _ _ _ _ _) ?_
  refine tail ?_
  simp [hnil]
structure TwoS (H:Heap) (B:Nat) (q:Int) (p:Nat) (fp:List Nat) (r:Bl.SM) (k p':Nat) (fp':List Nat) (rl:Bl.SM) (N:Nat):Prop where
 st:Bl.Store H fp p q r k
 rs:Bl.zc4 H fp' p' q rl
 same:∀ k,Bl.zaa r k=Bl.zaa rl k
 rlen:r.length<=N
 tot:Bl.total r<=4096 * N
 lo:∀ b∈fp,B<=b/\b < H.size
 lo':∀ b∈fp',B<=b/\b < H.size
 ap:∀ b∈fp,b∉fp'
theorem TwoS.view {H:Heap}{B:Nat}{q:Int}{p:Nat}{fp:List Nat}{r:Bl.SM}{k p':Nat}{fp':List Nat}{rl:Bl.SM}{N:Nat}(h:TwoS H B q p fp r k p' fp' rl N):Bl.total r=Bl.total rl/\r.length=rl.length:=
 Bl.zqj (zfo h.st).keys (zok h.rs) h.same
theorem TwoS.mono {H:Heap}{B:Nat}{q:Int}{p:Nat}{fp:List Nat}{r:Bl.SM}{k p':Nat}{fp':List Nat}{rl:Bl.SM}{N N':Nat}(h:TwoS H B q p fp r k p' fp' rl N) (hN:N<=N'):TwoS H B q p fp r k p' fp' rl N':=
 { h with rlen:=Nat.le_trans h.rlen hN,tot:=Nat.le_trans h.tot (Nat.mul_le_mul_left _ hN) }
theorem TwoS.ext {H H':Heap}{B:Nat}{q:Int}{p:Nat}{fp M:List Nat}{r:Bl.SM}{k p':Nat}{fp':List Nat}{rl:Bl.SM}{N:Nat}(h:TwoS H B q p fp r k p' fp' rl N) (hx:Ext M H H') (h1:∀ b∈fp,b∉M) (h2:∀ b∈fp',b∉M):TwoS H' B q p fp r k p' fp' rl N:=
 { h with st:=h.st.ext hx h1,rs:=h.rs.ext hx h2,lo:=fun b hb=>⟨(h.lo b hb).1,by have:=(h.lo b hb).2;have:=hx.1;omega⟩,lo':=fun b hb=>⟨(h.lo' b hb).1,by have:=(h.lo' b hb).2;have:=hx.1;omega⟩ }
theorem TwoS.small {H:Heap}{B:Nat}{q:Int}{p:Nat}{fp:List Nat}{r:Bl.SM}{k p':Nat}{fp':List Nat}{rl:Bl.SM}{N:Nat}(h:TwoS H B q p fp r k p' fp' rl N):∀ k L,Bl.zaa r k=some L->L.length<=4096 * N:=fun k L hv=>Nat.le_trans (zx7 (zfo h.st) hv) h.tot
set_option maxHeartbeats 4000000 in
theorem qbs {w:World}{B:Nat}{q:Int}{p:Nat}{fp:List Nat}{r:Bl.SM}{k p':Nat}{fp':List Nat}{rl:Bl.SM}{N:Nat}{x:Option Addr×Nat×Nat}{L:List UInt8}(hT:TwoS w.heap B q p fp r k p' fp' rl N) (hR:Bl.Rounds w.heap) (hB:0 < B) (hN:N<=1000) (hq:0<=q) (hq2:q<=9223372036854775807)
  (hL:Cells w.heap x.1 (byteCells L)) (hl:x.2.1=L.length) (hc:x.2.1<=x.2.2) (hxo:L≠[]->∀ y,x.1=some y->y.block∉fp/\y.block∉fp') (hLb:L.length<=1099511627776){K:World->Prop}
  (hK:∀ w' fp2 r2 k2 fp2' rl2,TwoS w'.heap B q p fp2 r2 k2 p' fp2' rl2 (N+1)->Ext (fp++fp') w.heap w'.heap->K w') :
  qw P zdr #[(Value.pointer (some ⟨p,0,none⟩)),(Value.slice x.1 x.2.1 x.2.2)] [.any,.int .i64] true w fun (_:(Value×Int)) w_13=>
  qw P zd8 #[(Value.pointer (some ⟨p',0,none⟩)),(Value.slice x.1 x.2.1 x.2.2)] [.any,.int .i64] true w_13 fun (_:(Value×Int)) w_14=>K w_14:=by
 have htot:=hT.tot
 have hrlen:=hT.rlen
 have hview:=hT.view
 have hsm:=hT.small
 refine zk (Bl.qga (L:=L) rfl hT.st (fun b hb=>(hT.lo b hb).2) hR (fun h=>by have:=(hT.lo 0 h).1;omega) hL hl hc (fun hne y hy=>(hxo hne y hy).1) (by omega) hq hq2 (fun k M hM=>by have:=hsm k M hM;omega)) ?_
 rintro e w1 ⟨code,r2,k2,fp2,rfl,hS1,hx1,hfp1,hsub1,hput,htot1⟩
 refine⟨(arr (if code=0 then Sha.sum L else Bl.nought),code),rfl,?_⟩
 have hT1:=hT.rs.ext hx1 (fun b hb h=>hT.ap b h hb)
 have s1:=hx1.1
 have hL1:Cells w1.heap x.1 (byteCells L):=hL.ext hx1 (fun y hy hne=>(hxo (by rintro rfl;exact hne rfl) y hy).1)
 have hbig:∀ y∈rl,y.2.1.2.length < 1099511627776:=fun y hy=>by
  have:y.2.1.2.length<=Bl.total rl:=zrx (List.mem_map.2 ⟨y,hy,rfl⟩)
  omega
 refine zk (Bl.qat (L:=L) rfl hT1 (fun b hb=>by have:=(hT.lo' b hb).2;omega) hL1 hl hc (fun hne y hy=>(hxo hne y hy).2) (by omega) (by omega) hq hq2 hbig (by omega)) ?_
 rintro e w2 ⟨code',rl2,fp2',rfl,hT2,hx2,hsub2,hput',_,_,_⟩
 refine⟨(arr (if code'=0 then Sha.sum L else Bl.nought),code'),rfl,?_⟩
 have s2:=hx2.1
 have hBw:B<=w.heap.size:=by have:=hT.lo' p' (by obtain⟨_,_,_,h,_⟩:=hT.rs;exact h);omega
 have hap:∀ b∈fp2,b∉fp2':=by
  intro b hb hb'
  rcases hsub1 b hb with h | h
  ·rcases hsub2 b hb' with h' | h'
   ·exact hT.ap b h h'
   ·have:=(hT.lo b h).2;omega
  ·rcases hsub2 b hb' with h' | h'
   ·have:=(hT.lo' b h').2;omega
   ·have:=hfp1 b hb;omega
 refine hK w2 fp2 r2 k2 fp2' rl2 ⟨hS1.ext hx2 (fun b hb h=>?_),hT2,(Bl.zhn hput hput' hT.same hview.1).2,by have:=z2k (zfo hT.st) (zfo hS1) hput;omega,by omega,fun b hb=>?_,fun b hb=>?_,hap⟩ ((hx1.mono (by simp +contextual)).trans (hx2.mono (by simp +contextual)))
 ·rcases hsub1 b hb with h1 | h1
  ·exact hT.ap b h1 h
  ·have:=(hT.lo' b h).2;omega
 ·have:=hfp1 b hb
  rcases hsub1 b hb with h1 | h1
  ·have:=hT.lo b h1;omega
  ·omega
 ·rcases hsub2 b hb with h1 | h1
  ·have:=hT.lo' b h1;omega
  ·omega
def z2d (H:Heap) (F:List Nat) (B:Nat) (q:Int) (p p' N c rc:Nat) (st:LSt):Prop:=∃ fp r k fp' rl cf rcf,TwoS H B q p fp r k p' fp' rl N/\zh7 H cf c p st/\zhd H rcf rc p' st/\Wf st/\(∀ b,b∈F ↔ b∈fp\/b∈fp'\/b∈cf\/b∈rcf)/\(∀ b∈F,B<=b/\b < H.size)/\(∀ b∈fp,b∉cf/\b∉rcf)/\(∀ b∈fp',b∉cf/\b∉rcf)/\∀ b∈cf,b∉rcf
theorem z2d.mono {H:Heap}{F:List Nat}{B:Nat}{q:Int}{p p' N N' c rc:Nat}{st:LSt}(h:z2d H F B q p p' N c rc st) (hN:N<=N'):z2d H F B q p p' N' c rc st:=by
 obtain⟨fp,r,k,fp',rl,cf,rcf,h1,h2⟩:=h
 exact⟨fp,r,k,fp',rl,cf,rcf,h1.mono hN,h2⟩
theorem z2d.ext {H H':Heap}{F:List Nat}{B:Nat}{q:Int}{p p' N c rc:Nat}{st:LSt}(h:z2d H F B q p p' N c rc st) (hx:Ext [] H H'):z2d H' F B q p p' N c rc st:=by
 obtain⟨fp,r,k,fp',rl,cf,rcf,h1,h2,h3,h4,h5,h6,h7⟩:=h
 exact⟨fp,r,k,fp',rl,cf,rcf,h1.ext hx (by simp) (by simp),h2.ext hx (by simp),h3.ext hx (by simp),h4,h5,fun b hb=>⟨(h6 b hb).1,by have:=(h6 b hb).2;have:=hx.1;omega⟩,h7⟩
set_option maxHeartbeats 8000000 in
theorem z7v {w:World}{F:List Nat}{B:Nat}{q:Int}{p p' N c rc:Nat}{st:LSt}{x1 x2:Option Addr×Nat×Nat}{L:List UInt8}(hC:z2d w.heap F B q p p' N c rc st) (hR:Bl.Rounds w.heap) (hB:0 < B) (hN:N<=100) (hq:0<=q) (hq2:q<=9223372036854775807)
  (h1:Cells w.heap x1.1 (byteCells L)) (hl1:x1.2.1=L.length) (hc1:x1.2.1<=x1.2.2) (ho1:L≠[]->∀ y,x1.1=some y->y.block∉F) (h2:Cells w.heap x2.1 (byteCells L)) (hl2:x2.2.1=L.length) (hc2:x2.2.1<=x2.2.2) (ho2:L≠[]->∀ y,x2.1=some y->y.block∉F) (hLb:L.length<=1099511627776)
  (hwl:st.want.length<=900000000) (hsl:st.seen.length<=900000000){K:Int->Int->World->Prop}
  (hK:∀ code w' F' st',z2d w'.heap F' B q p p' (N+1) c rc st'->Ext F w.heap w'.heap->st'.want.length<=st.want.length+8000000->st'.seen.length<=st.seen.length+8000000->K code code w') :
  qw P zb5 #[(Value.pointer (some ⟨c,0,none⟩)),(Value.slice x1.1 x1.2.1 x1.2.2)] [.int .i64] false w fun (t200:Int) w_31=>
  qw P zel #[(Value.pointer (some ⟨rc,0,none⟩)),(Value.slice x2.1 x2.2.1 x2.2.2)] [.int .i64] false w_31 fun (t203:Int) w_32=>K t200 t203 w_32:=by
 obtain⟨fp,r,k,fp',rl,cf,rcf,hT,hA,hD,hWf,hF,hlo,d1,d2,d3⟩:=hC
 have htot:=hT.tot
 have hrlen:=hT.rlen
 have hview:=hT.view
 have iF:∀ b∈fp,b∈F:=fun b hb=>(hF b).2 (.inl hb)
 have iF':∀ b∈fp',b∈F:=fun b hb=>(hF b).2 (.inr (.inl hb))
 have iC:∀ b∈cf,b∈F:=fun b hb=>(hF b).2 (.inr (.inr (.inl hb)))
 have iD:∀ b∈rcf,b∈F:=fun b hb=>(hF b).2 (.inr (.inr (.inr hb)))
 have z:∀ {l:List Nat},(∀ b∈l,b∈F)->0∉l:=fun h h0=>by have:=(hlo 0 (h 0 h0)).1;omega
 refine zk (z3h (L:=L) rfl hA hWf (fun b hb=>(hlo b (iC b hb)).2) hT.st (fun b hb=>⟨(hT.lo b hb).2,(d1 b hb).1⟩) hR (z iC) (z iF) h1 hl1 hc1 (fun hne y hy h=>ho1 hne y hy (iF _ h)) hLb (by omega) hq hq2 (by omega)) ?_
 rintro e w1 ⟨code,r1,st1,k1,fp1,cf1,rfl,hO1,hA1,hWf1,hwl1,hS1,hx1,hcf1,hfp1,ht1,hr1⟩
 refine⟨code,rfl,?_⟩
 have s1:=hx1.1
 have n1:∀ b∈fp',b∉fp++cf:=fun b hb h=>by
  rcases List.mem_append.1 h with h | h
  ·exact hT.ap b h hb
  ·exact (d2 b hb).1 h
 have n2:∀ b∈rcf,b∉fp++cf:=fun b hb h=>by
  rcases List.mem_append.1 h with h | h
  ·exact (d1 b h).2 hb
  ·exact d3 b h hb
 have x1F:∀ b∈fp++cf,b∈F:=fun b h=>by
  rcases List.mem_append.1 h with h | h
  ·exact iF b h
  ·exact iC b h
 have x2F:∀ b∈fp'++rcf,b∈F:=fun b h=>by
  rcases List.mem_append.1 h with h | h
  ·exact iF' b h
  ·exact iD b h
 refine zk (qbr (L:=L) rfl (hD.ext hx1 n2) hWf (fun b hb=>by have:=(hlo b (iD b hb)).2;omega) (hT.rs.ext hx1 n1) (fun b hb=>⟨by have:=(hT.lo' b hb).2;omega,(d2 b hb).2⟩) (h2.ext hx1 (fun y hy hne h=>ho2 (by rintro rfl;exact hne rfl) y hy (x1F _ h))) hl2 hc2 (fun hne y hy h=>ho2 hne y hy (iF' _ h)) hLb (by omega) (by omega) hq hq2 (by omega) (by omega)) ?_
 rintro e w2 ⟨code2,r2,st2,fp2,rcf2,rfl,hO2,hD2,hsl2,hS2,hx2,hrcf2,hfp2⟩
 refine⟨code2,rfl,?_⟩
 have s2:=hx2.1
 obtain⟨rfl,hv2,rfl⟩:=z6t hO1 hO2 hT.same hview.1
 have a1:∀ b∈fp1,b < w1.heap.size/\B<=b/\b∉cf1/\b∉fp'++rcf:=fun b hb=>by
  obtain⟨q1,q2,q3⟩:=hfp1 b hb
  refine⟨q1,?_,q2,fun h=>?_⟩
  ·rcases q3 with h | h
   ·exact (hT.lo b h).1
   ·have:=hlo p' (iF' p' (by obtain⟨_,_,_,h,_⟩:=hT.rs;exact h));omega
  ·rcases q3 with h3 | h3
   ·rcases List.mem_append.1 h with h | h
    ·exact hT.ap b h3 h
    ·exact (d1 b h3).2 h
   ·have:=(hlo b (x2F b h)).2;omega
 have a2:∀ b∈cf1,b < w1.heap.size/\B<=b/\b∉fp'++rcf:=fun b hb=>by
  obtain⟨q1,q3⟩:=hcf1 b hb
  refine⟨q1,?_,fun h=>?_⟩
  ·rcases q3 with h | h
   ·exact (hlo b (iC b h)).1
   ·have:=hlo p' (iF' p' (by obtain⟨_,_,_,h,_⟩:=hT.rs;exact h));omega
  ·rcases q3 with h3 | h3
   ·rcases List.mem_append.1 h with h | h
    ·exact (d2 b h).1 h3
    ·exact d3 b h3 h
   ·have:=(hlo b (x2F b h)).2;omega
 have new2:∀ {b:Nat}{l l':List Nat},(b∈l\/w1.heap.size<=b)->(∀ b∈l,b∈l')->b < w1.heap.size->b∈l':=fun h hi hlt=>by
  rcases h with h | h
  ·exact hi _ h
  ·omega
 have hBw:B<=w1.heap.size:=by have:=hlo p' (iF' p' (by obtain⟨_,_,_,h,_⟩:=hT.rs;exact h));omega
 have e1:∀ b∈fp1,b∉fp2:=fun b hb h=>(a1 b hb).2.2.2 (new2 (hfp2 b h).2.2 (by simp +contextual) (a1 b hb).1)
 have e2:∀ b∈fp1,b∉rcf2:=fun b hb h=>(a1 b hb).2.2.2 (new2 (hrcf2 b h).2 (by simp +contextual) (a1 b hb).1)
 have e3:∀ b∈cf1,b∉fp2:=fun b hb h=>(a2 b hb).2.2 (new2 (hfp2 b h).2.2 (by simp +contextual) (a2 b hb).1)
 have e4:∀ b∈cf1,b∉rcf2:=fun b hb h=>(a2 b hb).2.2 (new2 (hrcf2 b h).2 (by simp +contextual) (a2 b hb).1)
 have lo2:∀ b∈fp2,B<=b/\b < w2.heap.size:=fun b hb=>⟨by
  rcases (hfp2 b hb).2.2 with h | h
  ·exact (hT.lo' b h).1
  ·omega,(hfp2 b hb).1⟩
 have lo3:∀ b∈rcf2,B<=b/\b < w2.heap.size:=fun b hb=>⟨by
  rcases (hrcf2 b hb).2 with h | h
  ·exact (hlo b (iD b h)).1
  ·omega,(hrcf2 b hb).1⟩
 have k1':70001 * (r.length+1)<=70001 * 101:=Nat.mul_le_mul_left _ (by omega)
 have k2':70001 * (rl.length+1)<=70001 * 101:=Nat.mul_le_mul_left _ (by omega)
 have g1:st1.want.length<=st.want.length+8000000:=Nat.le_trans hwl1 (by rw [Nat.add_assoc];exact Nat.add_le_add_left (Nat.le_trans (Nat.add_le_add_left k1' 70000) (by decide)) _)
 have g2:st1.seen.length<=st.seen.length+8000000:=Nat.le_trans hsl2 (by rw [Nat.add_assoc];exact Nat.add_le_add_left (Nat.le_trans (Nat.add_le_add_left k2' 70000) (by decide)) _)
 refine hK code w2 (fp1++(fp2++(cf1++rcf2))) st1 ⟨fp1,r1,k1,fp2,r2,cf1,rcf2,⟨hS1.ext hx2 (fun b hb=>(a1 b hb).2.2.2),hS2,hv2,by omega,by omega,fun b hb=>⟨(a1 b hb).2.1,by have:=(a1 b hb).1;omega⟩,lo2,e1⟩,hA1.ext hx2 (fun b hb=>(a2 b hb).2.2),hD2,hWf1,by simp,fun b hb=>?_,fun b hb=>⟨(a1 b hb).2.2.1,e2 b hb⟩,fun b hb=>⟨fun h=>e3 b h hb,(hfp2 b hb).2.1⟩,e4⟩ ((hx1.mono x1F).trans (hx2.mono x2F)) g1 g2
 simp only [List.mem_append] at hb
 rcases hb with h | h | h | h
 ·have:=a1 b h;omega
 ·exact lo2 b h
 ·have:=a2 b h;omega
 ·exact lo3 b h
theorem qj8 (w:World):(Instr.build zf #[]).run P w=.ok (arr Bl.nought) w:=by kernel_rfl
def zw0 (H:Heap) (a:Option Addr) (n:Nat):Prop:=∀ i,i < n->∃ (b o:Nat) (c:Array Value) (T:TypeId) (fr:Nat×Nat) (kd at_:Int) (x:Option Addr×Nat×Nat) (D:List UInt8),a=some ⟨b,o,none⟩/\H[b]?=some (.cells c T fr)/\o+i * 3+3<=c.size/\c.extract (o+i * 3) (o+i * 3+3)=#[.int .i64 kd,.int .i64 at_,zbv x]/\Cells H x.1 (byteCells D)/\x.2.1=D.length/\x.2.1<=x.2.2
theorem zw0.ext {H H':Heap}{a:Option Addr}{n:Nat}(h:zw0 H a n) (hx:Ext [] H H'):zw0 H' a n:=by
 intro i hi
 obtain⟨b,o,c,T,fr,kd,at_,x,D,h1,h2,h3,h4,h5,h6,h7⟩:=h i hi
 exact⟨b,o,c,T,fr,kd,at_,x,D,h1,hx.get h2 (by simp),h3,h4,h5.ext hx (by simp),h6,h7⟩
theorem qck {w:World}{H G:Heap}{a:Option Addr}{n i:Nat}{m:Int}(hw:w.heap=H) (h:zw0 G a n) (hx:Ext [] G H) (hi:i < n) (hm:m=(i:Int)){K:Array Value->Prop}(hK:∀ kd at_ x D,Cells G x.1 (byteCells D)->x.2.1=D.length->x.2.1<=x.2.2->K #[.int .i64 kd,.int .i64 at_,zbv x]):ixS a n 3 m fun p=>ldA P 3 p w K:=by
 obtain⟨b,o,c,T,fr,kd,at_,x,D,rfl,hb,hsz,he,h5,h6,h7⟩:=h i hi
 refine z18 i hm hi ?_
 refine zf9 hw (hx.get hb (by simp)) hsz ?_
 rw [he]
 exact hK kd at_ x D h5 h6 h7
theorem qky {w:World}{H:Heap}{k a:Int}{x:Option Addr×Nat×Nat}(hw:w.heap=H){K:Nat->World->Prop}(hK:∀ w',w'.heap=H.push (.cells #[.int .i64 k,.int .i64 a,zbv x] zc5 (0,0))->K H.size w') :
  zbk (zc P zc5) zc5 w fun b w1=>zbz P (storeVar zc5 (⟨b,0,none⟩:Addr) (.agg #[.int .i64 k,.int .i64 a,zbv x])) w1 fun w2=>K b w2:=
 zui (v:=.agg #[.int .i64 k,.int .i64 a,zbv x]) (by rw [show P.cellsOf zc5=3 by kernel_rfl];rfl) (by rw [show (zc P zc5).size=3 by kernel_rfl];rfl) (by show (3:Nat)≠0;decide) (by
  intro v hv
  simp only [Value.cells,List.mem_cons,List.not_mem_nil,or_false] at hv
  rcases hv with rfl | rfl | rfl <;> rfl) hw hK
theorem ztj {G H:Heap}{B p':Nat}{fp':List Nat}{q:Int}{rl:Bl.SM}(hS:Bl.zc4 G fp' p' q rl) (hx:Ext [] G H) (hB:∀ b∈fp',b < B):∃ x:Option Addr×Nat×Nat,x.2.1=rl.length/\(∀ {w:World}{K:Option Addr×Nat×Nat->Prop},w.heap=H->K x->ld .slc (⟨p',1,none⟩:Addr) w K) /\
  ∀ {w:World}{j:Nat}{n:Int}{K:Option Addr×Nat×Nat->Prop},w.heap=H->j < rl.length->n=(j:Int)->(∀ y D,Cells H y.1 (byteCells D)->y.2.1=D.length->y.2.1<=y.2.2->(D≠[]->∀ z,y.1=some z->z.block < B)->(∃ z∈rl,z.2.1.2=D)->K y)->ixS x.1 x.2.1 33 n fun t=>ld .slc (Addr.add t 32) w K:=by
 obtain⟨x,h1,h2,h3,h4,h5,h6,h7⟩:=hS
 refine⟨x,Bl.zfq h2,fun hw hK=>je (s:=.slc) hw (hx.get h1 (by simp)) rfl hK,fun {w j n K} hw hj hn hK=>?_⟩
 have hg:=List.getElem?_eq_getElem hj
 have hm:=List.getElem_mem hj
 generalize rl[j]=z at hg hm
 obtain⟨m1,m2⟩:=h5 z hm
 refine Bl.zjs hw (h2.ext hx (by simp)).cells (Bl.zfq h2) hg hn (hK _ z.2.1.2 (m1.ext hx (by simp)).cells (Bl.zos h5 hg) (zfm m1) (fun _ y hy=>hB _ (m2 _ (by unfold jf;rw [hy];simp))) ⟨z,hm,rfl⟩)
set_option maxHeartbeats 64000000 in
theorem z7c {w:World}{H:Heap}{a ha ma:Option Addr}{n nc hn hnc mn mnc:Nat}{dr sp kind quota:Int}{Ks:List Int}(hw:w.heap=H) (hR:Bl.Rounds H) (hr:z2a H a n) (hKs:Cells H ha (Ks.flatMap fun n=>[Value.int .i64 n])) (hkn:hn=Ks.length) (hM:zw0 H ma mn) (hq:quota<=9223372036854775807) :
  qc P zlx #[.agg #[.slice a n nc,.int .i64 dr,.int .i64 sp],.slice ha hn hnc,.int .i64 kind,.int .i64 quota,.slice ma mn mnc] w fun e w'=>e=.returned (.bool true)/\Ext [] H w'.heap:=by
 have hH0:0 < H.size:=by obtain⟨_,_,_,h,_⟩:=hR;exact lt_of_get h
 refine zq8 ?_
 unfold zl0
 refine jv hw fun w1 hw1=>?_
 have hx1:Ext [] H w1.heap:=by rw [hw1];exact .push _
 have hb1:w1.heap[H.size]?=some (.cells #[.slice a n nc,.int .i64 dr,.int .i64 sp] ze4 (0,0)):=by rw [hw1];exact zn
 refine zk (qdl rfl (hR.ext hx1 (by simp))) ?_
 rintro e w2 ⟨rfl,hx2⟩
 refine⟨true,rfl,jm rfl ?_⟩
 have hx02:=hx1.trans hx2
 refine qx rfl (hx2.get hb1 (by simp)) rfl ?_
 refine zk (qik rfl (hR.ext hx02 (by simp)) (hr.ext hx02)) ?_
 rintro e w3 ⟨pL,fpL,rL,kL,pL',fpL',rlL,x,ds,rfl,hLY,hx3⟩
 refine⟨(some ⟨pL,0,none⟩,some ⟨pL',0,none⟩,x),rfl,?_⟩
 have hx03:=hx02.trans hx3
 have hxl:x.2.1=ds.length:=by have:=hLY.sums.len;rw [zu Bl.zbp Bl.zaf] at this;omega
 have hd20:=hLY.dlen
 refine qp (s:=.any) (arr Bl.nought) (qj8 _) ?_
 refine qei Bl.za4 rfl fun w5 hw5=>?_
 have hx5:Ext [] w3.heap w5.heap:=by rw [hw5];exact .push _
 have hb5:w5.heap[w3.heap.size]?=some (.cells (byteCells Bl.nought).toArray zf (0,0)):=by rw [hw5];exact zn
 refine Go.Fw.joinP_of (fun _ W=>∃ d,d.length=32/\W.heap[w3.heap.size]?=some (.cells (byteCells d).toArray zf (0,0))/\Ext [] w3.heap W.heap) ?_ ?_
 ·refine zq (fun hpos=>?_) (fun _=>⟨Bl.nought,Bl.za4,hb5,hx5⟩)
  have hpos:(x.2.1:Int) > 0:=hpos
  refine zb0 ((ds.length-1:Nat):Int) (by show (x.2.1:Int)-1=_;omega) (by omega) (by omega) ?_
  have hil:ds.length-1 < ds.length:=by omega
  have hget:=List.getElem?_eq_getElem hil
  have hq:=hLY.d32 _ (List.getElem_mem hil)
  generalize ds[ds.length-1]=d at hget hq
  refine zce (i:=ds.length-1) Bl.zaf (by omega) rfl (hLY.sums.ext hx5 (by simp)).cells hxl hget rfl ?_
  rw [Bl.zba hq]
  refine z2t hq rfl hb5 (by simp [Bl.nought]) fun w6 hw6=>?_
  have hx6:Ext [w3.heap.size] w5.heap w6.heap:=by rw [hw6];exact Ext.set _ (by simp)
  exact⟨d,hq,by rw [hw6];exact qg hb5,hx5.own hx6 (fun b hb hlt=>by simp at hb;omega)⟩
 rintro _ W7 ⟨d,hd,hb7,hx7⟩
 have hLW:=hLY.ext hx7
 have hx07:=hx03.trans hx7
 clear hb5 hx5 hw5 hb1 hw1 hx1 hx2
 generalize hrb:w3.heap.size=rb at *
 have hRG:=hR.ext hx07 (by simp)
 have hKG:=hKs.ext hx07 (by simp)
 have hMG:=hM.ext hx07
 have hG0:0 < W7.heap.size:=by have:=hx07.1;omega
 refine zk (Bl.zzb quota rfl) ?_
 rintro e w8 ⟨p,fp0,rfl,hS8,hx8,hfp8⟩
 refine⟨some ⟨p,0,none⟩,rfl,?_⟩
 refine zk (Bl.qeh quota rfl) ?_
 rintro e w9 ⟨p',rfl,hT9,hx9,hp9,hp9'⟩
 refine⟨some ⟨p',0,none⟩,rfl,?_⟩
 obtain⟨q,hqd⟩:∃ q,q=max quota 0:=⟨_,rfl⟩
 rw [<-hqd] at hS8 hT9
 have hq0:0<=q:=by omega
 have hq2:q<=9223372036854775807:=by omega
 have hx79:=hx8.trans hx9
 have s8:=hx8.1
 have s9:=hx9.1
 have hTS0:TwoS w9.heap W7.heap.size q p fp0 [] 0 p' [p'] [] 0:=⟨hS8.ext hx9 (by simp),hT9,fun _=>rfl,Nat.le_refl _,by simp [Bl.total],fun b hb=>⟨(hfp8 b hb).1,by have:=(hfp8 b hb).2;omega⟩,fun b hb=>by simp at hb;subst hb;exact⟨by omega,hp9'⟩,fun b hb h=>by simp at h;subst h;have:=(hfp8 _ hb).2;omega⟩
 simp only [zy,jo,Nat.zero_add]
 generalize hG:W7.heap=G at *
 have layB:∀ b∈fpL',b < G.size:=fun b hb=>(hLW.lo' b hb).2
 have layD:∀ {D:List UInt8},(∃ z∈rlL,z.2.1.2=D)->D.length<=1099511627775:=by
  rintro D ⟨z,hz,rfl⟩
  have:=hLW.big z hz
  omega
 refine Go.Fw.joinP_of (fun _ W=>∃ fp r k fp' rl,TwoS W.heap G.size q p fp r k p' fp' rl 20/\Ext [] G W.heap) ?_ ?_
 ·refine Go.Fw.joinP_of (fun _ W=>∃ fp r k fp' rl,TwoS W.heap G.size q p fp r k p' fp' rl 20/\Ext [] G W.heap) ?_ (fun _ _ h=>h)
  refine jg (fun (s:Int) W=>∃ (i:Nat) (fp:List Nat) (r:Bl.SM) (k:Nat) (fp':List Nat) (rl:Bl.SM),s=(i:Int)/\i<=20/\TwoS W.heap G.size q p fp r k p' fp' rl i/\Ext [] G W.heap) (fun s _=>(20-s).toNat)
   ⟨0,fp0,[],0,[p'],[],rfl,by omega,hTS0,hx79⟩ ?_
  rintro _ W ⟨i,fp,r,k,fp',rl,rfl,hi,hTS,hxW⟩
  obtain⟨xl,hxll,hhd,hel⟩:=ztj hLW.rs hxW layB
  have out:∃ fp r k fp' rl,TwoS W.heap G.size q p fp r k p' fp' rl 20/\Ext [] G W.heap:=⟨fp,r,k,fp',rl,hTS.mono hi,hxW⟩
  refine Go.Fw.joinP_of (fun _ W'=>W'=W/\i < 20/\i < Ks.length/\0 < rlL.length) ?_ ?_
  ·refine zq (fun h1=>?_) (fun _=>out)
   refine zq (fun h2=>?_) (fun _=>out)
   refine hhd rfl ?_
   refine zq (fun h3=>?_) (fun _=>out)
   have h3:(xl.2.1:Int) > 0:=h3
   exact⟨rfl,by omega,by omega,by omega⟩
  rintro _ V ⟨hV,h20,hiK,hpos⟩
  have hV:=hV.symm
  subst hV
  refine jl rfl fun w12 hw12=>?_
  have hx12:Ext [] W.heap w12.heap:=by rw [hw12];exact .refl _ _
  have hxG12:=hxW.trans hx12
  obtain⟨xl,hxll,hhd,hel⟩:=ztj hLW.rs hxG12 layB
  have hget:=List.getElem?_eq_getElem hiK
  generalize Ks[i]=kv at hget
  refine Bl.zcd (sz:=1) (enc:=fun n:Int=>[Value.int .i64 n]) (i:=i) (fun _=>rfl) (by omega) (hKG.ext hxG12 (by simp)) hkn hget rfl fun ba oa ca Ta fra _ hba hsa hca _=>?_
  refine hhd rfl ?_
  refine je (s:=.int .i64) (t:=kv) rfl hba (hca 0 (by omega)) ?_
  refine zng fun m hm=>?_
  refine hhd rfl ?_
  have hl20:rlL.length<=20:=by have:=hLW.view.2;have:=hLW.rlen;omega
  refine zfx (by omega) (by omega) ?_
  refine zp8 m rlL.length rfl (by rw [hxll]) (by omega) ?_
  have hmod:=Nat.mod_lt m hpos
  refine zg5 (by omega) (by omega) ?_
  refine hel rfl hmod rfl fun y D hy hyl hyc hyB hyD=>?_
  have hD:=layD hyD
  refine qbs (hTS.ext hx12 (by simp) (by simp)) (hRG.ext hxG12 (by simp)) hG0 (by omega) hq0 hq2 hy hyl hyc (fun hne z hz=>⟨fun h=>by have:=(hTS.lo _ h).1;have:=hyB hne z hz;omega,fun h=>by have:=(hTS.lo' _ h).1;have:=hyB hne z hz;omega⟩) (by omega) fun w14 fp2 r2 k2 fp2' rl2 hT14 hx14=>?_
  refine jd ((i+1:Nat):Int) (by simp) (by omega) (by omega) ?_
  refine⟨⟨i+1,fp2,r2,k2,fp2',rl2,rfl,by omega,hT14,hxG12.own hx14 (fun b hb hlt=>?_)⟩,by omega⟩
  rcases List.mem_append.1 hb with h | h
  ·have:=(hTS.lo b h).1;omega
  ·have:=(hTS.lo' b h).1;omega
 clear hTS0 hS8 hT9 hfp8 hx79 hx8 hx9
 rintro _ W16 ⟨fp,r,k,fp',rl,hTS,hx16⟩
 have hb16:=hx16.get hb7 (by simp)
 refine qx rfl hb16 (by simp [hd]) ?_
 by_cases hkd:kind=2\/kind=3
 rotate_left
 ·have h2:kind≠2:=fun h=>hkd (.inl h)
  have h3:kind≠3:=fun h=>hkd (.inr h)
  refine zk (qaq rfl h2 h3) ?_
  rintro e w17 ⟨rfl,hx17⟩
  refine⟨(none,100),rfl,?_⟩
  refine qx rfl (hx17.get hb16 (by simp)) (by simp [hd]) ?_
  refine zk (z8i rfl h2 h3) ?_
  rintro e w18 ⟨rfl,hx18⟩
  refine⟨(none,100),rfl,?_⟩
  refine zal ?_
  refine jm rfl ?_
  refine qp (s:=.bool) _ (Bl.z4t _ _ _ _ _) ?_
  refine jm rfl ?_
  exact zah rfl ⟨trivial,((hx07.trans hx16).trans hx17).trans hx18⟩
 have hview:=hTS.view
 have hrlen:=hTS.rlen
 obtain⟨m,t,c0,hrun,hm⟩:=zvu r [(d,kind)] st0
 have hc0:=zul hrun
 subst hc0
 have hun:unseen r st0.seen<=r.length:=List.length_filter_le _ _
 simp only [List.length_cons,List.length_nil] at hm
 have hm2:m<=1500000:=by
  have:70001 * unseen r st0.seen<=70001 * 20:=Nat.mul_le_mul_left _ (by omega)
  omega
 have hlen:∀ k L,Bl.zaa r k=some L->L.length < 1099511627776:=fun k L h=>by have:=hTS.small k L h;omega
 refine zk (qej (n:=m) hlen rfl hTS.st (fun b hb=>(hTS.lo b hb).2) (hRG.ext hx16 (by simp)) hd hkd hrun (by omega)) ?_
 rintro e w17 ⟨c,cf,rfl,hC17,hx17,hcf17⟩
 refine⟨(some ⟨c,0,none⟩,0),rfl,?_⟩
 refine qx rfl (hx17.get hb16 (by simp)) (by simp [hd]) ?_
 have hrun2:=hrun
 rw [show Bl.zaa r=Bl.zaa rl from funext hTS.same] at hrun2
 refine zk (qet (n:=m) (fun k L h=>hlen k L (by rw [hTS.same];exact h)) rfl (hTS.rs.ext hx17 (by simp)) (fun b hb=>by have:=(hTS.lo' b hb).2;have:=hx17.1;omega) (by omega) hd hkd hrun2 (by omega)) ?_
 rintro e w18 ⟨rc,rcf,rfl,hD18,hx18,hrcf18⟩
 refine⟨(some ⟨rc,0,none⟩,0),rfl,?_⟩
 have hx1618:=hx17.trans hx18
 have hx018:=hx16.trans hx1618
 have s17:=hx17.1
 have s18:=hx18.1
 have sG16:=hx16.1
 have hwt:=zt6 hrun
 have hst:=z0l hrun
 have hTC:z2d w18.heap (fp++(fp'++(cf++rcf))) G.size q p p' 20 c rc t:=⟨fp,r,k,fp',rl,cf,rcf,hTS.ext hx1618 (by simp) (by simp),hC17.ext hx18 (by simp),hD18,run_wf hrun ⟨by simp [st0],by simp [st0]⟩,by simp,fun b hb=>by
   simp only [List.mem_append] at hb
   rcases hb with h | h | h | h
   ·have:=hTS.lo b h;omega
   ·have:=hTS.lo' b h;omega
   ·have:=hcf17 b h;omega
   ·have:=hrcf18 b h;omega,fun b hb=>⟨fun h=>by have:=hTS.lo b hb;have:=hcf17 b h;omega,fun h=>by have:=hTS.lo b hb;have:=hrcf18 b h;omega⟩,fun b hb=>⟨fun h=>by have:=hTS.lo' b hb;have:=hcf17 b h;omega,fun h=>by have:=hTS.lo' b hb;have:=hrcf18 b h;omega⟩,fun b hb h=>by have:=hcf17 b hb;have:=hrcf18 b h;omega⟩
 refine zal ?_
 refine jm rfl ?_
 refine qp (s:=.bool) _ (Bl.z4t _ _ _ _ _) ?_
 refine jm rfl ?_
 refine jm rfl ?_
 simp only [zy,jo,Nat.zero_add]
 have w0:t.want.length<=2000000:=by simp [st0] at hwt;omega
 have v0:t.seen.length<=2000000:=by simp [st0] at hst;omega
 generalize hF0:fp++(fp'++(cf++rcf))=F0 at hTC
 clear hTS hrun hrun2 hC17 hD18 hx17 hx18 hx1618 hb16 hcf17 hrcf18 hF0 hlen hview
 refine Go.Fw.joinP_of (fun _ W=>∃ F st,z2d W.heap F G.size q p p' 80 c rc st/\st.want.length<=700000000/\Ext [] G W.heap) ?_ ?_
 ·refine Go.Fw.joinP_of (fun _ W=>∃ F st,z2d W.heap F G.size q p p' 80 c rc st/\st.want.length<=700000000/\Ext [] G W.heap) ?_ (fun _ _ h=>h)
  refine jg (fun (s:Int) W=>∃ (i:Nat) (F:List Nat) (st:LSt),s=(i:Int)/\i<=60/\z2d W.heap F G.size q p p' (20+i) c rc st/\st.want.length<=2000000+8000000 * i/\st.seen.length<=2000000+8000000 * i/\Ext [] G W.heap) (fun s _=>(60-s).toNat)
   ⟨0,F0,t,rfl,by omega,hTC,by omega,by omega,hx018⟩ ?_
  clear hTC w0 v0 hx018 hwt hst hx16
  rintro _ W ⟨i,F,st,rfl,hi,hTC,hw1,hw2,hxW⟩
  have out:∃ F st,z2d W.heap F G.size q p p' 80 c rc st/\st.want.length<=700000000/\Ext [] G W.heap:=⟨F,st,hTC.mono (by omega),by omega,hxW⟩
  refine Go.Fw.joinP_of (fun _ W'=>W'=W/\i < 60/\i < mn) ?_ ?_
  ·refine zq (fun h1=>?_) (fun _=>out)
   refine zq (fun h2=>?_) (fun _=>out)
   exact⟨rfl,by omega,by omega⟩
  rintro _ V ⟨hV,h60,him⟩
  have hV:=hV.symm
  subst hV
  have sW:=hxW.1
  refine Go.Fw.joinP_of (fun _ W'=>∃ F st,z2d W'.heap F G.size q p p' (20+(i+1)) c rc st/\st.want.length<=2000000+8000000 * (i+1)/\st.seen.length<=2000000+8000000 * (i+1)/\Ext [] G W'.heap) ?_ ?_
  rotate_left
  ·rintro _ W' ⟨F',st',u1,u2,u3,u4⟩
   refine jd ((i+1:Nat):Int) (by simp) (by omega) (by omega) ?_
   exact⟨⟨i+1,F',st',rfl,by omega,u1,u2,u3,u4⟩,by omega⟩
  refine Go.Fw.joinP_of (fun _ W'=>∃ F st,z2d W'.heap F G.size q p p' (20+(i+1)) c rc st/\st.want.length<=2000000+8000000 * (i+1)/\st.seen.length<=2000000+8000000 * (i+1)/\Ext [] G W'.heap) ?_ (fun _ _ h=>h)
  refine qck rfl hMG hxW him rfl fun kd at_ xr D hcD hlD hcapD=>?_
  refine qky rfl fun w23 hw23=>?_
  have hx23:Ext [] W.heap w23.heap:=by rw [hw23];exact .push _
  have hb23:w23.heap[W.heap.size]?=some (.cells #[.int .i64 kd,.int .i64 at_,zbv xr] zc5 (0,0)):=by rw [hw23];exact zn
  have s23:=lt_of_get hb23
  have hxG23:=hxW.trans hx23
  refine je (s:=.slc) (t:=xr) rfl hb23 rfl ?_
  refine Go.Fw.joinP_of (fun (z:Option Addr×Nat×Nat) V=>∃ D,Cells V.heap z.1 (byteCells D)/\z.2.1=D.length/\z.2.1<=z.2.2/\(D≠[]->∀ y,z.1=some y->y.block < G.size)/\Ext [] w23.heap V.heap) ?_ ?_
  ·have own:∃ D,Cells w23.heap xr.1 (byteCells D)/\xr.2.1=D.length/\xr.2.1<=xr.2.2/\(D≠[]->∀ y,xr.1=some y->y.block < G.size)/\Ext [] w23.heap w23.heap:=⟨D,hcD.ext hxG23 (by simp),hlD,hcapD,fun hne y hy=>by
    obtain⟨z,hz,hlt⟩:=hcD.lt (by intro h;exact hne (by simpa [byteCells] using h))
    rw [hy] at hz;cases hz;exact hlt,.refl _ _⟩
   refine je (s:=.int .i64) (t:=kd) rfl hb23 rfl ?_
   refine zng fun m hm=>?_
   refine zp8 m 3 rfl rfl (by omega) ?_
   refine zax (fun _=>?_) (fun _=>own)
   obtain⟨xl,hxll,hhd,hel⟩:=ztj hLW.rs hxG23 layB
   refine hhd rfl ?_
   refine zq (fun hpos=>?_) (fun _=>own)
   have hpos:(xl.2.1:Int) > 0:=hpos
   refine jl rfl fun w24 hw24=>?_
   have hx24:Ext [] w23.heap w24.heap:=by rw [hw24];exact .refl _ _
   obtain⟨xl,hxll,hhd,hel⟩:=ztj hLW.rs (hxG23.trans hx24) layB
   refine hhd rfl ?_
   refine je (s:=.int .i64) (t:=at_) rfl (hx24.get hb23 (by simp)) rfl ?_
   refine zng fun m hm=>?_
   refine hhd rfl ?_
   have hl20:rlL.length<=20:=by have:=hLW.view.2;have:=hLW.rlen;omega
   refine zfx (by omega) (by omega) ?_
   refine zp8 m rlL.length rfl (by rw [hxll]) (by omega) ?_
   have hmod:=Nat.mod_lt m (show 0 < rlL.length by omega)
   refine zg5 (by omega) (by omega) ?_
   exact hel rfl hmod rfl fun y D hy hyl hyc hyB hyD=>⟨D,hy,hyl,hyc,hyB,hx24⟩
  clear hcD hlD hcapD D
  rintro z1 V1 ⟨D1,hc1,hl1,hcap1,ho1,hxV1⟩
  obtain⟨fp,r,k,fp',rl,cf,rcf,hTS,hA,hDD,hWf,hFF,hlo,d1,d2,d3⟩:=id hTC
  have hxW1:=hx23.trans hxV1
  refine zk (zy9 (most:=1) rfl (hDD.ext hxW1 (by simp)) (by omega)) ?_
  rintro e w26 ⟨x170,rfl,hm26,h26,hx26⟩
  refine⟨x170,rfl,?_⟩
  generalize zjf 1 st.want []=WL at hm26 h26
  have hxl26:x170.2.1=WL.length:=by have:=hm26.len;rw [zu Bl.zbp Bl.zaf] at this;omega
  have hx2326:=hxV1.trans hx26
  have hb26:=hx2326.get hb23 (by simp)
  have hxG26:=hxG23.trans hx2326
  refine Go.Fw.joinP_of (fun (z:Option Addr×Nat×Nat) V=>∃ D,Cells V.heap z.1 (byteCells D)/\z.2.1=D.length/\z.2.1<=z.2.2/\(D≠[]->∀ y,z.1=some y->y.block < G.size\/W.heap.size<=y.block)/\Ext [] w26.heap V.heap) ?_ ?_
  ·have own:∀ {V:World},Ext [] w26.heap V.heap->∃ D,Cells V.heap z1.1 (byteCells D)/\z1.2.1=D.length/\z1.2.1<=z1.2.2/\(D≠[]->∀ y,z1.1=some y->y.block < G.size\/W.heap.size<=y.block)/\Ext [] w26.heap V.heap:=fun hx=>⟨D1,hc1.ext (hx26.trans hx) (by simp),hl1,hcap1,fun hne y hy=>.inl (ho1 hne y hy),hx⟩
   refine je (s:=.int .i64) (t:=kd) rfl hb26 rfl ?_
   refine zng fun m hm=>?_
   refine zp8 m 3 rfl rfl (by omega) ?_
   refine zax (fun _=>?_) (fun _=>own (.refl _ _))
   refine zq (fun hpos=>?_) (fun _=>own (.refl _ _))
   have hpos:(x170.2.1:Int) > 0:=hpos
   have hil:0 < WL.length:=by omega
   have hget:=List.getElem?_eq_getElem hil
   have hq32:=h26 _ (List.getElem_mem hil)
   generalize WL[0]=g at hget hq32
   refine zce (i:=0) Bl.zaf (by omega) rfl hm26.cells hxl26 hget rfl ?_
   rw [Bl.zba hq32]
   have hl20:rlL.length<=20:=by have:=hLW.view.2;have:=hLW.rlen;omega
   refine zk (Bl.qeb (k:=g) rfl (hLW.rs.ext hxG26 (by simp)) hq32 (by omega) (fun L hv=>by have:=hLW.small g L ((hLW.same g).trans hv);omega)) ?_
   rintro e w27 ⟨y,rfl,hx27,hgot,_⟩
   refine⟨(y,Bl.got (Bl.zaa rlL g) g),rfl,?_⟩
   refine zax (fun hg=>?_) (fun _=>own hx27)
   obtain⟨L,_,hmy⟩:=hgot hg
   exact⟨L,hmy.cells,by show y.2.1=L.length;have h:=hmy.len;simp at h;omega,zfm hmy,fun _ z hz=>.inr (by
    have:=xu hmy z.block (by unfold jf;rw [hz];simp)
    have:=hx2326.1;omega),hx27⟩
  rintro z V2 ⟨D,hcD,hlD,hcapD,hoD,hxV2⟩
  have hx2V:=hx2326.trans hxV2
  have hxWV:=hx23.trans hx2V
  have hxGV:=hxG26.trans hxV2
  have sV2:=hxWV.1
  refine zq (fun hbig=>?_) (fun hbig=>?_)
  ·exact⟨F,st,(hTC.ext hxWV).mono (by omega),by omega,by omega,hxGV⟩
  have hbig:¬(z.2.1:Int) > 4096:=hbig
  refine Bl.qgf rfl fun w29 hx29 hm29=>?_
  have s29:=hx29.1
  refine Bl.qac (L:=D) rfl hm29 s29 (hcD.ext hx29 (by simp)) hlD (by omega) fun x197 w30 hm30 hl30 hx30=>?_
  have hxV30:Ext [] V2.heap w30.heap:=hx29.own hx30 (fun b hb hlt=>by simp [jf] at hb;omega)
  have hxW30:=hxWV.trans hxV30
  have s30:=hx30.1
  have inF:∀ {b:Nat},b∈F->G.size<=b/\b < W.heap.size:=fun h=>hlo _ h
  have o1:D≠[]->∀ y,x197.1=some y->y.block∉F:=fun _ y hy h=>by
   have:=xu hm30 y.block (by unfold jf;rw [hy];simp)
   have:=inF h;omega
  have o2:D≠[]->∀ y,z.1=some y->y.block∉F:=fun hne y hy h=>by
   have:=inF h
   rcases hoD hne y hy with h' | h' <;> omega
  have hcD30:=hcD.ext hxV30 (by simp)
  refine z7v (x1:=x197) (x2:=z) (L:=D) (hTC.ext hxW30) (hRG.ext (hxGV.trans hxV30) (by simp)) hG0 (by omega) hq0 hq2 hm30.cells hl30 (zfm hm30) o1 hcD30 hlD hcapD o2 (by omega) (by omega) (by omega) fun code w32 F' st' hTC32 hx32 hwa hwb=>?_
  have bne:∀ {y:Addr},byteCells D≠[]->D≠[]:=fun hne=>by rintro rfl;exact hne rfl
  refine zay (fun h=>absurd rfl h) (fun _=>?_)
  refine qp (s:=.str) _ (zrg uS8 Bl.u5 z14 rfl (hm30.cells.ext hx32 (fun y hy hne=>o1 (bne (y:=y) hne) y hy)) hl30) ?_
  refine qp (s:=.str) _ (zrg uS8 Bl.u5 z14 rfl (hcD30.ext hx32 (fun y hy hne=>o2 (bne (y:=y) hne) y hy)) hlD) ?_
  refine jm (by simp) ?_
  have hb32:=hx32.get (hxV30.get (hx2V.get hb23 (by simp)) (by simp)) (fun h=>by have:=inF h;omega)
  refine je (s:=.int .i64) (t:=at_) rfl hb32 rfl ?_
  obtain⟨fpn,rn,kn,fpn',rln,cfn,rcfn,hTSn,hAn,hDn,_⟩:=id hTC32
  refine zk (z9m rfl hAn hDn (by omega)) ?_
  rintro e w33 ⟨rfl,hx33⟩
  refine⟨true,rfl,jm rfl ?_⟩
  refine⟨F',st',hTC32.ext hx33,Nat.le_trans hwa (by rw [Nat.mul_succ,<-Nat.add_assoc];exact Nat.add_le_add_right hw1 _),Nat.le_trans hwb (by rw [Nat.mul_succ,<-Nat.add_assoc];exact Nat.add_le_add_right hw2 _),((hxGV.trans hxV30).own hx32 (fun b hb hlt=>by have:=inF hb;omega)).trans hx33⟩
 rintro _ W ⟨F,st,hTC,hwl,hxW⟩
 obtain⟨fp,r,k,fp',rl,cf,rcf,hTS,hA,hDD,hWf,hFF,hlo,d1,d2,d3⟩:=hTC
 have hview:=hTS.view
 refine jl rfl fun w38 hw38=>?_
 have hx38:Ext [] W.heap w38.heap:=by rw [hw38];exact .refl _ _
 refine zk (z9m rfl (hA.ext hx38 (by simp)) (hDD.ext hx38 (by simp)) (by omega)) ?_
 rintro e w39 ⟨rfl,hx39⟩
 refine⟨true,rfl,zah rfl ?_⟩
 have hx3839:=hx38.trans hx39
 have hTS9:=hTS.ext hx3839 (by simp) (by simp)
 obtain⟨xh,h1,h2,_⟩:=id hTS9.rs
 have hxh:xh.2.1=rl.length:=Bl.zfq h2
 refine je (s:=.slc) (t:=xh) rfl h1 rfl ?_
 refine zk (Bl.qe8 rfl hTS9.st) ?_
 rintro e w40 ⟨rfl,rfl⟩
 refine⟨_,rfl,?_⟩
 refine⟨je (s:=.slc) (o:=1) (t:=xh) (K:=fun z=>Value.slice z.1 z.2.1 z.2.2=Value.slice xh.1 xh.2.1 xh.2.2) rfl h1 rfl rfl,?_⟩
 refine zax (fun _=>?_) (fun h=>absurd (by rw [hxh,hview.2]) h)
 refine zk (Bl.z2z rfl hTS9.st) ?_
 rintro e w41 ⟨rfl,rfl⟩
 refine⟨_,rfl,?_⟩
 have htot:=hTS.tot
 have hrl:=hTS.rlen
 refine zk (Bl.z5c rfl hTS9.rs (by omega) (by omega)) ?_
 rintro e w42 ⟨rfl,rfl⟩
 refine⟨_,rfl,?_⟩
 exact⟨by rw [hview.1];simp,(hx07.trans hxW).trans hx3839⟩
open Go.ChangeShapes Go.WideShapes Go.ChangeAt Go.RowKit
variable {Hh:Type}
theorem qca (d:DataW Hh):1<=Rows.uptoBulk d:=by
 cases d with
 | lit l=>cases l <;> simp [Rows.uptoBulk]
 | _=>simp [Rows.uptoBulk]
theorem zse:∀ {l:List (DataW Hh)},l.length<=Rows.uptoBulkAll l
 | []=>by simp [Rows.uptoBulkAll]
 | d :: l=>by
  have:=zse (l:=l)
  have:=qca d
  simp only [Rows.uptoBulkAll,List.length_cons];omega
theorem ztl:∀ {l:List (DataW Hh)}{d:DataW Hh},d∈l->Rows.uptoBulk d<=Rows.uptoBulkAll l
 | x :: l,d,h=>by
  simp only [Rows.uptoBulkAll]
  rcases List.mem_cons.1 h with rfl | h
  ·omega
  ·have:=ztl h;omega
theorem zyu (d:DataW Hh):big d<=Rows.uptoBulk d:=by
 cases d with
 | slice es rest=>have:=zse (l:=es);simp only [big,Rows.uptoBulk];omega
 | _=>simp [big]
theorem zw8 {es rest:List (DataW Hh)}{d:DataW Hh}(h:d∈es):Rows.uptoBulk d<=Rows.uptoBulk (.slice es rest):=by
 have:=ztl h;simp only [Rows.uptoBulk];omega
theorem z4x {es:List (DataW Hh)}{d:DataW Hh}(h:d∈es):Rows.uptoBulk d<=Rows.uptoBulk (.agg es):=by
 have:=ztl h;simp only [Rows.uptoBulk];omega
variable {enc:TypeId×Value->Hh}{W:World}
theorem z5o {t:TypeId}(ht:P.underlying t=some .string){v:Value}{fuel:Nat}{x:DataW Hh×List MemPlace}(h:DataW.trod enc P W 0 (fun _=>true) true fuel t [v]=some x):∃ L:List UInt8,v=.string (strOf L)/\L.length<=Rows.uptoBulk x.1:=by
 cases fuel with
 | zero=>simp [DataW.trod] at h
 | succ m=>
  unfold DataW.trod at h
  rw [ht] at h
  split at h <;> simp_all
  refine⟨_,z6q.symm,?_⟩
  rw [<-h.2]
  simp [Rows.uptoBulk]
theorem z3e {t e:TypeId}(ht:P.underlying t=some (.slice e)) (hc:P.cellsOf e=1){α:Type}{f:α->Value}{Q:α->Nat->Prop}(hQ:∀ y m n,Q y m->m<=n->Q y n) (hel:∀ {v:Value}{fuel:Nat}{x:DataW Hh×List MemPlace},DataW.trod enc P W 0 (fun _=>true) true fuel e [v]=some x->∃ y,v=f y/\Q y (Rows.uptoBulk x.1))
  {v:Value}{fuel:Nat}{x:DataW Hh×List MemPlace}(h:DataW.trod enc P W 0 (fun _=>true) true fuel t [v]=some x):∃ (a:Option Addr) (n nc:Nat) (L:List α),v=.slice a n nc/\Cells W.heap a (L.map f)/\n=L.length/\L.length<=Rows.uptoBulk x.1/\∀ y∈L,Q y (Rows.uptoBulk x.1):=by
 obtain⟨a,n,nc,ys,rfl,hle,hn,hx,hes⟩:=row_of ht hc (by omega) h
 have key:∀ i (hi:i < ys.length),∃ y:α,(∃ (b o:Nat) (c:Array Value) (T:TypeId) (fr:Nat×Nat),a=some ⟨b,o,none⟩/\W.heap[b]?=some (.cells c T fr)/\o+i < c.size/\c[o+i]?=some (f y))/\Q y (Rows.uptoBulk x.1):=by
  intro i hi
  obtain⟨b,o,c,T,fr,m,ps,rfl,hb,hsz,ht2⟩:=hes i hi
  rw [Nat.mul_one] at hsz ht2
  rw [take_one (by omega)] at ht2
  obtain⟨y,hv,hq⟩:=hel ht2
  refine⟨y,⟨b,o,c,T,fr,rfl,hb,by omega,by rw [<-hv];exact Array.getElem?_eq_getElem _⟩,hQ _ _ _ hq ?_⟩
  rcases hx with⟨h1,h2,_⟩ | ⟨rest,h3⟩
  ·omega
  ·rw [h3];exact zw8 (List.getElem_mem _)
 have hlen:∃ L:List α,L.length=ys.length/\∀ i (hi:i < ys.length) (h:i < L.length),(∃ (b o:Nat) (c:Array Value) (T:TypeId) (fr:Nat×Nat),a=some ⟨b,o,none⟩/\W.heap[b]?=some (.cells c T fr)/\o+i < c.size/\c[o+i]?=some (f L[i]))/\Q L[i] (Rows.uptoBulk x.1):=by
  classical
  by_cases h0:ys.length=0
  ·exact⟨[],by simp [h0],fun i hi=>by omega⟩
  ·refine⟨(List.range ys.length).map fun i=>if h:i < ys.length then Classical.choose (key i h) else Classical.choose (key 0 (by omega)),by simp,fun i hi h=>?_⟩
   have:=Classical.choose_spec (key i hi)
   simpa [hi] using this
 obtain⟨L,hl,hL⟩:=hlen
 refine⟨a,n,nc,L,rfl,?_,by omega,?_,fun y hy=>?_⟩
 ·by_cases h0:n=0
  ·left;rw [List.eq_nil_of_length_eq_zero (by omega:L.length=0)];rfl
  ·obtain⟨⟨b,o,c,T,fr,rfl,hb,_,_⟩,_⟩:=hL 0 (by omega) (by omega)
   have at_:∀ i (hi:i < L.length),o+i < c.size/\c[o+i]?=some (f L[i]):=by
    intro i hi
    obtain⟨⟨b2,o2,c2,T2,fr2,he,hb2,h3,h4⟩,_⟩:=hL i (by omega) hi
    cases he
    rw [hb] at hb2;cases hb2
    exact⟨h3,h4⟩
   refine .inr ⟨b,o,c,T,fr,rfl,hb,?_,?_⟩
   ·have:=(at_ (L.length-1) (by omega)).1
    rw [List.length_map];omega
   ·apply List.ext_getElem?
    intro j
    rw [Array.getElem?_toList,Array.getElem?_extract,List.length_map,List.getElem?_map]
    by_cases hj:j < L.length
    ·have hjc:=(at_ j hj).1
     rw [if_pos (by omega),(at_ j hj).2,List.getElem?_eq_getElem hj];rfl
    ·rw [if_neg (by omega),List.getElem?_eq_none (by omega)];rfl
 ·rcases hx with⟨h1,h2,_⟩ | ⟨rest,h3⟩
  ·have:L.length=0:=by omega
   omega
  ·have h5:=zyu x.1
   have h6:big x.1=ys.length:=by rw [h3];rfl
   omega
 ·obtain⟨i,hi,rfl⟩:=List.getElem_of_mem hy
  exact (hL i (by omega) hi).2
theorem z1k {Ks:List Int}:(Ks.flatMap fun n=>[Value.int .i64 n])=Ks.map fun n=>Value.int .i64 n:=by
 induction Ks with
 | nil=>rfl
 | cons a l ih=>rw [List.flatMap_cons,ih];rfl
theorem qjg:shapeOf P zgu=some [(zbw,0),(vg,1),(zbw,2),(jq,3),(zak,4),(zq6,5),(jq,6)]:=by kernel_rfl
theorem qk9:P.cellsOf zgu=7:=by kernel_rfl
theorem qd7:shapeOf P ze4=some [(zi5,0),(zbw,1),(zbw,2)]:=by kernel_rfl
theorem qjm:P.cellsOf ze4=3:=by kernel_rfl
theorem qil:P.cellsOf zi5=1:=by kernel_rfl
theorem qiy:P.underlying zi5=some (.slice zgu):=by kernel_rfl
theorem cSb:P.cellsOf zi=1:=by kernel_rfl
theorem qjw:P.cellsOf jq=1:=by kernel_rfl
theorem cSs:P.cellsOf zak=1:=by kernel_rfl
theorem cSi:P.cellsOf zq6=1:=by kernel_rfl
theorem cIn:P.cellsOf zbw=1:=by kernel_rfl
theorem cU8:P.cellsOf xg=1:=by kernel_rfl
theorem uIn:P.underlying zbw=some (.int .i64):=by kernel_rfl
theorem uU8:P.underlying xg=some (.int .u8):=by kernel_rfl
theorem uSb:P.underlying zi=some (.slice xg):=by kernel_rfl
theorem qju:P.underlying jq=some (.slice zi):=by kernel_rfl
theorem uSs:P.underlying zak=some (.slice vg):=by kernel_rfl
theorem uSi:P.underlying zq6=some (.slice zbw):=by kernel_rfl
theorem qbq {c:Array Value}{o:Nat}{fuel:Nat}{x:DataW Hh×List MemPlace}(hsz:o+7<=c.size) (h:DataW.trod enc P W 0 (fun _=>true) true fuel zgu ((c.toList.drop o).take 7)=some x) (hb:Rows.uptoBulk x.1<=1048576):RawW W.heap (c.extract o (o+7)):=by
 obtain⟨zs,hy,_,hzl,hf⟩:=ztx qjg h
 obtain⟨xd,xps⟩:=x
 have hy:xd=.agg zs:=hy
 subst hy
 have field:∀ j ti,([(zbw,0),(vg,1),(zbw,2),(jq,3),(zak,4),(zq6,5),(jq,6)]:List (TypeId×Nat))[j]?=some (ti,j)->P.cellsOf ti=1->j < 7->∃ m ps z v,Rows.uptoBulk z<=1048576/\c[o+j]?=some v/\DataW.trod enc P W 0 (fun _=>true) true m ti [v]=some (z,ps):=by
  intro j ti hj hc1 hj5
  obtain⟨m',ps',z,hz,htr⟩:=hf j ti j hj
  rw [hc1,zt1 hj5 hsz] at htr
  exact⟨m',ps',z,_,Nat.le_trans (z4x (List.mem_of_getElem? hz)) hb,Array.getElem?_eq_getElem _,htr⟩
 obtain⟨m0,p0,z0,v0,hz0,hc0,ht0⟩:=field 0 zbw rfl cIn (by omega)
 obtain⟨m1,p1,z1,v1,hz1,hc1,ht1⟩:=field 1 vg rfl cStr (by omega)
 obtain⟨m2,p2,z2,v2,hz2,hc2,ht2⟩:=field 2 zbw rfl cIn (by omega)
 obtain⟨m3,p3,z3,v3,hz3,hc3,ht3⟩:=field 3 jq rfl qjw (by omega)
 obtain⟨m4,p4,z4,v4,hz4,hc4,ht4⟩:=field 4 zak rfl cSs (by omega)
 obtain⟨m5,p5,z5,v5,hz5,hc5,ht5⟩:=field 5 zq6 rfl cSi (by omega)
 obtain⟨m6,p6,z6,v6,hz6,hc6,ht6⟩:=field 6 jq rfl qjw (by omega)
 obtain⟨k0,rfl,_⟩:=zsh uIn ht0
 obtain⟨D,rfl,hD⟩:=z5o z14 ht1
 obtain⟨k2,rfl,_⟩:=zsh uIn ht2
 obtain⟨a3,n3,nc3,Ps,es3,rfl,_,hR3,hn3,hx3,_⟩:=qhj qju uSb uU8 cU8 cSb ht3
 obtain⟨a4,n4,nc4,Ns,rfl,hC4,hn4,hl4,hq4⟩:=z3e (f:=fun L:List UInt8=>Value.string (strOf L)) (Q:=fun L n=>L.length<=n) uSs cStr (fun _ _ _ h h'=>Nat.le_trans h h') (fun h=>z5o z14 h) ht4
 obtain⟨a5,n5,nc5,Ks,rfl,hC5,hn5,hl5,_⟩:=z3e (f:=fun n:Int=>Value.int .i64 n) (Q:=fun _ _=>True) uSi cIn (fun _ _ _ _ _=>trivial) (fun h=>by obtain⟨n,hv,_⟩:=zsh uIn h;exact⟨n,hv,trivial⟩) ht5
 obtain⟨a6,n6,nc6,Ss,es6,rfl,_,hR6,hn6,hx6,_⟩:=qhj qju uSb uU8 cU8 cSb ht6
 have qh6:=zyu z3
 have big6:=zyu z6
 have l3:Ps.length<=1048576:=by
  have:=hR3.1
  rcases hx3 with⟨h1,_,_⟩ | ⟨rest,h3⟩
  ·omega
  ·have h3:z3=.slice es3 rest:=h3
   rw [h3] at qh6 hz3;simp only [big] at qh6;omega
 have l6:Ss.length<=1048576:=by
  have:=hR6.1
  rcases hx6 with⟨h1,_,_⟩ | ⟨rest,h3⟩
  ·omega
  ·have h3:z6=.slice es6 rest:=h3
   rw [h3] at big6 hz6;simp only [big] at big6;omega
 simp only at hD hl4 hl5 hq4
 refine⟨k0,k2,D,(a3,n3,nc3),(a4,n4,nc4),(a5,n5,nc5),(a6,n6,nc6),Ps,Ns,Ss,Ks,?_,hR3,hC4,hn4,?_,hn5,hR6,l3,by omega,by omega,l6,by omega,fun L hL=>by have:=hq4 L hL;omega⟩
 ·apply Array.ext_getElem?
  intro j
  rw [Array.getElem?_extract]
  by_cases hj:j < 7
  ·rw [if_pos (by omega)]
   match j,hj with
   | 0,_=>exact hc0
   | 1,_=>exact hc1
   | 2,_=>exact hc2
   | 3,_=>exact hc3
   | 4,_=>exact hc4
   | 5,_=>exact hc5
   | 6,_=>exact hc6
  ·rw [if_neg (by omega),Array.getElem?_eq_none (by simp;omega)]
 ·rw [z1k];exact hC5
theorem qbh {v:Value}{fuel:Nat}{x:DataW Hh×List MemPlace}(h:DataW.trod enc P W 0 (fun _=>true) true fuel ze4 v.cells.toList=some x) (hv:∃ cs:Array Value,v=.agg cs) (hb:Rows.uptoBulk x.1<=1048576) :
  ∃ a n nc dr sp,v=.agg #[.slice a n nc,.int .i64 dr,.int .i64 sp]/\z2a W.heap a n:=by
 obtain⟨cs,rfl⟩:=hv
 obtain⟨zs,hy,hcl,hzl,hf⟩:=ztx qd7 h
 obtain⟨xd,xps⟩:=x
 have hy:xd=.agg zs:=hy
 subst hy
 have hsz:cs.size=3:=by rw [qjm] at hcl;simpa [Value.cells] using hcl
 have field:∀ j ti,([(zi5,0),(zbw,1),(zbw,2)]:List (TypeId×Nat))[j]?=some (ti,j)->P.cellsOf ti=1->j < 3->∃ m ps z v,Rows.uptoBulk z<=1048576/\cs[j]?=some v/\DataW.trod enc P W 0 (fun _=>true) true m ti [v]=some (z,ps):=by
  intro j ti hj hc1 hj5
  obtain⟨m',ps',z,hz,htr⟩:=hf j ti j hj
  rw [hc1,show (Value.agg cs).cells=cs from rfl,take_one (by omega)] at htr
  exact⟨m',ps',z,_,Nat.le_trans (z4x (List.mem_of_getElem? hz)) hb,Array.getElem?_eq_getElem _,htr⟩
 obtain⟨m0,p0,z0,v0,hz0,hc0,ht0⟩:=field 0 zi5 rfl qil (by omega)
 obtain⟨m1,p1,z1,v1,hz1,hc1,ht1⟩:=field 1 zbw rfl cIn (by omega)
 obtain⟨m2,p2,z2,v2,hz2,hc2,ht2⟩:=field 2 zbw rfl cIn (by omega)
 obtain⟨k1,rfl,_⟩:=zsh uIn ht1
 obtain⟨k2,rfl,_⟩:=zsh uIn ht2
 obtain⟨a,n,nc,ys,rfl,hle,hn,hx,hel⟩:=row_of qiy qk9 (by omega) ht0
 refine⟨a,n,nc,k1,k2,?_,fun i hi=>?_⟩
 ·congr 1
  apply Array.ext_getElem?
  intro j
  by_cases hj:j < 3
  ·match j,hj with
   | 0,_=>exact hc0
   | 1,_=>exact hc1
   | 2,_=>exact hc2
  ·rw [Array.getElem?_eq_none (by omega),Array.getElem?_eq_none (by simp;omega)]
 ·obtain⟨b,o,c,T,fr,m,ps,rfl,hbk,hsz2,ht3⟩:=hel i (by omega)
  refine⟨b,o,c,T,fr,rfl,hbk,hsz2,qbq hsz2 ht3 ?_⟩
  rcases hx with⟨h1,_,_⟩ | ⟨rest,h3⟩
  ·omega
  ·have h3:z0=.slice ys rest:=h3
   have:=zw8 (rest:=rest) (List.getElem_mem (l:=ys) (n:=i) (by omega))
   rw [<-h3] at this;simp only;omega
theorem qao {Q:Program}{t:TypeId}{L:List (TypeId×Nat)}(hs:shapeOf Q t=some L){W:World}{r:Reach}{base:Nat}{v:Value}(h:Value.okWide Q W r base t v):∃ cs:Array Value,v=.agg cs:=by
 unfold shapeOf at hs
 split at hs
 ·rename_i fs hu
  unfold Value.okWide at h
  rw [hu] at h
  obtain⟨cs,hc,_⟩:=h
  exact⟨cs,hc⟩
 ·cases hs
variable {Hh:Type}{enc:TypeId×Value->Hh}{W:World}
theorem open_ints {v:Value}{fuel:Nat}{x:DataW Hh×List MemPlace}(h:DataW.trod enc P W 0 (fun _=>true) true fuel zq6 [v]=some x):∃ (a:Option Addr) (n nc:Nat) (Ks:List Int),v=.slice a n nc/\Cells W.heap a (Ks.flatMap fun n=>[Value.int .i64 n])/\n=Ks.length:=by
 obtain⟨a5,n5,nc5,Ks,rfl,hC5,hn5,hl5,_⟩:=z3e (f:=fun n:Int=>Value.int .i64 n) (Q:=fun _ _=>True) uSi cIn (fun _ _ _ _ _=>trivial) (fun h=>by obtain⟨n,hv,_⟩:=zsh uIn h;exact⟨n,hv,trivial⟩) h
 exact⟨a5,n5,nc5,Ks,rfl,by rw [z1k];exact hC5,hn5⟩
theorem qh1:shapeOf P zc5=some [(zbw,0),(zbw,1),(zi,2)]:=by kernel_rfl
theorem qjn:P.cellsOf zc5=3:=by kernel_rfl
theorem z6p {t:TypeId}(ht:P.underlying t=some (.slice zc5)){v:Value}{fuel:Nat}{x:DataW Hh×List MemPlace}(h:DataW.trod enc P W 0 (fun _=>true) true fuel t [v]=some x):∃ (a:Option Addr) (n nc:Nat),v=.slice a n nc/\zw0 W.heap a n:=by
 obtain⟨a,n,nc,ys,rfl,hle,hn,hx,hel⟩:=row_of ht qjn (by omega) h
 refine⟨a,n,nc,rfl,fun i hi=>?_⟩
 obtain⟨b,o,c,T,fr,m,ps,rfl,hb,hsz,ht2⟩:=hel i (by omega)
 obtain⟨zs,_,_,_,hf⟩:=ztx qh1 ht2
 obtain⟨a0,b0,e0,_,g0⟩:=hf 0 zbw 0 rfl
 obtain⟨a1,b1,e1,_,g1⟩:=hf 1 zbw 1 rfl
 obtain⟨a2,b2,e2,_,g2⟩:=hf 2 zi 2 rfl
 rw [cIn,zt1 (by omega) hsz] at g0 g1
 rw [cSb,zt1 (by omega) hsz] at g2
 obtain⟨k0,h0,_⟩:=zsh uIn g0
 obtain⟨k1,h1,_⟩:=zsh uIn g1
 obtain⟨xa,xl,xc,L,h2,hC,hl,hlc,_⟩:=qeg uSb uU8 cU8 g2
 refine⟨b,o,c,T,fr,k0,k1,(xa,xl,xc),L,rfl,hb,hsz,?_,hC,hl,hlc⟩
 have cell:∀ {j:Nat}{w:Value}(hj:j < 3),c[o+i * 3+j]'(by omega)=w->c[o+i * 3+j]?=some w:=fun hj h=>by rw [<-h];exact Array.getElem?_eq_getElem _
 apply Array.ext_getElem?
 intro j
 rw [Array.getElem?_extract]
 by_cases hj:j < 3
 ·rw [if_pos (by omega)]
  match j,hj with
  | 0,_=>exact cell (j:=0) (by omega) h0
  | 1,_=>exact cell (j:=1) (by omega) h1
  | 2,_=>exact cell (j:=2) (by omega) h2
 ·rw [if_neg (by omega),Array.getElem?_eq_none (by simp;omega)]
end Go.Proofs.YtbmegmbnlajbbaaGreatDoor
