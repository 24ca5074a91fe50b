/- Part 7 of the texts below the card, joined. -/
import Derived.Test.YthaaekcaaecdeaaGreatDoorTUnf
import Derived.Test.YthaaekcaaecdeaaGreatDoorTUnd
import Derived.KernelRfl
import Derived.Test.YthaaekcaaecdeaaGreatDoorTUne
import Derived.Laws.IdiomStrings
import Derived.Laws.AppendOwn
namespace Go.Proofs.YthaaekcaaecdeaaGreatDoor
open Go Go.Fw Go.Proofs Go.Sort
set_option maxHeartbeats 8000000 in
theorem qd5 {w:World}{H:Heap}{b m:Nat}{Th Th':List Fil}{q:Path}{k:Int}{d:List UInt8}{pos size:Int}{F:FuncId}{r:ResR}{M:List Nat}(hw:w.heap=H) (hF:FsW H b m Th) (hbm:b≠m) (hq:okP q) (ho:OpOK ⟨k,x9 q,[],d,pos,size⟩) (hM:∀ c∈M,c=m)
  (hk:k=3/\F=zil\/k=5/\F=zfw\/(k=8\/k=10)/\F=zgd)
  (hI:∀ {w:World}{H:Heap},w.heap=H->FsW H b m Th->qj P F #[.pointer (some ⟨b,0,none⟩),opV ⟨k,x9 q,[],d,pos,size⟩] w fun e w'=>e=.returned (resV r)/\Ext M H w'.heap/\FsW w'.heap b m Th') :
  qj P zhx #[.pointer (some ⟨b,0,none⟩),opV ⟨k,x9 q,[],d,pos,size⟩] w fun e w'=>e=.returned (resV r)/\Ext M H w'.heap/\FsW w'.heap b m Th':=by
 obtain⟨o,hoo⟩:∃ o:OpR,o=⟨k,x9 q,[],d,pos,size⟩:=⟨_,rfl⟩
 have hop:o.p=x9 q:=by rw [hoo]
 have hok:o.k=k:=by rw [hoo]
 rw [<-hoo] at ho hI |-
 rw [<-hok] at hk
 have hmlt:m < H.size:=by obtain⟨M,c,h,_⟩:=hF.2;exact lt_of_get h
 have hblt:=lt_of_get hF.1
 refine zxs ?_
 unfold zqr
 refine ji hw fun w1 hw1=>?_
 refine ji rfl fun w2 hw2=>?_
 have e1:w1.heap.size=H.size+1:=by rw [hw1];simp
 have h3:w2.heap[H.size]?=some (.cells (opC o).toArray jk (0,0)):=by rw [hw2,hw1];exact za1 zk
 have h4:w2.heap[H.size+1]?=some (.cells (zsg res0).toArray zq (0,0)):=by rw [hw2,<-e1,qar];exact zk
 have hx2:Ext [] H w2.heap:=by rw [hw2,hw1];exact (Ext.push _).push_own
 rw [e1]
 refine qp rfl ?_
 refine xw rfl h3 rfl ?_
 refine zh (qd6 rfl ho) ?_
 rintro e w5 ⟨rfl,hx5⟩
 refine⟨_,rfl,?_⟩
 have hcode:(vg o.p).2=0:=by rw [hop,zf1 hq]
 rw [hcode]
 refine qp rfl ?_
 refine qc (s:=.any) _ (qln _ _ _) ?_
 refine jg (s:=.int .i64) (t:=o.k) rfl (hx5.get h3 (by simp)) rfl ?_
 refine joinP_of (fun v w'=>v=.func (.func F) #[.pointer (some ⟨b,0,none⟩)] #[]/\w'=w5) ?_ ?_
 ·rcases hk with⟨h,rfl⟩ | ⟨h,rfl⟩ | ⟨h | h,rfl⟩ <;> rw [h]
  ·refine qp rfl ?_
   refine jf ?_
   refine qp rfl (qp rfl ?_)
   refine jf ?_
   refine jh rfl (jh rfl ?_)
   exact qc (s:=.any) _ (qln _ _ _) ⟨rfl,rfl⟩
  ·refine qp rfl ?_
   refine jf ?_
   refine qp rfl (qp rfl ?_)
   refine jf ?_
   refine qp rfl (qp rfl ?_)
   refine jf ?_
   refine jh rfl (jh rfl ?_)
   exact qc (s:=.any) _ (qln _ _ _) ⟨rfl,rfl⟩
  all_goals
   refine qp rfl ?_
   refine jf ?_
   refine qp rfl (qp rfl ?_)
   refine jf ?_
   refine qp rfl (qp rfl ?_)
   refine jf ?_
   refine qp rfl (qp rfl ?_)
   exact qp rfl ⟨rfl,rfl⟩
 rintro s3 w12 ⟨rfl,rfl⟩
 have h35:=hx5.get h3 (by simp)
 refine jg (s:=.str) (t:=strOf o.p) rfl h35 rfl ?_
 rw [hop]
 refine zh (z5u (x9 q) rfl) ?_
 rintro e w13 ⟨rfl,hx13⟩
 rw [zf1 hq]
 refine⟨(_,_),rfl,?_⟩
 have h313:=hx13.get h35 (by simp)
 refine zb8 rfl h313 (by simp [opC]) fun w14 hw14=>?_
 have hw1413:w14.heap=w13.heap:=by rw [hw14];show w13.heap.setIfInBounds H.size (.cells ((opC o).toArray.setIfInBounds 1 (.string (strOf (x9 q)))) jk (0,0))=_;rw [<-hop,zuo (v:=Value.string (strOf o.p)) rfl,zuo h313]
 have hx214:Ext [] w2.heap w14.heap:=by rw [hw1413];exact hx5.trans hx13
 have h314:w14.heap[H.size]?=some (.cells (opC o).toArray jk (0,0)):=by rw [hw1413];exact h313
 refine jf ?_
 refine jg (s:=.int .i64) (t:=o.k) rfl h314 rfl ?_
 refine qp ho.kind.2 ?_
 refine xw rfl h314 rfl ?_
 refine .func F #[.pointer (some ⟨b,0,none⟩)] #[] rfl ?_
 rw [show (#[Value.pointer (some ⟨b,0,none⟩)]++#[Value.agg (opC o).toArray]++#[]:Array Value)=#[.pointer (some ⟨b,0,none⟩),opV o] by simp [opV]]
 have hx014:=hx2.trans hx214
 refine qj.mono (hI rfl (hF.ext hx014)) ?_
 rintro e w18 ⟨rfl,hx18,hres⟩
 refine⟨_,rfl,?_⟩
 have h418:=hx18.get (hx214.get h4 (by simp)) (by intro hc;have:=hM _ hc;omega)
 refine qaw _ rfl h418 rfl fun w19 hw19=>?_
 refine xw rfl (by rw [hw19];exact qy h418) rfl ?_
 have hx19:Ext [H.size+1] w18.heap w19.heap:=by rw [hw19];exact Ext.set _ (by simp)
 exact⟨rfl,((hx014.mono (by simp)).trans hx18).own hx19 (fun c hc hlt=>by simp at hc;omega),hx19.get hres.1 (by simp;omega),hres.2.ext hx19 (by simp;omega)⟩
def qj0 (Th:List Fil) (g:Fil):List Fil:=Th.map fun f=>if f.path=g.path then g else f
def qjd (Th:List Fil) (p:List UInt8):List Fil:=Th.filter fun f=>decide (f.path≠p)
theorem qi1 {w:World}{H:Heap}{m:Nat}{Th:List Fil}{g:Fil}(hw:w.heap=H) (hm:z4i H m Th) (hf:(zoz Th g.path).isSome=true){K:World->Prop}(hK:∀ w',z4i w'.heap m (qj0 Th g)->Ext [m] H w'.heap->K w') :
  zah P (Instr.mapUpdate qo (.map (some m)) (.string (strOf g.path)) (znl g)) w K:=by
 obtain⟨M,c,h1,h2,h3,h4⟩:=hm
 have hg:(zc6 M g.path).isSome=true:=by rw [zl7 h2 h3 h4];exact hf
 refine zm1 _ (zjn (ev:=znl) z0j uTh hw h1 h2 (k:=g.path) trivial g rfl) ?_
 refine hK _ ⟨zl9 M g.path g c,zqn M g.path c,qy h1,h2.upd trivial g,?_,?_⟩ (Ext.set _ (by simp))
 ·rw [zj0 hg]
  have e:(M.map fun x=>if x.1=g.path then (x.1,g,x.2.2) else x).map (·.2.1)=qj0 (M.map (·.2.1)) g:=by
   unfold qj0
   rw [List.map_map,List.map_map]
   refine List.map_congr_left fun x hx=>?_
   have hk:=h4 x hx
   by_cases he:x.1=g.path
   ·simp only [Function.comp,he,if_true]
    rw [if_pos (by rw [<-hk,he])]
   ·simp only [Function.comp,he,if_false]
    rw [if_neg (by rw [<-hk];exact he)]
  rw [e];exact h3.map _
 ·intro x hx
  rcases zkc hx with⟨h5,h6⟩ | ⟨_,h6⟩
  ·rw [h5,h6]
  ·exact h4 x h6
theorem qj2 {w:World}{H:Heap}{m:Nat}{Th:List Fil}(p:List UInt8) (hw:w.heap=H) (hm:z4i H m Th){K:World->Prop}(hK:∀ w',z4i w'.heap m (qjd Th p)->Ext [m] H w'.heap->K w') :
  za2 P (Builtin.delete_ #[qo,qx] zbk #[.map (some m),.string (strOf p)]) .any w fun (_:Value) w'=>K w':=by
 obtain⟨M,c,h1,h2,h3,h4⟩:=hm
 refine zaf (s:=.any) _ _ (z6m z0j uTh hw h1 h2 (k:=p) trivial) ?_
 refine hK _ ⟨z3j M p,c,qy h1,h2.del _,?_,fun x hx=>h4 x (List.mem_filter.1 hx).1⟩ (Ext.set _ (by simp))
 have e:(z3j M p).map (·.2.1)=qjd (M.map (·.2.1)) p:=by
  unfold z3j qjd
  rw [List.filter_map]
  congr 1
  refine List.filter_congr fun x hx=>?_
  have hk:=h4 x hx
  rw [Bool.eq_iff_iff]
  simp [Function.comp,<-hk]
 rw [e];exact h3.filter _
def qee (L A:List UInt8):Bool:=decide (L.take A.length=A)
theorem qif {w:World}(L A:List UInt8):qj P zdl #[.string (strOf L),.string (strOf A)] w fun e w'=>e=.returned (.bool (qee L A))/\w'=w:=by
 refine zji ?_
 unfold zgq
 have h1:qj P zbg #[.string (strOf L),.string (strOf A)] w fun e w'=>e=.returned (.bool (qee L A))/\w'=w:=by
  refine zd0 ?_
  unfold zci
  refine zy (fun h=>?_) (fun h=>?_)
  ·rw [jy,jy] at h
   refine qc (s:=.str) _ (znt (l:=0) (h:=A.length) zzf .no (.yes rfl) (by omega) (by omega)) ?_
   refine⟨?_,rfl⟩
   have e:((strOf (List.drop 0 (L.take A.length))).toList==(strOf A).toList)=qee L A:=by
    rw [Bool.eq_iff_iff,z3r,List.drop_zero]
    simp [qee]
   rw [e]
  ·rw [jy,jy] at h
   have e:qee L A=false:=by
    unfold qee
    refine decide_eq_false fun h'=>?_
    have:=congrArg List.length h'
    rw [List.length_take] at this
    omega
   rw [e];exact⟨rfl,rfl⟩
 exact zdf (qee L A) h1 ⟨rfl,rfl⟩
theorem qdm {w:World}{H:Heap}{b m:Nat}{Th:List Fil}{L:List UInt8}(hw:w.heap=H) (hF:FsW H b m Th) (hr:L≠[47]) (hlen:L.length<=1000) (hno:∀ f∈Th,qee f.path (L++[47])=false) :
  qj P ziz #[.pointer (some ⟨b,0,none⟩),.string (strOf L)] w fun e w'=>e=.returned (.slice none 0 0)/\Ext [] H w'.heap:=by
 obtain⟨hb,M,c,h1,h2,h3,h4⟩:=hF
 refine zs8 ?_
 unfold znh
 refine joinP_of (fun s w'=>s=strOf (L++[47])/\w'=w) ?_ ?_
 ·refine jh (by rw [Bool.not_eq_true',Bool.eq_false_iff];exact fun h=>hr (zg6.1 h)) ?_
  refine zyk (A:=L) (B:=[47]) (by simp;omega) ⟨rfl,rfl⟩
 rintro _ _ ⟨rfl,rfl⟩
 simp only [jc,zan,Nat.zero_add]
 refine jg (s:=.map) (t:=some m) hw hb rfl ?_
 refine zaf (s:=.ptr) (some ⟨H.size,0,none⟩) _ (zwc uTh hw h1) ?_
 have hmlt:=lt_of_get h1
 refine zb3 (fun k (s:Option Addr×Nat×Nat) W=>∃ (seen:Array Nat) (last:Nat),Ext [] H W.heap/\W.heap[H.size]?=some (.mapIter (some m) c seen last)/\c<=last/\k=(M.filter fun y=>!seen.contains y.2.2).length/\s=(none,0,0)) (M.filter fun y=>!(#[]:Array Nat).contains y.2.2).length ?_ ?_
 ·exact⟨#[],c,.push _,zk,Nat.le_refl _,rfl,rfl⟩
 rintro k s W ⟨seen,last,hxW,hrW,hcl,rfl,rfl⟩ K hK
 have hmW:=hxW.get h1 (by simp)
 rcases z0z (P:=P) (ty:=zbk) rfl hmW hrW (fun x hx=>h2.old x hx) hcl with⟨hall,W1,hnx,hc1,hh1⟩ | ⟨x,hx,hns,W1,hnx,hc1,hh1⟩
 ·refine zaf (s:=.any) _ W1 hnx ?_ hc1
  refine ziv (s:=.bool) false rfl rfl ?_
  refine qp rfl ?_
  exact⟨rfl,by rw [hh1];exact hxW⟩
 ·refine zaf (s:=.any) _ W1 hnx ?_ hc1
  refine ziv (s:=.bool) true rfl rfl ?_
  refine jh rfl ?_
  have hr1:W1.heap[H.size]?=some (.mapIter (some m) c (seen.push x.2.2) c):=by rw [hh1];exact Array.getElem?_setIfInBounds_self_of_lt (lt_of_get hrW)
  have hx01:Ext [H.size] W.heap W1.heap:=by rw [hh1];exact Ext.set _ (by simp)
  have hm1:W1.heap[m]?=some (.map (ents keyS (vl znl M)) c):=hx01.get hmW (by simp;omega)
  have hx1:Ext [] H W1.heap:=hxW.own hx01 (by intro b hb hlt;simp at hb;omega)
  refine joinP_of (fun s' W2=>s'=(none,0,0)/\W2=W1) ?_ ?_
  ·refine qc (s:=.any) _ (zwe (last:=c) rfl hm1 hr1 hx h2) ?_
   refine ziv (s:=.str) (strOf x.1) rfl rfl ?_
   have hf:=h3.mem_iff.1 (List.mem_map.2 ⟨x,hx,rfl⟩)
   have hk:=h4 x hx
   refine zbv (p:=x.1≠[47]) (by rw [Bool.not_eq_true',Bool.eq_false_iff,Ne,zg6]) (fun h=>?_) (fun h=>⟨rfl,rfl⟩)
   refine zdf false (by have:=qif (w:=W1) x.1 (L++[47]);rw [hk,hno _ hf] at this;rw [hk];exact this) ?_
   exact qp rfl ⟨rfl,rfl⟩
  ·rintro _ W2 ⟨rfl,rfl⟩
   exact hK _ _ _ (zuw hx hns) ⟨seen.push x.2.2,c,hx1,hr1,Nat.le_refl _,rfl,rfl⟩
theorem qfq {w:World}{H:Heap}{b m:Nat}{Th:List Fil}{q:Path}{f:Fil}(hw:w.heap=H) (hF:FsW H b m Th) (hq:okP q) (hl:lookA Th q q.length=(f,0)) (hd:f.dir=false) :
  qj P zkk #[.pointer (some ⟨b,0,none⟩),.string (strOf (x9 q))] w fun e w'=>e=.returned (.tuple #[.string (strOf f.data),.int .i64 0])/\Ext [] H w'.heap:=by
 refine zue ?_
 unfold zn4
 refine zh (zz4 hw hF hq) ?_
 rintro e w1 ⟨rfl,hx1⟩
 rw [hl]
 refine⟨(znl f,0),rfl,?_⟩
 refine ji rfl fun w2 hw2=>?_
 have h2:w2.heap[w1.heap.size]?=some (.cells (thC zl8).toArray zo (0,0)):=by rw [hw2,z9c];exact zk
 refine z9f f rfl h2 rfl fun w3 hw3=>?_
 have h3:w3.heap[w1.heap.size]?=some (.cells (thC f).toArray zo (0,0)):=by rw [hw3];exact qy h2
 have hx3:Ext [] H w3.heap:=by rw [hw3,hw2];exact hx1.push_own.set_own (.inl hx1.1)
 refine joinP_of (fun _ w'=>w'=w3) ?_ ?_
 ·refine jh rfl ?_
  refine jg (s:=.bool) (t:=f.dir) rfl h3 rfl ?_
  exact qp hd rfl
 rintro _ w4 rfl
 exact jg (s:=.str) (t:=strOf f.data) rfl h3 rfl ⟨rfl,hx3⟩
theorem qi7 (a b:Int) (w:World):(Builtin.min_ #[zav,zav] zav #[.int .i64 a,.int .i64 b]).run P w=.ok (.int .i64 (min a b)) w:=by
 rw [run_min_int2]
 congr 2
 split <;> omega
theorem qlg (d:ByteArray) (w:World):(Instr.build zo #[(1,.string d)]).run P w=.ok (.agg #[.bool false,.string d]) w:=by kernel_rfl
theorem qm6 (n:Int) (w:World):(Instr.build zq #[(2,.int .i64 n)]).run P w=.ok (resV ⟨0,false,n,[]⟩) w:=by kernel_rfl
theorem qlj (d:ByteArray) (n:Int) (w:World):(Instr.build zq #[(3,.string d),(2,.int .i64 n)]).run P w=.ok (.agg #[.int .i64 0,.bool false,.int .i64 n,.string d,.slice none 0 0]) w:=by kernel_rfl
def wrD (L d:List UInt8) (n:Nat):List UInt8:=L.take n++d++L.drop (min L.length (n+d.length))
set_option maxHeartbeats 8000000 in
theorem qis {w:World}{H:Heap}{b m:Nat}{Th:List Fil}{q:Path}{f:Fil}{d:List UInt8}{n:Nat}(hw:w.heap=H) (hF:FsW H b m Th) (hbm:b≠m) (hq:okP q) (hl:lookA Th q q.length=(f,0)) (hd:f.dir=false) (hp:(zoz Th (x9 q)).isSome=true) (hn:n<=f.data.length) (h2:n+d.length<=1024) (h3:f.data.length<=1024) :
  qj P zil #[.pointer (some ⟨b,0,none⟩),opV ⟨3,x9 q,[],d,n,0⟩] w fun e w'=>e=.returned (resV ⟨0,false,(wrD f.data d n).length,[]⟩)/\Ext [m] H w'.heap/\FsW w'.heap b m (qj0 Th ⟨x9 q,false,wrD f.data d n⟩):=by
 obtain⟨o,hoo⟩:∃ o:OpR,o=⟨3,x9 q,[],d,n,0⟩:=⟨_,rfl⟩
 rw [<-hoo]
 have hok:o.k=3:=by rw [hoo]
 have hop:o.p=x9 q:=by rw [hoo]
 have hod:o.d=d:=by rw [hoo]
 have hopos:o.pos=n:=by rw [hoo]
 have hmlt:m < H.size:=by obtain⟨M,c,h,_⟩:=hF.2;exact lt_of_get h
 have hblt:=lt_of_get hF.1
 refine zvv ?_
 unfold zpr
 refine ji hw fun w1 hw1=>?_
 refine ji rfl fun w2 hw2=>?_
 have e1:w1.heap.size=H.size+1:=by rw [hw1];simp
 have g3:w2.heap[H.size]?=some (.cells (opC o).toArray jk (0,0)):=by rw [hw2,hw1];exact za1 zk
 have g4:w2.heap[H.size+1]?=some (.cells (zsg res0).toArray zq (0,0)):=by rw [hw2,<-e1,qar];exact zk
 have hx2:Ext [] H w2.heap:=by rw [hw2,hw1];exact (Ext.push _).push_own
 rw [e1]
 refine jg (s:=.str) (t:=strOf o.p) rfl g3 rfl ?_
 rw [hop]
 refine zh (qfq rfl (hF.ext hx2) hq hl hd) ?_
 rintro e w3 ⟨rfl,hx3⟩
 refine⟨(strOf f.data,0),rfl,?_⟩
 have g33:=hx3.get g3 (by simp)
 have g43:=hx3.get g4 (by simp)
 refine qp rfl ?_
 refine jg (s:=.int .i64) (t:=o.pos) rfl g33 rfl ?_
 rw [hopos]
 refine zy (fun h=>absurd h (by rw [jy];omega)) (fun _=>?_)
 refine jg (s:=.int .i64) (t:=o.pos) rfl g33 rfl ?_
 refine jg (s:=.str) (t:=strOf o.d) rfl g33 rfl ?_
 rw [hopos,hod]
 refine jr ((n+d.length:Nat):Int) (by rw [jy];omega) (by omega) (by omega) ?_
 refine zy (fun h=>absurd h (by omega)) (fun _=>?_)
 refine joinP_of (fun s w'=>s=strOf (wrD f.data d n)/\w'.heap=w3.heap) ?_ ?_
 ·refine jg (s:=.int .i64) (t:=o.k) rfl g33 rfl ?_
  rw [hok]
  refine jh rfl ?_
  refine vw rfl fun w10 hw10=>?_
  rw [<-hw10] at g33
  refine jg (s:=.int .i64) (t:=o.pos) rfl g33 rfl ?_
  rw [hopos]
  refine qc (s:=.str) _ (znt (l:=0) (h:=n) zzf .no (.yes rfl) (by omega) (by omega)) ?_
  refine jg (s:=.str) (t:=strOf o.d) rfl g33 rfl ?_
  rw [hod,List.drop_zero]
  refine zyk (by rw [List.length_take];omega) ?_
  refine jg (s:=.int .i64) (t:=o.pos) rfl g33 rfl ?_
  refine jg (s:=.str) (t:=strOf o.d) rfl g33 rfl ?_
  rw [hopos,hod]
  refine jr ((n+d.length:Nat):Int) (by rw [jy];omega) (by omega) (by omega) ?_
  refine qc (s:=.int .i64) (min (f.data.length:Int) ((n+d.length:Nat):Int)) (qi7 _ _ _) ?_
  rw [show min (f.data.length:Int) ((n+d.length:Nat):Int)=((min f.data.length (n+d.length):Nat):Int) by omega]
  refine qc (s:=.str) _ (znt (l:=min f.data.length (n+d.length)) (h:=f.data.length) zzf (.yes rfl) .no (by omega) (by omega)) ?_
  rw [List.take_length]
  refine zyk (by rw [List.length_append,List.length_take,List.length_drop];omega) ?_
  exact⟨rfl,hw10⟩
 rintro _ w13 ⟨rfl,hw13⟩
 refine vw rfl fun w14 hw14=>?_
 have hx14:Ext [] w2.heap w14.heap:=by rw [hw14,hw13];exact hx3
 have hx014:=hx2.trans hx14
 have hF14:=hF.ext hx014
 simp only [jc,zan,Nat.zero_add]
 refine jg (s:=.map) (t:=some m) rfl hF14.1 rfl ?_
 refine jg (s:=.str) (t:=strOf o.p) rfl (hx14.get g3 (by simp)) rfl ?_
 refine qc (s:=.any) _ (qlg _ _) ?_
 rw [hop]
 refine qi1 (g:=⟨x9 q,false,wrD f.data d n⟩) rfl hF14.2 hp fun w15 hM15 hx15=>?_
 rw [jy]
 refine qc (s:=.any) _ (qm6 _ _) ?_
 have g415:=hx15.get (hx14.get g4 (by simp)) (by simp;omega)
 refine qaw _ rfl g415 rfl fun w16 hw16=>?_
 refine xw rfl (by rw [hw16];exact qy g415) rfl ?_
 have hx16:Ext [H.size+1] w15.heap w16.heap:=by rw [hw16];exact Ext.set _ (by simp)
 exact⟨rfl,((hx014.mono (by simp)).trans hx15).own hx16 (fun c hc hlt=>by simp at hc;omega),hx16.get (hx15.get hF14.1 (by simpa using hbm)) (by simp;omega),hM15.ext hx16 (by simp;omega)⟩
set_option maxHeartbeats 8000000 in
theorem qaa {w:World}{H:Heap}{b m:Nat}{Th:List Fil}{q:Path}{f:Fil}(hw:w.heap=H) (hF:FsW H b m Th) (hbm:b≠m) (hq:okP q) (hl:lookA Th q q.length=(f,0)) (hd:f.dir=false) (hr:x9 q≠[47]) (hlen:(x9 q).length<=1000) (hno:∀ f∈Th,qee f.path (x9 q++[47])=false) :
  qj P zfw #[.pointer (some ⟨b,0,none⟩),opV ⟨5,x9 q,[],[],0,0⟩] w fun e w'=>e=.returned (resV res0)/\Ext [m] H w'.heap/\FsW w'.heap b m (qjd Th (x9 q)):=by
 obtain⟨o,hoo⟩:∃ o:OpR,o=⟨5,x9 q,[],[],0,0⟩:=⟨_,rfl⟩
 rw [<-hoo]
 have hok:o.k=5:=by rw [hoo]
 have hop:o.p=x9 q:=by rw [hoo]
 have hmlt:m < H.size:=by obtain⟨M,c,h,_⟩:=hF.2;exact lt_of_get h
 have hblt:=lt_of_get hF.1
 refine zrr ?_
 unfold zl2
 refine ji hw fun w1 hw1=>?_
 refine ji rfl fun w2 hw2=>?_
 have e1:w1.heap.size=H.size+1:=by rw [hw1];simp
 have g3:w2.heap[H.size]?=some (.cells (opC o).toArray jk (0,0)):=by rw [hw2,hw1];exact za1 zk
 have g4:w2.heap[H.size+1]?=some (.cells (zsg res0).toArray zq (0,0)):=by rw [hw2,<-e1,qar];exact zk
 have hx2:Ext [] H w2.heap:=by rw [hw2,hw1];exact (Ext.push _).push_own
 rw [e1]
 refine joinP_of (fun _ w'=>w'=w2) ?_ ?_
 ·refine jg (s:=.str) (t:=strOf o.p) rfl g3 rfl ?_
  rw [hop]
  exact zbv (p:=x9 q=[47]) (by rw [zg6]) (fun h=>absurd h hr) (fun _=>rfl)
 rintro _ w5 rfl
 refine jg (s:=.str) (t:=strOf o.p) rfl g3 rfl ?_
 rw [hop]
 refine zh (zz4 rfl (hF.ext hx2) hq) ?_
 rintro e w6 ⟨rfl,hx6⟩
 rw [hl]
 refine⟨(znl f,0),rfl,?_⟩
 refine ji rfl fun w7 hw7=>?_
 have h7:w7.heap[w6.heap.size]?=some (.cells (thC zl8).toArray zo (0,0)):=by rw [hw7,z9c];exact zk
 refine z9f f rfl h7 rfl fun w8 hw8=>?_
 have h8:w8.heap[w6.heap.size]?=some (.cells (thC f).toArray zo (0,0)):=by rw [hw8];exact qy h7
 have hx8:Ext [] w5.heap w8.heap:=by rw [hw8,hw7];exact hx6.push_own.set_own (.inl hx6.1)
 have g38:=hx8.get g3 (by simp)
 refine qp rfl ?_
 refine joinP_of (fun b w'=>b=false/\w'=w8) ?_ ?_
 ·refine jg (s:=.bool) (t:=f.dir) rfl h8 rfl ?_
  exact qp hd ⟨rfl,rfl⟩
 rintro _ w11 ⟨rfl,rfl⟩
 refine qp rfl ?_
 refine joinP_of (fun b w'=>b=false/\w'=w11) ?_ ?_
 ·refine jg (s:=.bool) (t:=f.dir) rfl h8 rfl ?_
  refine jh (by rw [hd];rfl) ?_
  refine jg (s:=.int .i64) (t:=o.k) rfl g38 rfl ?_
  rw [hok];exact⟨rfl,rfl⟩
 rintro _ w14 ⟨rfl,rfl⟩
 refine qp rfl ?_
 refine jg (s:=.str) (t:=strOf o.p) rfl g38 rfl ?_
 rw [hop]
 have hx08:=hx2.trans hx8
 refine zh (qdm rfl (hF.ext hx08) hr hlen hno) ?_
 rintro e w17 ⟨rfl,hx17⟩
 refine⟨(none,0,0),rfl,?_⟩
 refine qp rfl ?_
 refine vw rfl fun w20 hw20=>?_
 have hx20:Ext [] w5.heap w20.heap:=by rw [hw20];exact hx8.trans hx17
 have hx020:=hx2.trans hx20
 have hF20:=hF.ext hx020
 simp only [jc,zan,Nat.zero_add]
 refine jg (s:=.map) (t:=some m) rfl hF20.1 rfl ?_
 refine jg (s:=.str) (t:=strOf o.p) rfl (hx20.get g3 (by simp)) rfl ?_
 rw [hop]
 refine qj2 (x9 q) rfl hF20.2 fun w21 hM21 hx21=>?_
 refine qc (s:=.any) _ (qm3 _) ?_
 have g421:=hx21.get (hx20.get g4 (by simp)) (by simp;omega)
 refine qaw res0 rfl g421 rfl fun w22 hw22=>?_
 refine xw rfl (by rw [hw22];exact qy g421) rfl ?_
 have hx22:Ext [H.size+1] w21.heap w22.heap:=by rw [hw22];exact Ext.set _ (by simp)
 exact⟨rfl,((hx020.mono (by simp)).trans hx21).own hx22 (fun c hc hlt=>by simp at hc;omega),hx22.get (hx21.get hF20.1 (by simpa using hbm)) (by simp;omega),hM21.ext hx22 (by simp;omega)⟩
set_option maxHeartbeats 8000000 in
theorem qgy {w:World}{H:Heap}{b m:Nat}{Th:List Fil}{q:Path}{o:OpR}{g:Fil}{e0:Int}(hw:w.heap=H) (hF:FsW H b m Th) (hq:okP q) (hop:o.p=x9 q) (hl:lookA Th q q.length=(g,e0)) (he:e0≠0) :
  qj P zgd #[.pointer (some ⟨b,0,none⟩),opV o] w fun e w'=>e=.returned (resV (z2j e0))/\Ext [] H w'.heap:=by
 refine znz ?_
 unfold zk5
 refine ji hw fun w1 hw1=>?_
 refine ji rfl fun w2 hw2=>?_
 have e1:w1.heap.size=H.size+1:=by rw [hw1];simp
 have g3:w2.heap[H.size]?=some (.cells (opC o).toArray jk (0,0)):=by rw [hw2,hw1];exact za1 zk
 have g4:w2.heap[H.size+1]?=some (.cells (zsg res0).toArray zq (0,0)):=by rw [hw2,<-e1,qar];exact zk
 have hx2:Ext [] H w2.heap:=by rw [hw2,hw1];exact (Ext.push _).push_own
 have e2:H.size+1 < w2.heap.size:=lt_of_get g4
 rw [e1]
 refine jg (s:=.str) (t:=strOf o.p) rfl g3 rfl ?_
 rw [hop]
 refine zh (zz4 rfl (hF.ext hx2) hq) ?_
 rintro e w6 ⟨rfl,hx6⟩
 rw [hl]
 refine⟨(znl g,e0),rfl,?_⟩
 refine ji rfl fun w7 hw7=>?_
 have h7:w7.heap[w6.heap.size]?=some (.cells (thC zl8).toArray zo (0,0)):=by rw [hw7,z9c];exact zk
 refine z9f g rfl h7 rfl fun w8 hw8=>?_
 have hx8:Ext [] w2.heap w8.heap:=by rw [hw8,hw7];exact hx6.push_own.set_own (.inl hx6.1)
 refine jh (by simpa using he) ?_
 refine zh (qjt e0 rfl) ?_
 rintro e w9 ⟨rfl,hx9⟩
 refine⟨_,rfl,?_⟩
 have g49:=(hx8.trans hx9).get g4 (by simp)
 refine qaw _ rfl g49 rfl fun w10 hw10=>?_
 refine xw rfl (by rw [hw10];exact qy g49) rfl ?_
 exact⟨rfl,by rw [hw10];exact (hx2.trans (hx8.trans hx9)).set_own (.inl (by omega))⟩
set_option maxHeartbeats 8000000 in
theorem qg7 {w:World}{H:Heap}{b m:Nat}{Th:List Fil}{q:Path}{f:Fil}{n:Nat}(hw:w.heap=H) (hF:FsW H b m Th) (hq:okP q) (hl:lookA Th q q.length=(f,0)) (hd:f.dir=false) (hn:f.data.length<=n) (hn2:n<=1024) :
  qj P zgd #[.pointer (some ⟨b,0,none⟩),opV ⟨8,x9 q,[],[],0,n⟩] w fun e w'=>e=.returned (resV ⟨0,false,f.data.length,f.data⟩)/\Ext [] H w'.heap:=by
 obtain⟨o,hoo⟩:∃ o:OpR,o=⟨8,x9 q,[],[],0,n⟩:=⟨_,rfl⟩
 rw [<-hoo]
 have hok:o.k=8:=by rw [hoo]
 have hop:o.p=x9 q:=by rw [hoo]
 have hopos:o.pos=0:=by rw [hoo]
 have hos:o.size=n:=by rw [hoo]
 refine znz ?_
 unfold zk5
 refine ji hw fun w1 hw1=>?_
 refine ji rfl fun w2 hw2=>?_
 have e1:w1.heap.size=H.size+1:=by rw [hw1];simp
 have g3:w2.heap[H.size]?=some (.cells (opC o).toArray jk (0,0)):=by rw [hw2,hw1];exact za1 zk
 have g4:w2.heap[H.size+1]?=some (.cells (zsg res0).toArray zq (0,0)):=by rw [hw2,<-e1,qar];exact zk
 have hx2:Ext [] H w2.heap:=by rw [hw2,hw1];exact (Ext.push _).push_own
 have e2:H.size+1 < w2.heap.size:=lt_of_get g4
 rw [e1]
 refine jg (s:=.str) (t:=strOf o.p) rfl g3 rfl ?_
 rw [hop]
 refine zh (zz4 rfl (hF.ext hx2) hq) ?_
 rintro e w6 ⟨rfl,hx6⟩
 rw [hl]
 refine⟨(znl f,0),rfl,?_⟩
 refine ji rfl fun w7 hw7=>?_
 have h7:w7.heap[w6.heap.size]?=some (.cells (thC zl8).toArray zo (0,0)):=by rw [hw7,z9c];exact zk
 refine z9f f rfl h7 rfl fun w8 hw8=>?_
 have h8:w8.heap[w6.heap.size]?=some (.cells (thC f).toArray zo (0,0)):=by rw [hw8];exact qy h7
 have hx8:Ext [] w2.heap w8.heap:=by rw [hw8,hw7];exact hx6.push_own.set_own (.inl hx6.1)
 have g38:=hx8.get g3 (by simp)
 have g48:=hx8.get g4 (by simp)
 refine qp rfl ?_
 refine joinP_of (fun b w'=>b=false/\w'=w8) ?_ ?_
 ·refine jg (s:=.int .i64) (t:=o.k) rfl g38 rfl ?_
  rw [hok];exact qp rfl ⟨rfl,rfl⟩
 rintro _ w9 ⟨rfl,rfl⟩
 refine qp rfl ?_
 refine jg (s:=.int .i64) (t:=o.k) rfl g38 rfl ?_
 rw [hok]
 refine qp rfl ?_
 refine joinP_of (fun b w'=>b=false/\w'=w9) ?_ ?_
 ·refine jg (s:=.int .i64) (t:=o.k) rfl g38 rfl ?_
  rw [hok];exact qp rfl ⟨rfl,rfl⟩
 rintro _ w10 ⟨rfl,rfl⟩
 refine qp rfl ?_
 refine jg (s:=.int .i64) (t:=o.k) rfl g38 rfl ?_
 rw [hok]
 refine qp rfl ?_
 refine jg (s:=.bool) (t:=f.dir) rfl h8 rfl ?_
 refine qp hd ?_
 refine jg (s:=.int .i64) (t:=o.pos) rfl g38 rfl ?_
 refine jg (s:=.str) (t:=strOf f.data) rfl h8 rfl ?_
 rw [hopos]
 refine zy (fun h=>absurd h (by rw [jy];omega)) (fun _=>?_)
 refine vw rfl fun w11 hw11=>?_
 rw [<-hw11] at h8 g38 g48 hx8
 refine jg (s:=.str) (t:=strOf f.data) rfl h8 rfl ?_
 refine jg (s:=.int .i64) (t:=o.pos) rfl g38 rfl ?_
 refine jg (s:=.str) (t:=strOf f.data) rfl h8 rfl ?_
 refine jg (s:=.int .i64) (t:=o.pos) rfl g38 rfl ?_
 refine jg (s:=.int .i64) (t:=o.size) rfl g38 rfl ?_
 rw [hopos,hos]
 refine jr (n:Int) (by omega) (by omega) (by omega) ?_
 refine qc (s:=.int .i64) (min (f.data.length:Int) (n:Int)) (qi7 _ _ _) ?_
 rw [show min (f.data.length:Int) (n:Int)=(f.data.length:Int) by omega]
 refine qc (s:=.str) _ (znt (l:=0) (h:=f.data.length) zzf (.yes rfl) (.yes rfl) (by omega) (by omega)) ?_
 rw [List.take_length,List.drop_zero]
 refine jg (s:=.str) (t:=strOf f.data) rfl h8 rfl ?_
 rw [jy]
 refine qc (s:=.any) _ (qlj _ _ _) ?_
 refine qaw ⟨0,false,f.data.length,f.data⟩ rfl g48 rfl fun w12 hw12=>?_
 refine xw rfl (by rw [hw12];exact qy g48) rfl ?_
 exact⟨rfl,by rw [hw12];exact (hx2.trans hx8).set_own (.inl (by omega))⟩
def qip (ls:List (List Fil)) (Lu:List Ino) (q:Path) (L:List Ino):List Ino:=
 if zr4 ls Lu q=true then (qbx (zxd q (q.length-1) (z1l L q)) (x9 q) 3 false []).2 else z1l L q
theorem qni (t:ByteArray) (w:World):(Instr.build zl #[(0,.string t),(1,.int .i64 3)]).run P w=.ok (.agg #[.string t,.int .i64 3,.bool false,.string (strOf [])]) w:=by kernel_rfl
set_option maxHeartbeats 4000000 in
theorem qig {H0:Heap}{u p0 m0:Nat}{n0 b0:Int}{ls:List (List Fil)}{Lu:List Ino}(hU:zw6 H0 u p0 m0 n0 b0 ls Lu) (hls:ls.length<=1000000){w:World}{H:Heap}{p m n nc:Nat}{nn bb:Int}{L:List Ino}{a:Option Addr}{q:Path}(hw:w.heap=H) (hx0:Ext [] H0 H) (hp0:H0.size<=p) (hm0:H0.size<=m)
  (hW:Up H p m nn bb L) (hL:Cells H a (strRow q)) (hap:∀ x,a=some x->strRow q≠[]->x.block∉[p,m]) (hn:n=q.length) (hnc:n<=nc) (hq:okP q) :
  qj P zik #[.pointer (some ⟨u,0,none⟩),.pointer (some ⟨p,0,none⟩),.slice a n nc] w fun e w'=>e=.returned (.tuple #[])/\Up w'.heap p m nn bb (qip ls Lu q L)/\Ext [p,m] H w'.heap:=by
 refine zru ?_
 unfold zlq
 refine zh (qio hw hW hL hn hnc hq.fit (by have:=hq.2;omega)) ?_
 rintro e w1 ⟨rfl,hU1,hx1⟩
 refine⟨_,rfl,?_⟩
 have h01:Ext [] H0 w1.heap:=hx0.own hx1 (fun b hb hlt=>by simp at hb;omega)
 have hL1:=hL.ext hx1 hap
 refine zh (qaf rfl (hU.ext h01) hls hL1 hn hnc hq) ?_
 rintro e w2 ⟨rfl,hx2⟩
 refine⟨_,rfl,?_⟩
 refine zbv (p:=zr4 ls Lu q=true) Iff.rfl (fun h=>?_) (fun h=>?_)
 ·refine zh (l:=[]) (qfi rfl (hU1.ext hx2 (by simp) (by simp)) (hL1.ext hx2 (by simp)) hap hn hnc hq) ?_
  rintro e w3 ⟨rfl,hU3,hx3⟩
  refine⟨(),rfl,?_⟩
  have hL3:=(hL1.ext hx2 (by simp)).ext hx3 hap
  refine zh (zgg rfl hL3 hn hnc (by have:=hq.small;omega)) ?_
  rintro e w4 ⟨rfl,hx4⟩
  refine⟨_,rfl,?_⟩
  refine qc (s:=.any) _ (qni _ _) ?_
  refine zh (qf4 (t:=x9 q) (d:=[]) (k:=3) (o:=false) rfl (hU3.ext hx4 (by simp) (by simp))) ?_
  rintro e w5 ⟨rfl,hU5,hx5⟩
  refine⟨_,rfl,rfl,?_,?_⟩
  ·unfold qip;rw [if_pos h];exact hU5
  ·exact (((hx1.trans (hx2.mono (by simp))).trans hx3).trans (hx4.mono (by simp))).trans hx5
 ·refine⟨rfl,?_,hx1.trans (hx2.mono (by simp))⟩
  unfold qip;rw [if_neg h];exact hU1.ext hx2 (by simp) (by simp)
theorem qnu (p:ByteArray) (w:World):(Instr.build jk #[(0,.int .i64 8),(1,.string p),(5,.int .i64 1024)]).run P w=.ok (.agg #[.int .i64 8,.string p,.string (strOf []),.string (strOf []),.int .i64 0,.int .i64 1024]) w:=by kernel_rfl
theorem qmu (r:ResR) (w:World):(Instr.field zq (resV r) 3).run P w=.ok (.string (strOf r.data)) w:=by kernel_rfl
theorem qob (d:ByteArray) (w:World):(Instr.build zn #[(2,.string d)]).run P w=.ok (.agg #[.string (strOf []),.bool false,.string d]) w:=by kernel_rfl
set_option maxHeartbeats 8000000 in
theorem z6x {ls:List (List Fil)}{L L':List Ino}{q:Path}{k:Int}{d:List UInt8}{pos:Int}{Th:List Fil}(hls:ls.length<=1000000) (hq:okP q)
  (hk:(k=3/\∃ f,lookA Th q q.length=(f,0)/\f.dir=false/\f.data.length<=1024/\L'=qkg ls L q false f.data L)\/(k=5/\L'=qip ls L q L)):zsk ls L ⟨k,x9 q,[],d,pos,0⟩ Th L':=by
 intro H0 u p0 m0 n0 b0 hU w H p m b mb nn bb hw hx0 hp0 hm0 hW hF hbm
 have hplt:p < H.size/\m < H.size:=by obtain⟨_,_,h1,h2,_⟩:=hW;exact⟨lt_of_get h1,lt_of_get h2⟩
 refine zod ?_
 unfold zjd
 refine ji hw fun w1 hw1=>?_
 obtain⟨o,hoo⟩:∃ o:OpR,o=⟨k,x9 q,[],d,pos,0⟩:=⟨_,rfl⟩
 have hop:o.p=x9 q:=by rw [hoo]
 have hot:o.to=[]:=by rw [hoo]
 have hok:o.k=k:=by rw [hoo]
 have h6:w1.heap[H.size]?=some (.cells (opC o).toArray jk (0,0)):=by rw [hw1,hoo];exact zk
 have hx1:Ext [] H w1.heap:=by rw [hw1];exact .push _
 refine jg (s:=.str) (t:=strOf o.p) rfl h6 rfl ?_
 rw [hop]
 refine zh (zma (x9 q) rfl) ?_
 rintro e w2 ⟨x,rfl,hX,hx2⟩
 refine⟨(_,_),rfl,?_⟩
 replace hX:Mine w2.heap w1.heap.size qx 1 x (strRow q):=by rw [zf1 hq] at hX;exact hX
 refine jg (s:=.str) (t:=strOf o.to) rfl (hx2.get h6 (by simp)) rfl ?_
 rw [hot]
 refine zh (zma [] rfl) ?_
 rintro e w3 ⟨x2,rfl,_,hx3⟩
 refine⟨(_,_),rfl,?_⟩
 have hx23:=hx2.trans hx3
 have h63:=hx23.get h6 (by simp)
 refine jg (s:=.int .i64) (t:=o.k) rfl h63 rfl ?_
 rw [hok]
 have hX3:=hX.ext hx3 (by simp)
 have hxl:x.2.1=q.length:=by have:=hX.len;rw [zaj] at this;omega
 have hx03:=hx1.trans hx23
 have hge:=jo hX3
 have hap:∀ z,x.1=some z->strRow q≠[]->z.block∉[p,m]:=by
  intro z hz _ hb
  have:=hge z.block (by simp [jw,hz])
  have h1:=hx1.1
  simp at hb
  omega
 refine joinP_of (fun _ w'=>Up w'.heap p m nn bb L'/\Ext [p,m] H w'.heap) ?_ (fun _ w' h=>⟨rfl,h⟩)
 rcases hk with⟨rfl,f,hl,hd,hsm,rfl⟩ | ⟨rfl,rfl⟩
 ·refine jf (qp rfl (qp rfl (jf (jh rfl (jh rfl ?_)))))
  refine jg (s:=.str) (t:=strOf o.p) rfl h63 rfl ?_
  rw [hop]
  refine qc (s:=.any) _ (qnu _ _) ?_
  refine zh (qd5 (M:=[]) (Th':=Th) (k:=8) (d:=[]) (pos:=0) (size:=1024) (r:=⟨0,false,f.data.length,f.data⟩) rfl (hF.ext hx03) hbm hq ⟨⟨rfl,.inr (.inr ⟨rfl,rfl⟩)⟩,by simp,by simp,by simp,by simp,by simp⟩ (by simp) (.inr (.inr ⟨.inl rfl,rfl⟩)) ?_) ?_
  ·intro W G hW hF'
   refine (qg7 (n:=1024) hW hF' hq hl hd hsm (by omega)).mono ?_
   rintro e W' ⟨he,hx⟩
   exact⟨he,hx,hF'.ext hx⟩
  rintro e w7 ⟨rfl,hx7,_⟩
  refine⟨_,rfl,?_⟩
  refine qc (s:=.str) _ (qmu _ _) ?_
  refine qc (s:=.any) _ (qob _ _) ?_
  have hx07:=hx03.trans hx7
  refine zh (l:=[]) (qja (f:=⟨[],false,f.data⟩) hU hls rfl (hx0.trans hx07) hp0 hm0 (hW.ext hx07 (by simp) (by simp)) (hX3.ext hx7 (by simp)).cells hap hxl (zm4 hX3) hq) ?_
  rintro e w8 ⟨rfl,hU8,hx8⟩
  exact⟨(),rfl,hU8,(hx07.mono (by simp)).trans hx8⟩
 ·refine jf (qp rfl (qp rfl (jf (qp rfl (qp rfl (jf (jh rfl (jh rfl ?_))))))))
  refine zh (l:=[]) (qig hU hls rfl (hx0.trans hx03) hp0 hm0 (hW.ext hx03 (by simp) (by simp)) hX3.cells hap hxl (zm4 hX3) hq) ?_
  rintro e w5 ⟨rfl,hU5,hx5⟩
  exact⟨(),rfl,hU5,(hx03.mono (by simp)).trans hx5⟩
noncomputable abbrev z7f (t:TypeId):Value:=.pointer (some ⟨P.globals.size,t,none⟩)
noncomputable abbrev z5w (t:TypeId):Value:=.iface za9 (.agg #[z7f t])
noncomputable abbrev rvV (t:TypeId) (b f:Nat):Value:=.agg #[z7f t,.pointer (some ⟨b,0,none⟩),.int .u64 (f:Int)]
def z2q (H:Heap):Prop:=∃ T fr,H[0]?=some (.cells #[z5w zfo] T fr)
theorem z2q.ext {M:List Nat}{H H':Heap}(h:z2q H) (hx:Ext M H H') (h0:0∉M):z2q H':=by
 obtain⟨T,fr,h⟩:=h
 exact⟨T,fr,hx.get h h0⟩
theorem qms (a:Addr) (w:World):(Extern.ReflectliteValue.unpack (.iface jv (.pointer (some a)))).run P w=.ok (rvV jv w.heap.size 150) { w with heap:=w.heap.push (.cells #[.pointer (some a)] jv) }:=by kernel_rfl
theorem qn0 (e:Int) (w:World):(Extern.ReflectliteValue.unpack (qbj e)).run P w=.ok (rvV jd w.heap.size 130) { w with heap:=w.heap.push (.cells #[.int .i64 e] jd) }:=by kernel_rfl
theorem qmn (b:Nat) (w:World):(Extern.ReflectliteValue.methodAny (Extern.ReflectliteValue.valueError "reflectlite.Value.Type" 0) (fun t _ _ _=>Extern.ReflectliteType.toType t) #[rvV jv b 150]).run P w=.ok (z5w jv) w:=by kernel_rfl
theorem qh0 (t:TypeId) (w:World):(Go.method (P.types.size+Made.depth) za9 (.agg #[z7f t]) "Kind").run P w=.ok (zg2,z7f t) w:=by kernel_rfl
theorem qks (v:Value) (w:World):(Go.method (P.types.size+Made.depth) za9 v "Elem").run P w=.ok (zd4,v) w:=by kernel_rfl
theorem qk5 (v:Value) (w:World):(Go.method (P.types.size+Made.depth) za9 v "Implements").run P w=.ok (zcy,v) w:=by kernel_rfl
theorem qiv (v:Value) (w:World):(Go.method (P.types.size+Made.depth) za9 v "AssignableTo").run P w=.ok (zcl,v) w:=by kernel_rfl
theorem qjl (w:World):(Extern.ReflectliteType.abiMethod (fun t=>do pure (.int .u8 (<-Extern.Rtype.kind t))) (#[z7f jv]++#[])).run P w=.ok (.int .u8 22) w:=by kernel_rfl
theorem qih (w:World):(Extern.ReflectliteType.abiMethod (fun t=>do pure (.int .u8 (<-Extern.Rtype.kind t))) (#[z7f jd]++#[])).run P w=.ok (.int .u8 2) w:=by kernel_rfl
theorem qld (w:World):(Extern.ReflectliteType.method Extern.ReflectliteType.elem (#[.agg #[z7f jv]]++#[])).run P w=.ok (z5w jd) w:=by kernel_rfl
theorem qk1 (w:World):(Extern.ReflectliteType.relation "Implements" Extern.ReflectliteType.implements_ (#[.agg #[z7f jd]]++#[z5w zfo])).run P w=.ok (.bool true) w:=by kernel_rfl
theorem qn2 (w:World):(Extern.ReflectliteType.relation "AssignableTo" Extern.ReflectliteType.assignableTo (#[.agg #[z7f zbu]]++#[z5w jd])).run P w=.ok (.bool false) w:=by kernel_rfl
theorem qnb (w:World):(Extern.ReflectliteType.relation "AssignableTo" Extern.ReflectliteType.assignableTo (#[.agg #[z7f jd]]++#[z5w jd])).run P w=.ok (.bool true) w:=by kernel_rfl
theorem qlq (b:Nat) (w:World):(Extern.ReflectliteType.typeOf #[qhl b]).run P w=.ok (z5w zbu) w:=by kernel_rfl
theorem qnp (v:Value) (xT:TypeId) (w:World):(Instr.typeAssert (.iface zbu v) xT zhk true).run P w=.ok (.tuple #[.nilIface,.bool false]) w:=
 run_typeAssert_lacksB (want:=#[("As",281)]) (by kernel_rfl) (by kernel_rfl) (by kernel_rfl) v xT w
theorem qfs (t:TypeId) (v:Value){x:Operand}{w:World}:(eqM .eql qgs x (.const Value.nilIface) (.iface t v) Value.nilIface).run P w=.ok (.bool false) w:=by kernel_rfl
theorem qmk (b:Nat) (w:World):(Instr.makeInterface jv (.pointer (some ⟨b,0,none⟩))).run P w=.ok (.iface jv (.pointer (some ⟨b,0,none⟩))) w:=by kernel_rfl
theorem qla:zc P jd=#[.int .i64 0]:=by kernel_rfl
theorem ldV {w:World}{H:Heap}{b:Nat}{t:TypeId}{v:Value}{T:TypeId}{fr:Nat×Nat}(hi:∃ d,P.underlying t=some d) (hn:zzd P t=none) (hw:w.heap=H) (hb:H[b]?=some (.cells #[v] T fr)):(loadVar t ⟨b,0,none⟩).run P w=.ok v w:=by
 have h:=z5b (a:=⟨b,0,none⟩) hi hn (show w.cell? ⟨b,0,none⟩=some v by rw [zrf hw hb];rfl)
 simpa [Instr.loadAt,Instr.sureAddr] using h
theorem qmb {w:World}{H:Heap}{b:Nat}{v:Value}{T:TypeId}{fr:Nat×Nat}(hw:w.heap=H) (hb:H[b]?=some (.cells #[v] T fr)):(loadVar jv ⟨b,0,none⟩).run P w=.ok v w:=ldV ⟨_,show P.underlying jv=some (.pointer jd) by kernel_rfl⟩ (by kernel_rfl) hw hb
theorem qny {w:World}{H:Heap}{b:Nat}{v:Value}{T:TypeId}{fr:Nat×Nat}(hw:w.heap=H) (hb:H[b]?=some (.cells #[v] T fr)):(loadVar jd ⟨b,0,none⟩).run P w=.ok v w:=ldV ⟨_,uEn⟩ (by kernel_rfl) hw hb
theorem ql8 (z:Sem Value) (f:TypeId->Addr->Nat->Nat->Sem Value) (b:Nat) (w:World):(Extern.ReflectliteValue.method z f #[rvV jv b 150]).run P w=(f jv ⟨b,0,none⟩ 150 22).run P w:=by kernel_rfl
theorem qn6 {w:World}{H:Heap}{b:Nat}{a:Addr}{T:TypeId}{fr:Nat×Nat}(hw:w.heap=H) (hb:H[b]?=some (.cells #[.pointer (some a)] T fr)):(Extern.ReflectliteValue.method (Extern.ReflectliteValue.valueError "reflectlite.Value.IsNil" 0) Extern.ReflectliteValue.isNil #[rvV jv b 150]).run P w=.ok (.bool false) w:=by
 rw [ql8]
 unfold Extern.ReflectliteValue.isNil
 simp [qmb hw hb]
theorem elE (w:World):(Extern.Rtype.elem? jv).run P w=.ok (some jd) w:=by kernel_rfl
theorem mkE (b:Nat) (w:World):(Extern.ReflectliteValue.mk jd ⟨b,0,none⟩ 256).run P w=.ok (rvV jd b 386) w:=by kernel_rfl
theorem qi5 {w:World}{H:Heap}{b a:Nat}{T:TypeId}{fr:Nat×Nat}(hw:w.heap=H) (hb:H[b]?=some (.cells #[.pointer (some ⟨a,0,none⟩)] T fr)):(Extern.ReflectliteValue.method (Extern.ReflectliteValue.valueError "reflectlite.Value.Elem" 0) Extern.ReflectliteValue.elem #[rvV jv b 150]).run P w=.ok (rvV jd a 386) w:=by
 rw [ql8]
 unfold Extern.ReflectliteValue.elem
 simp [qmb hw hb,elE,Extern.ReflectliteValue.flagAddr,mkE]
theorem qfa (b f:Nat) (hf:f=130\/f=386) (w:World):(Extern.ReflectliteValue.parts (rvV jd b f)).run P w=.ok (some (jd,⟨b,0,none⟩,f)) w:=by
 rcases hf with rfl | rfl <;> kernel_rfl
theorem qn7 (w:World):(Extern.Rtype.directlyAssignable jd jd).run P w=.ok true w:=by kernel_rfl
theorem qki:P.cellsOf jd=1:=by kernel_rfl
theorem qn1 {w:World}{H:Heap}{a b:Nat}{e e0:Int}{T T':TypeId}{fr:Nat×Nat}(hw:w.heap=H) (ha:H[a]?=some (.cells #[.int .i64 e0] T (0,0))) (hb:H[b]?=some (.cells #[.int .i64 e] T' fr)) :
  ∃ w',(Extern.ReflectliteValue.set #[rvV jd a 386,rvV jd b 130]).run P w=.ok (.tuple #[]) w'/\w'.heap=H.setIfInBounds a (.cells #[.int .i64 e] T (0,0))/\Go.Fw.Calm w w':=by
 have hs:zah P (storeVar jd ⟨a,0,none⟩ (.int .i64 e)) w fun w'=>w'.heap=H.setIfInBounds a (.cells #[.int .i64 e] T (0,0)):=
  zbe (v:=.int .i64 e) qki (by simp [Value.cells]) (by intro v hv;simp [Value.cells] at hv;subst hv;rfl) hw ha (by simp [Value.cells]) fun w' hw'=>by rw [hw'];rfl
 obtain⟨w',h1,h2,h3⟩:=hs
 refine⟨w',?_,h3,h2⟩
 rw [show Extern.ReflectliteValue.set #[rvV jd a 386,rvV jd b 130]=(Extern.ReflectliteValue.parts (rvV jd a 386) >>= fun _=>_) from rfl]
 simp only [Sem.run_bind,qfa a 386 (.inr rfl),Result.andThen_ok]
 erw [qfa b 130 (.inl rfl)]
 simp [Extern.ReflectliteValue.flagAddr,qny hw hb,qn7,h1]
theorem z2o {t:TypeId}{v v':Value}{name:String}{f:FuncId}{args:Array Value}{w:World}(hm:(Go.method (P.types.size+Made.depth) t v name).run P w=.ok (f,v') w):(callMethod (.iface t v) name args).run P w=(callFunc f (#[v']++args)).run P w:=by
 simp only [callMethod,Sem.run_bind]
 rw [show Sem.run P program w=.ok P w from rfl]
 simp only [Result.andThen_ok]
 rw [hm]
 simp only [Result.andThen_ok]
theorem qmq:∃ c,zc P zal=c/\c.size=3:=⟨_,rfl,by kernel_rfl⟩
theorem qnq:P.cellsOf zal=3:=by kernel_rfl
theorem qk2 {w:World}{H:Heap}(t:TypeId) (b f:Nat) (hw:w.heap=H){K:Nat->World->Prop}(hK:∀ w',w'.heap=H.push (.cells #[z7f t,.pointer (some ⟨b,0,none⟩),.int .u64 (f:Int)] zal (0,0))->K H.size w') :
  zat (zc P zal) zal w fun b' w1=>zah P (storeVar zal (⟨b',0,none⟩:Addr) (rvV t b f)) w1 fun w2=>K b' w2:=
 zxp (v:=rvV t b f) qnq (by obtain⟨c,h1,h2⟩:=qmq;rw [h1];exact h2) (by simp [Value.cells]) (by intro v hv;simp [Value.cells] at hv;rcases hv with rfl | rfl | rfl <;> rfl) hw hK
set_option maxHeartbeats 4000000 in
theorem qkq {w:World}{H:Heap}{b a vb:Nat}{o p:Value}{e:Int}{fr:Nat×Nat}(hw:w.heap=H) (hb:H[b]?=some (.cells #[o,p,qbj e] zer (0,0))) (ha:H[a]?=some (.cells #[.int .i64 0] jd (0,0))) (hv:H[vb]?=some (.cells #[.pointer (some ⟨a,0,none⟩)] jv fr)) (x:Value) :
  qj P zme #[qhl b,x,rvV jv vb 150,z5w jd] w fun r w'=>r=.returned (.bool true)/\Ext [a] H w'.heap/\w'.heap[a]?=some (.cells #[.int .i64 e] jd (0,0)):=by
 have hal:=lt_of_get ha
 refine z2a ?_
 unfold zwz
 refine ji hw fun w1 hw1=>?_
 have h6:w1.heap[H.size]?=some (.cells #[z7f jv,.pointer (some ⟨vb,0,none⟩),.int .u64 150] zal (0,0)):=by rw [hw1];exact zk
 have hx1:Ext [] H w1.heap:=by rw [hw1];exact .push _
 refine zb3 (fun n s w'=>w'.heap=w1.heap/\((n=1/\s=qhl b)\/(n=0/\s=qbj e))) 1 ⟨rfl,.inl ⟨rfl,rfl⟩⟩ ?_
 rintro n s W ⟨hW,⟨rfl,rfl⟩ | ⟨rfl,rfl⟩⟩ K hK
 ·refine jf ?_
  refine zj9 (l:=[.any]) (z5w zbu) (by rw [ze7 (e:=Extern.ReflectliteType.typeOf) (by kernel_rfl),qlq];rfl) ?_
  refine .own (.bool false) W ?_ (.refl _) ⟨false,rfl,?_⟩
  ·rw [zq8 (qiv _ _),zcm (e:=Extern.ReflectliteType.relation "AssignableTo" Extern.ReflectliteType.assignableTo) (by kernel_rfl),qn2];rfl
  refine qp rfl ?_
  refine jf ?_
  refine zct (l:=[.any,.bool]) (.nilIface,false) (qnp _ _ _) ?_
  refine qp rfl ?_
  refine qc (s:=.any) _ (z9j _ _ _) ?_
  refine⟨_,true,rfl,rfl,?_⟩
  refine⟨_,qhl b,rfl,rfl,?_⟩
  refine jh rfl ?_
  have hbW:w1.heap[b]?=some (.cells #[o,p,qbj e] zer (0,0)):=hx1.get hb (by simp)
  refine .go zeg #[.pointer (some ⟨b,0,none⟩)] W ?_ (.refl _) ?_
  ·rw [zq8 (qgi _ _)]
   exact (z5m hW hbW).1
  ·refine (z5m hW hbW).2.mono ?_
   rintro r w2 ⟨⟨rfl,rfl⟩,hc⟩
   refine⟨⟨qbj e,rfl,?_⟩,hc⟩
   refine qc (s:=.bool) _ (eq_nil _ _) ?_
   refine qp rfl ?_
   exact hK 0 _ _ (by omega) ⟨hW,.inr ⟨rfl,rfl⟩⟩
 ·refine jf ?_
  refine zj9 (l:=[.any]) (z5w jd) (by rw [ze7 (e:=Extern.ReflectliteType.typeOf) (by kernel_rfl),qnv];rfl) ?_
  refine .own (.bool true) W ?_ (.refl _) ⟨true,rfl,?_⟩
  ·rw [zq8 (qiv _ _),zcm (e:=Extern.ReflectliteType.relation "AssignableTo" Extern.ReflectliteType.assignableTo) (by kernel_rfl),qnb];rfl
  refine jh rfl ?_
  refine xw hW h6 rfl ?_
  have hvW:w1.heap[vb]?=some (.cells #[.pointer (some ⟨a,0,none⟩)] jv fr):=hx1.get hv (by simp)
  refine zj9 (l:=[.any]) (rvV jd a 386) (by
   rw [zhz (e:=Extern.ReflectliteValue.method (Extern.ReflectliteValue.valueError "reflectlite.Value.Elem" 0) Extern.ReflectliteValue.elem) (by kernel_rfl)]
   show (Sem.run P (Extern.ReflectliteValue.method (Extern.ReflectliteValue.valueError "reflectlite.Value.Elem" 0) Extern.ReflectliteValue.elem #[rvV jv vb 150]) W).andThen _=_
   rw [qi5 hW hvW];rfl) ?_
  refine zl1 (l:=[.any]) (rvV jd W.heap.size 130) { W with heap:=W.heap.push (.cells #[.int .i64 e] jd) } (by
   rw [zem (e:=fun args=>Extern.ReflectliteValue.unpack (args.getD 0 (.tuple #[]))) (by kernel_rfl)]
   show ((Extern.ReflectliteValue.unpack (qbj e)).run P W).andThen _=_
   rw [qn0];rfl) ⟨rfl,rfl,rfl,by simp⟩ ?_
  have haW:(W.heap.push (.cells #[.int .i64 e] jd))[a]?=some (.cells #[.int .i64 0] jd (0,0)):=za1 (by rw [hW];exact hx1.get ha (by simp))
  obtain⟨w',hr,hh,hc⟩:=qn1 (w:={ W with heap:=W.heap.push (.cells #[.int .i64 e] jd) }) (b:=W.heap.size) rfl haW zk
  refine zl1 (l:=[]) (tup:=true) () w' (by
   rw [zh1 (e:=Extern.ReflectliteValue.set) (by kernel_rfl),hr];rfl) hc ?_
  have hxp:Ext [] H (W.heap.push (.cells #[.int .i64 e] jd)):=by rw [hW];exact hx1.push_own
  refine⟨rfl,?_,by rw [hh];exact qy haW⟩
  rw [hh]
  exact (hxp.mono (by simp)).trans (Ext.set _ (by simp))
set_option maxHeartbeats 4000000 in
theorem z9k {w:World}{H:Heap}{v:Value}{e:Int}(hw:w.heap=H) (hT:z2q H) (hv:qf9 H v e) (he:e≠0):qj P zkx #[v] w fun r w'=>r=.returned (.int .i64 e)/\Ext [] H w'.heap:=by
 obtain⟨T0,f0,h0⟩:=hT
 rcases hv with⟨h,_⟩ | ⟨_,b,o,p,rfl,hb⟩
 ·exact absurd h he
 refine zz5 ?_
 unfold zt2
 refine ji hw fun w1 hw1=>?_
 have ha:w1.heap[H.size]?=some (.cells #[.int .i64 0] jd (0,0)):=by rw [hw1,qla];exact zk
 have hx1:Ext [] H w1.heap:=by rw [hw1];exact .push _
 refine qc (s:=.any) _ (qmk _ _) ?_
 refine zh (l:=[.bool]) (R:=fun r w'=>r=.returned (.bool true)/\Ext [H.size] w1.heap w'.heap/\w'.heap[H.size]?=some (.cells #[.int .i64 e] jd (0,0))) ?_ ?_
 ·refine z14 ?_
  unfold zvn
  refine qc (s:=.bool) _ (eq_nil _ _) ?_
  refine qp rfl ?_
  refine jf ?_
  refine qc (s:=.bool) _ (qfs _ _) ?_
  refine qp rfl ?_
  refine zl1 (l:=[.any]) (rvV jv w1.heap.size 150) { w1 with heap:=w1.heap.push (.cells #[.pointer (some ⟨H.size,0,none⟩)] jv) } (by
   rw [zem (e:=fun args=>Extern.ReflectliteValue.unpack (args.getD 0 (.tuple #[]))) (by kernel_rfl)]
   show ((Extern.ReflectliteValue.unpack (.iface jv (.pointer (some ⟨H.size,0,none⟩)))).run P w1).andThen _=_
   rw [qms];rfl) ⟨rfl,rfl,rfl,by simp⟩ ?_
  refine qk2 jv w1.heap.size 150 rfl fun w4 hw4=>?_
  have h5:w4.heap[(w1.heap.push (.cells #[.pointer (some ⟨H.size,0,none⟩)] jv)).size]?=some (.cells #[z7f jv,.pointer (some ⟨w1.heap.size,0,none⟩),.int .u64 150] zal (0,0)):=by rw [hw4];exact zk
  have hx4:Ext [] w1.heap w4.heap:=by rw [hw4];exact (Ext.push _).push_own
  have hv4:w4.heap[w1.heap.size]?=some (.cells #[.pointer (some ⟨H.size,0,none⟩)] jv (0,0)):=by rw [hw4];exact za1 zk
  have ha4:=hx4.get ha (by simp)
  have h04:=(hx1.trans hx4).get h0 (by simp)
  refine xw rfl h5 rfl ?_
  refine zj9 (l:=[.any]) (z5w jv) (by
   rw [zhl (e:=Extern.ReflectliteValue.methodAny (Extern.ReflectliteValue.valueError "reflectlite.Value.Type" 0) fun t _ _ _=>Extern.ReflectliteType.toType t) (by kernel_rfl)]
   show (Sem.run P (Extern.ReflectliteValue.methodAny (Extern.ReflectliteValue.valueError "reflectlite.Value.Type" 0) (fun t _ _ _=>Extern.ReflectliteType.toType t) #[rvV jv w1.heap.size 150]) w4).andThen _=_
   rw [qmn];rfl) ?_
  refine jf ?_
  refine .own (.int .u8 22) w4 ?_ (.refl _) ⟨22,rfl,?_⟩
  ·rw [z2o (qh0 _ _),zg4 (e:=Extern.ReflectliteType.abiMethod fun t=>do pure (.int .u8 (<-Extern.Rtype.kind t))) (by kernel_rfl),qjl];rfl
  refine qp rfl ?_
  refine xw rfl h5 rfl ?_
  refine zj9 (l:=[.bool]) false (by
   rw [zg8 (e:=Extern.ReflectliteValue.method (Extern.ReflectliteValue.valueError "reflectlite.Value.IsNil" 0) Extern.ReflectliteValue.isNil) (by kernel_rfl)]
   show (Sem.run P (Extern.ReflectliteValue.method (Extern.ReflectliteValue.valueError "reflectlite.Value.IsNil" 0) Extern.ReflectliteValue.isNil #[rvV jv w1.heap.size 150]) w4).andThen _=_
   rw [qn6 (w:=w4) rfl hv4];rfl) ?_
  refine qp rfl ?_
  refine .own (z5w jd) w4 ?_ (.refl _) ⟨z5w jd,rfl,?_⟩
  ·rw [zq8 (qks _ _),zhd (e:=Extern.ReflectliteType.method Extern.ReflectliteType.elem) (by kernel_rfl),qld];rfl
  refine jf ?_
  refine .own (.int .u8 2) w4 ?_ (.refl _) ⟨2,rfl,?_⟩
  ·rw [z2o (qh0 _ _),zg4 (e:=Extern.ReflectliteType.abiMethod fun t=>do pure (.int .u8 (<-Extern.Rtype.kind t))) (by kernel_rfl),qih];rfl
  refine jh rfl ?_
  refine jg (s:=.any) (t:=z5w zfo) rfl h04 rfl ?_
  refine .own (.bool true) w4 ?_ (.refl _) ⟨true,rfl,?_⟩
  ·rw [zq8 (qk5 _ _),zfm (e:=Extern.ReflectliteType.relation "Implements" Extern.ReflectliteType.implements_) (by kernel_rfl),qk1];rfl
  refine qp rfl ?_
  refine xw rfl h5 rfl ?_
  refine zh (qkq rfl ((hx1.trans hx4).get hb (by simp)) ha4 hv4 _) ?_
  rintro r w13 ⟨rfl,hx13,ha13⟩
  exact⟨true,rfl,rfl,(hx4.mono (by simp)).trans hx13,ha13⟩
 ·rintro r w2 ⟨rfl,hx2,ha2⟩
  refine⟨true,rfl,?_⟩
  refine jh rfl ?_
  exact jg (s:=.int .i64) (t:=e) rfl ha2 rfl ⟨rfl,hx1.own hx2 (fun c hc hlt=>by simp at hc;omega)⟩
theorem qgz {H H':Heap}{B:Nat}{x:Option Addr×Nat×Nat}{vs:List Value}{T:TypeId}{sz:Nat}{H0:Heap}(h:Ext [] H0 H) (hm:Mine H B T sz x vs) (hB:H0.size<=B) (hx:Ext (jw x) H H'):Ext [] H0 H':=
 h.own hx fun c hc hlt=>by have:=jo hm c hc;omega
end Go.Proofs.YthaaekcaaecdeaaGreatDoor
namespace Go.Fw.Sha
open Go.Fw
def rotr (x:BitVec 32) (n:Nat):BitVec 32:=x >>> n ||| x <<< (32-n)
def kc:List Nat:=[1116352408,1899447441,3049323471,3921009573,961987163,1508970993,2453635748,2870763221,3624381080,310598401,607225278,1426881987,1925078388,2162078206,2614888103,3248222580,3835390401,4022224774,264347078,604807628,770255983,1249150122,1555081692,1996064986,2554220882,2821834349,2952996808,3210313671,3336571891,3584528711,113926993,338241895,666307205,773529912,1294757372,1396182291,1695183700,1986661051,2177026350,2456956037,2730485921,2820302411,3259730800,3345764771,3516065817,3600352804,4094571909,275423344,430227734,506948616,659060556,883997877,958139571,1322822218,1537002063,1747873779,1955562222,2024104815,2227730452,2361852424,2428436474,2756734187,3204031479,3329325298]
def K (t:Nat):BitVec 32:=BitVec.ofNat 32 (kc.getD t 0)
def ic:List Nat:=[1779033703,3144134277,1013904242,2773480762,1359893119,2600822924,528734635,1541459225]
def init (t:Nat):BitVec 32:=BitVec.ofNat 32 (ic.getD t 0)
def W (m:Nat->BitVec 32) (t:Nat):BitVec 32:=
 if t < 16 then m t
 else (rotr (W m (t-2)) 17 ^^^ rotr (W m (t-2)) 19 ^^^ W m (t-2) >>> 10)+W m (t-7)+(rotr (W m (t-15)) 7 ^^^ rotr (W m (t-15)) 18 ^^^ W m (t-15) >>> 3)+W m (t-16)
termination_by t
def one (s:Nat->BitVec 32) (k w:BitVec 32):BitVec 32:=
 s 7+(rotr (s 4) 6 ^^^ rotr (s 4) 11 ^^^ rotr (s 4) 25)+(s 4 &&& s 5 ^^^ ~~~ s 4 &&& s 6)+k+w
def two (s:Nat->BitVec 32):BitVec 32:=
 (rotr (s 0) 2 ^^^ rotr (s 0) 13 ^^^ rotr (s 0) 22)+(s 0 &&& s 1 ^^^ s 0 &&& s 2 ^^^ s 1 &&& s 2)
def step (s:Nat->BitVec 32) (k w:BitVec 32):Nat->BitVec 32
 | 0=>one s k w+two s
 | 4=>s 3+one s k w
 | i+1=>s i
def rnd (w s:Nat->BitVec 32):Nat->Nat->BitVec 32
 | 0=>s
 | t+1=>step (rnd w s t) (K t) (w t)
def comp (s m:Nat->BitVec 32):Nat->BitVec 32:=fun i=>s i+rnd (W m) s 64 i
def word (f:Nat->UInt8) (t:Nat):BitVec 32:=b32 (f (4 * t)) <<< 24 ||| b32 (f (4 * t+1)) <<< 16 ||| b32 (f (4 * t+2)) <<< 8 ||| b32 (f (4 * t+3))
def nth (l:List UInt8) (i:Nat):UInt8:=l.getD i 0
def blocks (l:List UInt8):Nat->Nat->BitVec 32
 | 0=>init
 | n+1=>comp (blocks l n) (word fun j=>nth l (64 * n+j))
def be8 (n:Nat):List UInt8:=(List.range 8).map fun i=>UInt8.ofNat (n / 2 ^ (56-8 * i))
def pad (l:List UInt8):List UInt8:=l++[128]++List.replicate ((119-l.length % 64) % 64) 0++be8 (l.length * 8)
def out (s:Nat->BitVec 32) (i:Nat):UInt8:=lo8 (s (i / 4) >>> (24-8 * (i % 4)))
def sum (l:List UInt8):List UInt8:=(List.range 32).map (out (blocks (pad l) ((pad l).length / 64)))
theorem W_lt {m:Nat->BitVec 32}{t:Nat}(h:t < 16):W m t=m t:=by rw [W,if_pos h]
theorem W_ge {m:Nat->BitVec 32}{t:Nat}(h:16<=t):W m t=(rotr (W m (t-2)) 17 ^^^ rotr (W m (t-2)) 19 ^^^ W m (t-2) >>> 10)+W m (t-7)+(rotr (W m (t-15)) 7 ^^^ rotr (W m (t-15)) 18 ^^^ W m (t-15) >>> 3)+W m (t-16):=by
 rw [W,if_neg (by omega)]
theorem W_congr {m m':Nat->BitVec 32}(h:∀ t,t < 16->m t=m' t) (t:Nat):W m t=W m' t:=by
 induction t using Nat.strongRecOn with
 | _ t ih=>
  by_cases ht:t < 16
  ·rw [W_lt ht,W_lt ht,h t ht]
  ·rw [W_ge (m:=m) (t:=t) (by omega),W_ge (m:=m') (t:=t) (by omega),ih (t-2) (by omega),ih (t-7) (by omega),ih (t-15) (by omega),ih (t-16) (by omega)]
end Go.Fw.Sha
namespace Go.Proofs.YthaaekcaaecdeaaGreatDoor.Bl
open Go Go.Fw Go.Proofs
theorem zxt (x:BitVec 32) (n:Nat){i:Int}(hi:i=-(n:Int)) (h0:0 < n) (hn:n < 32) (w:World):qj P zaa #[.int .u32 (x.toNat:Int),.int .i64 i] w fun e w'=>e=.returned (.int .u32 ((Sha.rotr x n).toNat:Int))/\w'=w:=by
 subst hi
 refine zli ?_
 unfold zg3
 refine⟨((18446744073709551616-n:Nat):Int),?_,?_⟩
 ·simp only [IntKind.wrap,IntKind.bits,IntKind.signed]
  have e:(2:Int) ^ 64=18446744073709551616:=by decide
  simp only [e,Bool.false_and,Bool.false_eq_true,if_false]
  omega
 refine⟨((32-n:Nat):Int),?_,?_⟩
 ·have this:(BitVec.ofInt IntKind.u64.bits ((18446744073709551616-n:Nat):Int) &&& BitVec.ofInt IntKind.u64.bits 31).toNat=32-n:=by
   change (BitVec.ofNat 64 (18446744073709551616-n) &&& BitVec.ofNat 64 31).toNat=32-n
   rw [BitVec.toNat_and,BitVec.toNat_ofNat,BitVec.toNat_ofNat]
   have e31:31 % 2 ^ 64=2 ^ 5-1:=by decide
   have e1:(18446744073709551616-n) % 2 ^ 64=18446744073709551616-n:=Nat.mod_eq_of_lt (by omega)
   rw [e31,Nat.and_two_pow_sub_one_eq_mod,e1]
   omega
  rw [this,wrap_u64] <;> omega
 refine qj6 _ (32-n) rfl (by omega) ?_
 refine⟨((n:Nat):Int),?_,?_⟩
 ·rw [wrap_u64] <;> omega
 refine qhk _ n rfl (by omega) ?_
 refine orW _ _ ?_
 refine⟨?_,rfl⟩
 unfold Sha.rotr
 rw [BitVec.or_comm]
theorem qm0:zc P zfr=(List.replicate 64 (Value.int .u32 0)).toArray:=by kernel_rfl
theorem ql1:zc P zcg=(List.replicate 8 (Value.int .u32 0)).toArray:=by kernel_rfl
theorem qe4:P.cellsOf zcg=8:=by kernel_rfl
theorem qgj (a b c d e f g h:Int) (w:World):(Instr.build zcg #[(0,.int .u32 a),(1,.int .u32 b),(2,.int .u32 c),(3,.int .u32 d),(4,.int .u32 e),(5,.int .u32 f),(6,.int .u32 g),(7,.int .u32 h)]).run P w =
  .ok (.agg #[.int .u32 a,.int .u32 b,.int .u32 c,.int .u32 d,.int .u32 e,.int .u32 f,.int .u32 g,.int .u32 h]) w:=by kernel_rfl
set_option maxHeartbeats 4000000 in
theorem qkj {w:World}{H:Heap}{hp bb off l lc:Nat}{c cb rc:Array Value}{Tb rT:TypeId}{frb rfr:Nat×Nat}{s:Nat->BitVec 32}{f:Nat->UInt8}(hw:w.heap=H)
  (hH:H[hp]?=some (.cells c za0 (0,0))) (hsz:c.size=74) (hS:Words c 0 s 8) (hB:H[bb]?=some (.cells cb Tb frb)) (hb:Bytes cb off f 64) (hl:64<=l)
  (hR:H[1]?=some (.cells rc rT rfr)) (hr:Words rc 0 Sha.K 64) (h0:hp≠1) :
  qj P zla #[.pointer (some ⟨hp,0,none⟩),.slice (some ⟨bb,off,none⟩) l lc] w fun e w'=>e=.returned (.tuple #[])/\Ext [hp] H w'.heap /\
   ∃ c',w'.heap[hp]?=some (.cells c' za0 (0,0))/\c'.size=74/\Words c' 0 (Sha.comp s (Sha.word f)) 8/\∀ i,8<=i->c'[i]?=c[i]?:=by
 refine zv8 ?_
 unfold zpp
 refine ji hw fun w1 hw1=>?_
 refine zae (fun s w=>∃ (t:Nat) (H':Heap) (c4:Array Value),s=(t:Int)/\t<=16/\w.heap=H'/\Ext [] H H'/\H'[H.size]?=some (.cells c4 zfr (0,0))/\c4.size=64/\Words c4 0 (Sha.W (Sha.word f)) t)
  (fun s _=>(16-s).toNat) ⟨0,_,_,rfl,by omega,hw1,.push _,zk,by rw [qm0];rfl,fun i hi=>by omega⟩ ?_
 rintro _ w2 ⟨t,H2,c4,rfl,ht,hw2,hx2,hc4,hs4,hW⟩
 refine zy (fun hlt=>?_) (fun hge=>?_)
 ·have hlt:t < 16:=by omega
  refine vw hw2 fun w3 hw3=>?_
  have hB2:=hx2.get hB (by simp)
  refine zie ((4 * t:Nat):Int) (by omega) (by omega) (by omega) ?_
  refine zvs (4 * t) rfl (by omega) ?_
  refine zie ((4 * t:Nat):Int) (by omega) (by omega) (by omega) ?_
  refine jr ((4 * t+1:Nat):Int) (by omega) (by omega) (by omega) ?_
  refine zvs (4 * t+1) rfl (by omega) ?_
  refine zie ((4 * t:Nat):Int) (by omega) (by omega) (by omega) ?_
  refine jr ((4 * t+2:Nat):Int) (by omega) (by omega) (by omega) ?_
  refine zvs (4 * t+2) rfl (by omega) ?_
  refine zie ((4 * t:Nat):Int) (by omega) (by omega) (by omega) ?_
  refine jr ((4 * t+3:Nat):Int) (by omega) (by omega) (by omega) ?_
  refine zvs (4 * t+3) rfl (by omega) ?_
  refine jg hw3 hB2 (hb (4 * t) (by omega)) ?_
  refine cvB ?_
  refine qj6 _ 24 rfl (by omega) ?_
  refine jg hw3 hB2 (hb (4 * t+1) (by omega)) ?_
  refine cvB ?_
  refine qj6 _ 16 rfl (by omega) ?_
  refine orW _ _ ?_
  refine jg hw3 hB2 (hb (4 * t+2) (by omega)) ?_
  refine cvB ?_
  refine qj6 _ 8 rfl (by omega) ?_
  refine orW _ _ ?_
  refine jg hw3 hB2 (hb (4 * t+3) (by omega)) ?_
  refine cvB ?_
  refine orW _ _ ?_
  refine zo6 t rfl (by omega) ?_
  refine zb8 hw3 hc4 (by omega) fun w4 hw4=>?_
  refine jr ((t+1:Nat):Int) (by omega) (by omega) (by omega) ?_
  refine⟨⟨t+1,_,_,rfl,by omega,hw4,hx2.set_own (.inl (Nat.le_refl _)),qy hc4,by simpa using hs4,?_⟩,by omega⟩
  exact hW.snoc (by omega) (by rw [Sha.W_lt hlt];rfl)
 have ht16:t=16:=by omega
 subst ht16
 clear hge ht
 refine zae (fun s w=>∃ (t:Nat) (H':Heap) (c4:Array Value),s=(t:Int)/\16<=t/\t<=64/\w.heap=H'/\Ext [] H H'/\H'[H.size]?=some (.cells c4 zfr (0,0))/\c4.size=64/\Words c4 0 (Sha.W (Sha.word f)) t)
  (fun s _=>(64-s).toNat) ⟨16,_,_,rfl,by omega,by omega,hw2,hx2,hc4,hs4,hW⟩ ?_
 clear hw2 hx2 hc4 hs4 hW
 rintro _ w2 ⟨t,H2,c4,rfl,ht,ht',hw2,hx2,hc4,hs4,hW⟩
 refine zy (fun hlt=>?_) (fun hge=>?_)
 ·have hlt:t < 64:=by omega
  refine vw hw2 fun w3 hw3=>?_
  refine zdb ((t-2:Nat):Int) (by omega) (by omega) (by omega) ?_
  refine zo6 (t-2) rfl (by omega) ?_
  refine zdb ((t-15:Nat):Int) (by omega) (by omega) (by omega) ?_
  refine zo6 (t-15) rfl (by omega) ?_
  refine jg hw3 hc4 (hW.at (t-2) (by omega)) ?_
  refine jg hw3 hc4 (hW.at (t-15) (by omega)) ?_
  refine zdf (l:=[.int .u32]) _ (zxt _ 17 rfl (by omega) (by omega) _) ?_
  refine zdf (l:=[.int .u32]) _ (zxt _ 19 rfl (by omega) (by omega) _) ?_
  refine z9i _ _ ?_
  refine qhk _ 10 rfl (by omega) ?_
  refine z9i _ _ ?_
  refine zdf (l:=[.int .u32]) _ (zxt _ 7 rfl (by omega) (by omega) _) ?_
  refine zdf (l:=[.int .u32]) _ (zxt _ 18 rfl (by omega) (by omega) _) ?_
  refine z9i _ _ ?_
  refine qhk _ 3 rfl (by omega) ?_
  refine z9i _ _ ?_
  refine vw hw3 fun w4 hw4=>?_
  refine zdb ((t-7:Nat):Int) (by omega) (by omega) (by omega) ?_
  refine zo6 (t-7) rfl (by omega) ?_
  refine zdb ((t-16:Nat):Int) (by omega) (by omega) (by omega) ?_
  refine zo6 (t-16) rfl (by omega) ?_
  refine jg hw4 hc4 (hW.at (t-7) (by omega)) ?_
  refine qbl _ _ ?_
  refine qbl _ _ ?_
  refine jg hw4 hc4 (hW.at (t-16) (by omega)) ?_
  refine qbl _ _ ?_
  refine zo6 t rfl (by omega) ?_
  refine zb8 hw4 hc4 (by omega) fun w5 hw5=>?_
  refine jr ((t+1:Nat):Int) (by omega) (by omega) (by omega) ?_
  refine⟨⟨t+1,_,_,rfl,by omega,by omega,hw5,hx2.set_own (.inl (Nat.le_refl _)),qy hc4,by simpa using hs4,?_⟩,by omega⟩
  exact hW.snoc (by omega) (by rw [Sha.W_ge ht])
 have ht64:t=64:=by omega
 subst ht64
 clear hge ht ht'
 have hH2:=hx2.get hH (by simp)
 have hR2:=hx2.get hR (by simp)
 have hlt:=lt_of_get hH2
 simp only [jc]
 refine z3s hw2 hH2 (by omega) ?_
 rw [hS.extract (by omega)]
 refine ji hw2 fun w3 hw3=>?_
 refine zbe (qe4.trans (by simp [Value.cells])) (by simp [Value.cells]) qbp hw3 zk (by rw [ql1];simp [Value.cells]) fun w4 hw4=>?_
 rw [show setCells (zc P zcg) 0 (Value.cells (.agg (W32 s 8))).toList=W32 s 8 from by rw [zau (by rw [ql1];simp [Value.cells])];simp [Value.cells]] at hw4
 have hb4:H.size < H2.size:=lt_of_get hc4
 refine zae (fun s' w=>∃ (t:Nat) (H':Heap) (c8:Array Value),s'=(t:Int)/\t<=64/\w.heap=H'/\Ext [] H2 H'/\H'[H2.size]?=some (.cells c8 zcg (0,0))/\c8.size=8/\Words c8 0 (Sha.rnd (Sha.W (Sha.word f)) s t) 8)
  (fun s _=>(64-s).toNat) ⟨0,_,_,rfl,by omega,hw4,(Ext.push _).set_own (.inl (Nat.le_refl _)),qy zk,by simp,zvo⟩ ?_
 rintro _ w5 ⟨t,H5,c8,rfl,ht,hw5,hx5,hc8,hs8,hV⟩
 refine zy (fun hlt=>?_) (fun hge=>?_)
 ·have hlt:t < 64:=by omega
  have hc4':=hx5.get hc4 (by simp)
  have hR':=hx5.get hR2 (by simp)
  refine vw hw5 fun w6 hw6=>?_
  refine jg hw6 hc8 (hV.at 4 (by omega)) ?_
  refine zdf (l:=[.int .u32]) _ (zxt _ 6 rfl (by omega) (by omega) _) ?_
  refine jg hw6 hc8 (hV.at 4 (by omega)) ?_
  refine zdf (l:=[.int .u32]) _ (zxt _ 11 rfl (by omega) (by omega) _) ?_
  refine z9i _ _ ?_
  refine jg hw6 hc8 (hV.at 4 (by omega)) ?_
  refine zdf (l:=[.int .u32]) _ (zxt _ 25 rfl (by omega) (by omega) _) ?_
  refine z9i _ _ ?_
  refine vw hw6 fun w7 hw7=>?_
  refine zo6 t rfl (by omega) ?_
  refine zo6 t rfl (by omega) ?_
  refine jg hw7 hc8 (hV.at 7 (by omega)) ?_
  refine qbl _ _ ?_
  refine jg hw7 hc8 (hV.at 4 (by omega)) ?_
  refine jg hw7 hc8 (hV.at 5 (by omega)) ?_
  refine qjh _ _ ?_
  refine jg hw7 hc8 (hV.at 4 (by omega)) ?_
  refine qek _ ?_
  refine jg hw7 hc8 (hV.at 6 (by omega)) ?_
  refine qjh _ _ ?_
  refine z9i _ _ ?_
  refine qbl _ _ ?_
  refine jg hw7 hR' (hr.at t (by omega)) ?_
  refine qbl _ _ ?_
  refine jg hw7 hc4' (hW.at t (by omega)) ?_
  refine qbl _ _ ?_
  refine vw hw7 fun w8 hw8=>?_
  refine jg hw8 hc8 (hV.at 0 (by omega)) ?_
  refine zdf (l:=[.int .u32]) _ (zxt _ 2 rfl (by omega) (by omega) _) ?_
  refine jg hw8 hc8 (hV.at 0 (by omega)) ?_
  refine zdf (l:=[.int .u32]) _ (zxt _ 13 rfl (by omega) (by omega) _) ?_
  refine z9i _ _ ?_
  refine jg hw8 hc8 (hV.at 0 (by omega)) ?_
  refine zdf (l:=[.int .u32]) _ (zxt _ 22 rfl (by omega) (by omega) _) ?_
  refine z9i _ _ ?_
  refine jg hw8 hc8 (hV.at 0 (by omega)) ?_
  refine jg hw8 hc8 (hV.at 1 (by omega)) ?_
  refine qjh _ _ ?_
  refine jg hw8 hc8 (hV.at 0 (by omega)) ?_
  refine jg hw8 hc8 (hV.at 2 (by omega)) ?_
  refine qjh _ _ ?_
  refine z9i _ _ ?_
  refine jg hw8 hc8 (hV.at 1 (by omega)) ?_
  refine jg hw8 hc8 (hV.at 2 (by omega)) ?_
  refine qjh _ _ ?_
  refine z9i _ _ ?_
  refine qbl _ _ ?_
  refine qbl _ _ ?_
  refine jg hw8 hc8 (hV.at 0 (by omega)) ?_
  refine jg hw8 hc8 (hV.at 1 (by omega)) ?_
  refine jg hw8 hc8 (hV.at 2 (by omega)) ?_
  refine jg hw8 hc8 (hV.at 3 (by omega)) ?_
  refine qbl _ _ ?_
  refine jg hw8 hc8 (hV.at 4 (by omega)) ?_
  refine jg hw8 hc8 (hV.at 5 (by omega)) ?_
  refine jg hw8 hc8 (hV.at 6 (by omega)) ?_
  refine qc _ (qgj _ _ _ _ _ _ _ _ _) ?_
  refine zbe (qe4.trans rfl) (by simp [Value.cells]) (by intro v hv;simp [Value.cells] at hv;rcases hv with h | h | h | h | h | h | h | h <;> subst h <;> rfl) hw8 hc8 (by simp [Value.cells];omega) fun w9 hw9=>?_
  refine jr ((t+1:Nat):Int) (by omega) (by omega) (by omega) ?_
  refine⟨⟨t+1,_,_,rfl,by omega,hw9,hx5.set_own (.inl (Nat.le_refl _)),qy hc8,by simpa using hs8,?_⟩,by omega⟩
  rw [zau (by simp [Value.cells];omega)]
  intro i hi
  match i,hi with
  | 0,_=>rfl
  | 1,_=>rfl
  | 2,_=>rfl
  | 3,_=>rfl
  | 4,_=>rfl
  | 5,_=>rfl
  | 6,_=>rfl
  | 7,_=>rfl
 have ht64:t=64:=by omega
 subst ht64
 clear hge ht
 have hx52:Ext [] H H5:=hx2.trans hx5
 have hH5:=hx52.get hH (by simp)
 have hne:hp≠H2.size:=by have:=lt_of_get hH;omega
 refine zae (fun s' w=>∃ (t:Nat) (H':Heap) (c':Array Value),s'=(t:Int)/\t<=8/\w.heap=H'/\Ext [hp] H H'/\H'[hp]?=some (.cells c' za0 (0,0))/\c'.size=74/\H'[H2.size]?=some (.cells c8 zcg (0,0)) /\
   Words c' 0 (Sha.comp s (Sha.word f)) t/\(∀ i,t<=i->c'[i]?=c[i]?))
  (fun s _=>(8-s).toNat) ⟨0,_,_,rfl,by omega,hw5,hx52.mono (by simp),hH5,hsz,hc8,fun i hi=>by omega,fun i _=>rfl⟩ ?_
 rintro _ w6 ⟨t,H6,c',rfl,ht,hw6,hx6,hH6,hsz6,hc86,hV6,hold⟩
 refine zy (fun hlt=>?_) (fun hge=>?_)
 ·have hlt:t < 8:=by omega
  refine vw hw6 fun w7 hw7=>?_
  refine zo6 t rfl (by omega) ?_
  refine zo6 t rfl (by omega) ?_
  refine jg hw7 hH6 ((hold t (Nat.le_refl _)).trans (hS.at t (by omega))) ?_
  refine jg hw7 hc86 (hV.at t (by omega)) ?_
  refine qbl _ _ ?_
  refine zo6 t rfl (by omega) ?_
  refine zb8 hw7 hH6 (by omega) fun w8 hw8=>?_
  refine jr ((t+1:Nat):Int) (by omega) (by omega) (by omega) ?_
  refine⟨⟨t+1,_,_,rfl,by omega,hw8,hx6.set_own (.inr (by simp)),qy hH6,by simpa using hsz6,zd8 hc86 (Ne.symm hne),hV6.snoc (by omega) rfl,?_⟩,by omega⟩
  intro i hi
  rw [Array.getElem?_setIfInBounds_ne (by omega)]
  exact hold i (by omega)
 have ht8:t=8:=by omega
 subst ht8
 exact⟨trivial,by rw [hw6];exact hx6,c',by rw [hw6];exact hH6,hsz6,hV6,hold⟩
theorem zhp {D E:List UInt8}{i:Nat}(h:i < D.length):Sha.nth (D++E) i=Sha.nth D i:=by
 simp [Sha.nth,List.getD_eq_getElem?_getD,List.getElem?_append_left h]
theorem z0h {D E:List UInt8}{i:Nat}(h:D.length<=i):Sha.nth (D++E) i=Sha.nth E (i-D.length):=by
 simp [Sha.nth,List.getD_eq_getElem?_getD,List.getElem?_append_right h]
theorem zm7 {D E:List UInt8}:∀ n,64 * n<=D.length->Sha.blocks (D++E) n=Sha.blocks D n
 | 0,_=>rfl
 | n+1,h=>by
  simp only [Sha.blocks]
  rw [zm7 n (by omega)]
  have:∀ t,t < 16->Sha.word (fun j=>Sha.nth (D++E) (64 * n+j)) t=Sha.word (fun j=>Sha.nth D (64 * n+j)) t:=by
   intro t ht
   simp only [Sha.word]
   rw [zhp (by omega),zhp (by omega),zhp (by omega),zhp (by omega)]
  unfold Sha.comp
  rw [funext (Sha.W_congr this)]
def zxn (H:Heap) (p:Nat) (D:List UInt8) (n:Nat):Prop:=
 ∃ c,H[p]?=some (.cells c za0 (0,0))/\c.size=74/\Words c 0 (Sha.blocks D (D.length / 64)) 8/\Bytes c 8 (fun i=>Sha.nth D (64 * (D.length / 64)+i)) (D.length % 64) /\
  c[72]?=some (.int .i64 ((D.length % 64:Nat):Int))/\c[73]?=some (.int .i64 (n:Int))/\zn8 c
def Rounds (H:Heap):Prop:=∃ rc rT rfr,H[1]?=some (.cells rc rT rfr)/\Words rc 0 Sha.K 64
theorem Rounds.ext {M:List Nat}{H H':Heap}(h:Rounds H) (hx:Ext M H H') (h0:1∉M):Rounds H':=by
 obtain⟨rc,rT,rfr,h1,h2⟩:=h
 exact⟨rc,rT,rfr,hx.get h1 h0,h2⟩
theorem zxn.ext {M:List Nat}{H H':Heap}{p:Nat}{D:List UInt8}{n:Nat}(h:zxn H p D n) (hx:Ext M H H') (h0:p∉M):zxn H' p D n:=by
 obtain⟨c,h1,h2⟩:=h
 exact⟨c,hx.get h1 h0,h2⟩
theorem u89:P.underlying ztf=some (.array 64 zac):=by kernel_rfl
theorem u22:P.underlying xk=some (.slice zac):=by kernel_rfl
theorem i5:(P.info? zac).map (·.size)=some 1:=by kernel_rfl
set_option maxHeartbeats 4000000 in
theorem z0a {w:World}{H:Heap}{p l lc:Nat}{a:Option Addr}{D L:List UInt8}(hw:w.heap=H) (hD:zxn H p D D.length) (hL:Cells H a (byteCells L)) (hl:l=L.length) (hc:l<=lc)
  (hne:L≠[]->∀ x,a=some x->x.block≠p) (hR:Rounds H) (h0:p≠1) (hlen:D.length+L.length < 4611686018427387904) :
  qj P zdw #[.pointer (some ⟨p,0,none⟩),.slice a l lc] w fun e w'=>e=.returned (.tuple #[])/\Ext [p] H w'.heap/\zxn w'.heap p (D++L) (D++L).length:=by
 subst hl
 refine zsq ?_
 unfold zm9
 refine qp rfl ?_
 simp only [jc,zan,Nat.zero_add]
 obtain⟨c,hp,hsz,hS,hB,h72,h73,ha1⟩:=hD
 refine jg hw hp h73 ?_
 refine jr ((D.length+L.length:Nat):Int) (by omega) (by omega) (by omega) ?_
 refine zb8 hw hp (by omega) fun w1 hw1=>?_
 refine zae (fun s w=>∃ (k:Nat) (H':Heap),k<=L.length/\s.2.1=L.length-k/\s.2.1<=s.2.2/\Cells H' s.1 (byteCells (L.drop k))/\(L≠[]->∀ x,s.1=some x->x.block≠p)/\w.heap=H'/\Ext [p] H H' /\
   zxn H' p (D++L.take k) (D.length+L.length)) (fun s _=>s.2.1) ?_ ?_
 ·refine⟨0,_,by omega,by simp,hc,?_,hne,hw1,Ext.set _ (by simp),_,qy hp,by simpa using hsz,?_,?_,?_,?_,ha1.set rfl⟩
  ·exact hL.ext (Ext.set (M:=[p]) _ (by simp)) (fun x hx hv=>by simpa using hne (by rintro rfl;exact hv rfl) x hx)
  ·simp only [List.take_zero,List.append_nil]
   intro i hi
   rw [Array.getElem?_setIfInBounds_ne (by omega)]
   exact hS i hi
  ·simp only [List.take_zero,List.append_nil]
   intro i hi
   rw [Array.getElem?_setIfInBounds_ne (by omega)]
   exact hB i hi
  ·simp only [List.take_zero,List.append_nil]
   rw [Array.getElem?_setIfInBounds_ne (by omega)]
   exact h72
  ·simp [hsz]
 clear hw1 hp hsz hS hB h72 h73 hL ha1
 rintro ⟨sa,sl,sc⟩ w2 ⟨k,H2,hk,hsl,hsc,hC,hnb,hw2,hx,c2,hp2,hsz2,hS2,hB2,h72,h73,ha2⟩
 simp only at hsl hsc hC hnb
 have hEl:(D++L.take k).length=D.length+k:=by simp;omega
 refine zy (fun hgt=>?_) (fun hle=>?_)
 ·have hlt:k < L.length:=by simp only at hgt;omega
  have hnb:=hnb (by rintro rfl;simp at hlt)
  refine jf ?_
  refine vw hw2 fun w3 hw3=>?_
  refine jg hw3 hp2 h72 ?_
  generalize hu:(D++L.take k).length % 64=u at *
  generalize hq:(D++L.take k).length / 64=q at *
  have hu64:u < 64:=by omega
  have hEq:D.length+k=64 * q+u:=by omega
  refine qc (s:=.slc) (some ⟨p,8+u,none⟩,64-u,64-u) ?_ ?_
  ·rw [zhj u89 i5 (.yes rfl) .no (by omega) (by omega),if_neg (by omega),zan]
   simp [Sh.val]
  generalize hn:min sl (64-u)=n
  have hnl:n<=L.length-k:=by omega
  have hX:((L.drop k).take n).length=n:=by simp;omega
  obtain⟨w4,hrun,hcm4,hw4⟩:=qcd (P:=P) (w:=w3) (st:=xk) (xt:=xk) (ty:=zav) (od:=8+u) (dl:=64-u) (dc:=64-u) (sl:=sl) (sc:=sc) (vs:=byteCells ((L.drop k).take n)) u22 i5 hw3
   (by rw [<-zlb];exact hC.take n) (by simp only [zam,hX];omega) zay hp2 (by simp only [zam,hX];omega)
  rw [hn] at hrun
  refine zaf ((n:Nat):Int) w4 hrun ?_ hcm4
  generalize hXX:(L.drop k).take n=X at *
  have hE':D++L.take (k+n)=(D++L.take k)++X:=by rw [<-hXX,List.append_assoc,<-List.take_add]
  have hp4:(H2.setIfInBounds p (.cells (setCells c2 (8+u) (byteCells X)) za0 (0,0)))[p]?=some (.cells (setCells c2 (8+u) (byteCells X)) za0 (0,0)):=qy hp2
  have hg:∀ i,(setCells c2 (8+u) (byteCells X))[i]?=if 8+u<=i/\i < 8+u+n then (byteCells X)[i-(8+u)]? else c2[i]?:=by
   intro i;rw [zk0 (by simp only [zam];omega)];simp only [zam,hX]
  have hS4:Words (setCells c2 (8+u) (byteCells X)) 0 (Sha.blocks (D++L.take k) q) 8:=fun i hi=>by rw [hg,if_neg (by omega)];exact hS2 i hi
  have hB4:Bytes (setCells c2 (8+u) (byteCells X)) 8 (fun i=>Sha.nth (D++L.take (k+n)) (64 * q+i)) (u+n):=by
   intro i hi
   rw [hg,hE']
   by_cases hiu:i < u
   ·rw [if_neg (by omega),hB2 i hiu]
    simp only
    rw [zhp (D:=D++L.take k) (E:=X) (by omega)]
   ·rw [if_pos (by omega),zmb (by omega)]
    simp only
    rw [z0h (D:=D++L.take k) (E:=X) (by omega)]
    have:8+i-(8+u)=64 * q+i-(D++L.take k).length:=by omega
    rw [this]
    rfl
  refine vw hw4 fun w5 hw5=>?_
  refine jg (t:=((u:Nat):Int)) hw5 hp4 (by rw [hg,if_neg (by omega)];exact h72) ?_
  refine jr ((u+n:Nat):Int) (by omega) (by omega) (by omega) ?_
  have hsl5:∀ w,(Instr.sliceAt xk (.slice sa sl sc) (some (.int .i64 (n:Int))) none none).run P w=.ok (.slice (if sc=n then sa else sa.map (·.add (n * 1))) (sl-n) (sc-n)) w:=
   fun w=>zbd u22 i5 (.yes rfl) .no (by omega) (by omega)
  refine qc (s:=.slc) (if sc=n then sa else sa.map (·.add (n * 1)),sl-n,sc-n) (hsl5 _) ?_
  refine zb8 hw5 hp4 (by simp;omega) fun w6 hw6=>?_
  refine⟨qc (s:=.slc) (if sc=n then sa else sa.map (·.add (n * 1)),sl-n,sc-n) (hsl5 _) rfl,?_⟩
  rw [set_set] at hw6
  have hp6:(H2.setIfInBounds p (.cells ((setCells c2 (8+u) (byteCells X)).setIfInBounds 72 (.int .i64 ((u+n:Nat):Int))) za0 (0,0)))[p]?=some (.cells ((setCells c2 (8+u) (byteCells X)).setIfInBounds 72 (.int .i64 ((u+n:Nat):Int))) za0 (0,0)):=qy hp2
  have ha6:zn8 ((setCells c2 (8+u) (byteCells X)).setIfInBounds 72 (.int .i64 ((u+n:Nat):Int))):=(ha2.setCells zay).set rfl
  generalize hc6:(setCells c2 (8+u) (byteCells X)).setIfInBounds 72 (.int .i64 ((u+n:Nat):Int))=c6 at *
  have hsz6:c6.size=74:=by rw [<-hc6];simp;omega
  have h726:c6[72]?=some (.int .i64 ((u+n:Nat):Int)):=by rw [<-hc6];simp [hsz2]
  have hg6:∀ i,i≠72->c6[i]?=(setCells c2 (8+u) (byteCells X))[i]?:=fun i hi=>by rw [<-hc6,Array.getElem?_setIfInBounds_ne (Ne.symm hi)]
  have hS6:Words c6 0 (Sha.blocks (D++L.take k) q) 8:=fun i hi=>by rw [hg6 _ (by omega)];exact hS4 i hi
  have hB6:Bytes c6 8 (fun i=>Sha.nth (D++L.take (k+n)) (64 * q+i)) (u+n):=fun i hi=>by rw [hg6 _ (by omega)];exact hB4 i hi
  have h736:c6[73]?=some (.int .i64 ((D.length+L.length:Nat):Int)):=by rw [hg6 _ (by omega),hg,if_neg (by omega)];exact h73
  have hx6:Ext [p] H2 (H2.setIfInBounds p (.cells c6 za0 (0,0))):=Ext.set _ (by simp)
  have hE'l:(D++L.take (k+n)).length=D.length+k+n:=by simp;omega
  have hC6:Cells (H2.setIfInBounds p (.cells c6 za0 (0,0))) (if sc=n then sa else sa.map (·.add (n * 1))) (byteCells (L.drop (k+n))):=by
   have:=(hC.ext hx6 (fun x hx _=>by simpa using hnb x hx)).drop n sc (by simp;omega)
   rw [zk7,List.drop_drop] at this
   rw [Nat.mul_one]
   exact this
  have hnb6:∀ x,(if sc=n then sa else sa.map (·.add (n * 1)))=some x->x.block≠p:=by
   intro x hx'
   split at hx'
   ·exact hnb x hx'
   ·cases sa with
    | none=>simp at hx'
    | some y=>
     simp only [Option.map_some,Option.some.injEq] at hx'
     subst hx'
     have:=hnb y rfl
     unfold Addr.add
     split <;> exact this
  refine jg hw6 hp6 h726 ?_
  refine zba (fun h64=>?_) (fun hn64=>?_)
  ·have h64:u+n=64:=by omega
   refine qc (s:=.slc) (some ⟨p,8,none⟩,64,64) ?_ ?_
   ·rw [zhj u89 i5 .no .no (by omega) (by omega),if_neg (by omega),zan]
    rfl
   obtain⟨rc,rT,rfr,hr1,hr2⟩:=(hR.ext hx (by simp;omega)).ext hx6 (by simp;omega)
   refine zh (qkj (l:=64) (lc:=64) hw6 hp6 hsz6 hS6 hp6 (by rw [<-h64];exact hB6) (by omega) hr1 hr2 h0) ?_
   rintro e w7 ⟨rfl,hx7,c7,hp7,hsz7,hS7,hold7⟩
   refine⟨(),rfl,?_⟩
   refine zb8 rfl hp7 (by omega) fun w8 hw8=>?_
   refine⟨⟨k+n,_,by omega,by simp only;omega,by simp only;omega,hC6.ext (hx7.trans (Ext.set (M:=[p]) _ (by simp))) (fun x hx _=>by simpa using hnb6 x hx),fun _=>hnb6,hw8,(hx.trans hx6).trans (hx7.trans (Ext.set _ (by simp))),_,qy hp7,by simpa using hsz7,?_,?_,?_,?_,zn8.set ?_ rfl⟩,?_⟩
   ·have e1:(D++L.take (k+n)).length / 64=q+1:=by omega
    rw [e1]
    simp only [Sha.blocks]
    rw [show Sha.blocks (D++L.take (k+n)) q=Sha.blocks (D++L.take k) q from by rw [hE'];exact zm7 q (by omega)]
    intro i hi
    rw [Array.getElem?_setIfInBounds_ne (by omega)]
    exact hS7 i hi
   ·have e1:(D++L.take (k+n)).length % 64=0:=by omega
    rw [e1]
    intro i hi;omega
   ·have e1:(D++L.take (k+n)).length % 64=0:=by omega
    rw [e1]
    simp [hsz7]
   ·rw [Array.getElem?_setIfInBounds_ne (by omega),hold7 _ (by omega)]
    exact h736
   ·intro i v hv
    by_cases hi:i < 8
    ·rw [hS7.at i hi] at hv;cases hv;rfl
    ·rw [hold7 i (by omega)] at hv;exact ha6 i v hv
   ·simp only;omega
  ·have hlt64:u+n < 64:=by omega
   have e1:(D++L.take (k+n)).length / 64=q:=by omega
   have e2:(D++L.take (k+n)).length % 64=u+n:=by omega
   refine⟨⟨k+n,_,by omega,by simp only;omega,by simp only;omega,hC6,fun _=>hnb6,hw6,hx.trans hx6,_,hp6,hsz6,?_,?_,?_,h736,ha6⟩,?_⟩
   ·rw [e1,show Sha.blocks (D++L.take (k+n)) q=Sha.blocks (D++L.take k) q from by rw [hE'];exact zm7 q (by omega)]
    exact hS6
   ·rw [e1,e2];exact hB6
   ·rw [e2];exact h726
   ·simp only;omega
 ·have hkl:k=L.length:=by simp only at hle;omega
  subst hkl
  rw [List.take_length] at *
  refine⟨trivial,by rw [hw2];exact hx,?_⟩
  rw [hw2]
  exact⟨c2,hp2,hsz2,hS2,hB2,h72,by rw [List.length_append];exact h73,ha2⟩
def c91:Array Value:=((W32 Sha.init 8).toList++List.replicate 64 (Value.int .u8 0)++[Value.int .i64 0,Value.int .i64 0]).toArray
theorem qc0 (w:World):(Instr.build zcg #[(0,.int .u32 1779033703),(1,.int .u32 3144134277),(2,.int .u32 1013904242),(3,.int .u32 2773480762),(4,.int .u32 1359893119),(5,.int .u32 2600822924),(6,.int .u32 528734635),(7,.int .u32 1541459225)]).run P w=.ok (.agg (W32 Sha.init 8)) w:=by
 kernel_rfl
theorem qhg (w:World):(Instr.build za0 #[(0,.agg (W32 Sha.init 8))]).run P w=.ok (.agg c91) w:=by kernel_rfl
theorem u65:P.underlying zcg=some (.array 8 zm6):=by kernel_rfl
theorem u64:P.underlying zm6=some (.int .u32):=by kernel_rfl
theorem i64:(P.info? zm6).map (·.size)=some 1:=by kernel_rfl
theorem u92:P.underlying zl4=some (.array 8 zac):=by kernel_rfl
theorem qdw:zc P zf=(List.replicate 32 (Value.int .u8 0)).toArray:=by kernel_rfl
theorem qh6:(zc P za0).size=74:=by kernel_rfl
theorem qnm:zc P zl4=(List.replicate 8 (Value.int .u8 0)).toArray:=by kernel_rfl
theorem qiq:P.cellsOf za0=74:=by kernel_rfl
theorem z5l:P.cellsOf zf=32:=by kernel_rfl
theorem qlx (x:Int) (w:World):(Instr.buildSlice xk 1 #[(0,.int .u8 x)]).run P w=.ok (.slice (some ⟨w.heap.size,0,none⟩) 1 1) { w with heap:=w.heap.push (.cells #[.int .u8 x] zac) }:=by kernel_rfl
theorem new_c {w:World}{H:Heap}(hw:w.heap=H):qj P zrn #[] w fun e w'=>e=.returned (.pointer (some ⟨H.size,0,none⟩))/\w'.heap=H.push (.cells c91 za0)/\zxn w'.heap H.size [] 0:=by
 refine z7t ?_
 unfold z3c
 refine qc (s:=.any) _ (qc0 w) ?_
 refine qc (s:=.any) _ (qhg w) ?_
 refine ji hw fun w1 hw1=>?_
 refine⟨rfl,hw1,?_⟩
 rw [hw1]
 refine⟨c91,zk,rfl,?_,?_,rfl,rfl,?_⟩
 ·intro i hi
  match i,hi with
  | 0,_=>rfl
  | 1,_=>rfl
  | 2,_=>rfl
  | 3,_=>rfl
  | 4,_=>rfl
  | 5,_=>rfl
  | 6,_=>rfl
  | 7,_=>rfl
 ·intro i hi;simp at hi
 ·intro i v hv
  have:v∈c91.toList:=by
   have:=Array.mem_of_getElem? hv
   exact Array.mem_toList_iff.2 this
  simp only [c91,List.mem_append,List.mem_replicate,List.mem_cons] at this
  rcases this with (h | ⟨_,rfl⟩) | rfl | rfl | h
  ·exact qbp v h
  ·rfl
  ·rfl
  ·rfl
  ·cases h
theorem qnw {c:Array Value}{i:Nat}{v:Value}(hc:c[i]?=some v) (hi:i < 8) (w:World):(Instr.index zcg (.agg c) (.int .i64 (i:Int))).run P w=.ok v w:=by
 have hag:(isAgg zm6).run P w=.ok false w:=by simp [isAgg,xu u64]
 have h1:(i:Int) < ((8:Nat):Int):=by omega
 simp only [Instr.index,asIntOf,Sem.run_bind,Sem.run_pure,Result.andThen_ok,xu u65]
 rw [if_pos ⟨by omega,h1⟩]
 simp [zbt i64,part,hag,hc]
set_option maxHeartbeats 4000000 in
theorem qjm {w:World}{H:Heap}{p:Nat}{D:List UInt8}(hw:w.heap=H) (hD:zxn H p D D.length) (hR:Rounds H) (hlen:D.length < 1152921504606846976) :
  qj P zlc #[.pointer (some ⟨p,0,none⟩)] w fun e w'=>e=.returned (arr (Sha.sum D))/\Ext [] H w'.heap:=by
 refine zwd ?_
 unfold zps
 refine ji hw fun w1 hw1=>?_
 refine jf ?_
 refine qp rfl ?_
 simp only [jc]
 have hH0:1 < H.size:=by obtain⟨_,_,_,h,_⟩:=hR;exact lt_of_get h
 obtain⟨c,hp,hsz,hS,hB,h72,h73,ha⟩:=hD
 have hpl:=lt_of_get hp
 refine xw hw1 (za1 hp) hsz ?_
 refine ji hw1 fun w2 hw2=>?_
 refine zbe (qiq.trans (by simpa [Value.cells] using hsz.symm)) (by simp only [Value.cells];omega) ha.one hw2 zk (by rw [qh6];simp [Value.cells];omega) fun w3 hw3=>?_
 rw [show setCells (zc P za0) 0 (Value.cells (.agg c)).toList=c from by rw [zau (by rw [qh6];simpa [Value.cells] using hsz)];simp [Value.cells]] at hw3
 generalize hb3:(H.push (Obj.cells (zc P zf) zf)).size=b3 at *
 have hb3':b3=H.size+1:=by rw [<-hb3];simp
 generalize hH3:((H.push (Obj.cells (zc P zf) zf)).push (Obj.cells (zc P za0) za0)).setIfInBounds b3 (Obj.cells c za0 (0,0))=H3 at *
 have hx3:Ext [] H H3:=by rw [<-hH3];exact ((Ext.push _).push_own).set_own (.inl (by omega))
 have hp3:H3[b3]?=some (.cells c za0 (0,0)):=by rw [<-hH3];exact qy (by rw [<-hb3];exact zk)
 have h23:H3[H.size]?=some (.cells (zc P zf) zf (0,0)):=by rw [<-hH3];exact zd8 (za1 zk) (by omega)
 have hD3:zxn H3 b3 D D.length:=⟨c,hp3,hsz,hS,hB,h72,h73,ha⟩
 have hR3:=hR.ext hx3 (by simp)
 refine jg hw3 hp3 h73 ?_
 refine zsh (by omega) (by omega) ?_
 refine qhu ((8 * D.length:Nat):Int) (by omega) (by omega) (by omega) ?_
 refine zaf (s:=.slc) (some ⟨H3.size,0,none⟩,1,1) _ (by rw [qlx 128 w3,hw3];rfl) ?_
 have hx4:Ext [] H3 (H3.push (Obj.cells #[Value.int .u8 128] zac)):=.push _
 have hb3l:=lt_of_get hp3
 refine zh (z0a (w:={ w3 with heap:=H3.push (Obj.cells #[Value.int .u8 128] zac) }) (L:=[128]) rfl (hD3.ext hx4 (by simp)) (zpz (H:=H3.push (Obj.cells #[Value.int .u8 128] zac)) zk (by simp) ?_) rfl (by simp) ?_ (hR3.ext hx4 (by simp)) (by omega) (by simp;omega)) ?_
 ·intro i hi
  obtain rfl:i=0:=by simp at hi;omega
  rfl
 ·intro _ x hx;cases hx;simp only;omega
 rintro e w5 ⟨rfl,hx5,hD5⟩
 refine⟨(),rfl,?_⟩
 have hx35:Ext [b3] H3 w5.heap:=(hx4.mono (by simp)).trans hx5
 clear hx5 hx4
 refine zb3 (fun m _ w=>∃ (j:Nat) (H':Heap),j+m=(119-D.length % 64) % 64/\w.heap=H'/\Ext [b3] H3 H'/\zxn H' b3 (D++[128]++List.replicate j 0) (D++[128]++List.replicate j 0).length)
  ((119-D.length % 64) % 64) ⟨0,_,by omega,rfl,hx35,by simpa using hD5⟩ ?_
 clear hx35 hD5
 rintro m _ w6 ⟨j,H6,hj,hw6,hx6,c6,hp6,hsz6,hS6,hB6,h726,h736,ha6⟩ K hK
 have hl6:(D++[128]++List.replicate j 0).length=D.length+1+j:=by simp only [List.length_append,List.length_singleton,List.length_replicate]
 rw [hl6] at h726 h736
 refine jg hw6 hp6 h726 ?_
 refine zbr (fun hne=>?_) (fun h56=>?_)
 ·have hjlt:j < (119-D.length % 64) % 64:=by omega
  have hx7:Ext [b3] H6 (H6.push (Obj.cells #[Value.int .u8 0] zac)):=.push _
  have hb3l6:=lt_of_get hp6
  refine zaf (s:=.slc) (some ⟨H6.size,0,none⟩,1,1) _ (by rw [qlx 0 w6,hw6];rfl) ?_
  refine zh (z0a (w:={ w6 with heap:=H6.push (Obj.cells #[Value.int .u8 0] zac) }) (D:=D++[128]++List.replicate j 0) (L:=[0]) rfl ⟨c6,za1 hp6,hsz6,hS6,hB6,by rw [hl6];exact h726,by rw [hl6];exact h736,ha6⟩
   (zpz (H:=H6.push (Obj.cells #[Value.int .u8 0] zac)) zk (by simp) ?_) rfl (by simp) ?_ ((hR3.ext hx6 (by simp;omega)).ext hx7 (by simp;omega)) (by omega) (by rw [hl6];simp;omega)) ?_
  ·intro i hi
   obtain rfl:i=0:=by simp at hi;omega
   rfl
  ·intro _ x hx;cases hx;simp only;omega
  rintro e w8 ⟨rfl,hx8,hD8⟩
  refine⟨(),rfl,?_⟩
  have hrep:D++[128]++List.replicate j 0++[0]=D++[128]++List.replicate (j+1) 0:=by
   rw [List.append_assoc,<-List.replicate_succ']
  rw [hrep] at hD8
  exact hK (m-1) _ _ (by omega) ⟨j+1,_,by omega,rfl,hx6.trans (hx7.trans hx8),hD8⟩
 have hjz:j=(119-D.length % 64) % 64:=by omega
 subst hjz
 refine ji hw6 fun w7 hw7=>?_
 have hb3l6:=lt_of_get hp6
 refine zae (fun s w=>∃ (i:Nat) (H':Heap) (c5:Array Value),s=(i:Int)/\i<=8/\w.heap=H'/\Ext [] H6 H'/\H'[H6.size]?=some (.cells c5 zl4 (0,0))/\c5.size=8/\Bytes c5 0 (fun i=>UInt8.ofNat (8 * D.length / 2 ^ (56-8 * i))) i)
  (fun s _=>(8-s).toNat) ⟨0,_,_,rfl,by omega,hw7,.push _,zk,by rw [qnm];simp,fun i hi=>by omega⟩ ?_
 rintro _ w8 ⟨i,H8,c5,rfl,hi,hw8,hx8,hp8,hsz8,hB8⟩
 refine zy (fun hlt=>?_) (fun hge=>?_)
 ·have hlt:i < 8:=by omega
  refine zie ((8 * i:Nat):Int) (by omega) (by omega) (by omega) ?_
  refine zdb ((56-8 * i:Nat):Int) (by omega) (by omega) (by omega) ?_
  refine qls (56-8 * i) rfl (by omega) ?_
  refine cv8 ?_
  refine zo6 i rfl (by omega) ?_
  refine zb8 hw8 hp8 (by omega) fun w9 hw9=>?_
  refine jr ((i+1:Nat):Int) (by omega) (by omega) (by omega) ?_
  refine⟨⟨i+1,_,_,rfl,by omega,hw9,hx8.set_own (.inl (Nat.le_refl _)),qy hp8,by simpa using hsz8,hB8.snoc (by omega) rfl⟩,by omega⟩
 have hi8:i=8:=by omega
 subst hi8
 refine qc (s:=.slc) (some ⟨H6.size,0,none⟩,8,8) (by rw [zhj u92 i5 .no .no (by omega) (by omega),if_neg (by omega),zan];rfl) ?_
 have hl6':(D++[128]++List.replicate ((119-D.length % 64) % 64) (0:UInt8)).length=D.length+1+(119-D.length % 64) % 64:=by simp only [List.length_append,List.length_singleton,List.length_replicate]
 refine zh (z0a (D:=D++[128]++List.replicate ((119-D.length % 64) % 64) 0) (L:=Sha.be8 (D.length * 8)) hw8 ⟨c6,hx8.get hp6 (by simp),hsz6,hS6,hB6,by rw [hl6];exact h726,by rw [hl6];exact h736,ha6⟩
  (zpz hp8 (by simp [Sha.be8];omega) ?_) (by simp [Sha.be8]) (by omega) ?_ ((hR3.ext hx6 (by simp;omega)).ext hx8 (by simp)) (by omega) (by rw [hl6];simp [Sha.be8];omega)) ?_
 ·intro i hi
  have hi:i < 8:=by simpa [Sha.be8] using hi
  rw [hB8 i hi]
  simp [Sha.be8,hi,Nat.mul_comm]
 ·intro _ x hx;cases hx;simp only;omega
 rintro e w9 ⟨rfl,hx9,hD9⟩
 refine⟨(),rfl,?_⟩
 have hpad:D++[128]++List.replicate ((119-D.length % 64) % 64) 0++Sha.be8 (D.length * 8)=Sha.pad D:=rfl
 rw [hpad] at hD9
 obtain⟨c9,hp9,hsz9,hS9,_⟩:=hD9
 refine ji rfl fun w10 hw10=>?_
 refine z3s hw10 (za1 hp9) (by omega) ?_
 rw [hS9.extract (by omega)]
 generalize hs:Sha.blocks (Sha.pad D) ((Sha.pad D).length / 64)=s at *
 have hx39:Ext [b3] H3 w9.heap:=hx6.trans ((hx8.mono (by simp)).trans hx9)
 refine zae (fun s' w=>∃ (i:Nat) (H':Heap) (c7:Array Value),s'=(i:Int)/\i<=8/\w.heap=H'/\Ext [] w9.heap H'/\H'[w9.heap.size]?=some (.cells c7 zf (0,0))/\c7.size=32/\Bytes c7 0 (Sha.out s) (4 * i))
  (fun s _=>(8-s).toNat) ⟨0,_,_,rfl,by omega,hw10,.push _,zk,by rw [qdw];simp,fun i hi=>by omega⟩ ?_
 rintro _ w11 ⟨i,H11,c7,rfl,hi,hw11,hx11,hp11,hsz11,hB11⟩
 refine zy (fun hlt=>?_) (fun hge=>?_)
 ·have hlt:i < 8:=by omega
  refine qc (s:=.int .u32) _ (qnw (zvo.at i hlt) hlt _) ?_
  refine zie ((4 * i:Nat):Int) (by omega) (by omega) (by omega) ?_
  refine zie ((4 * i:Nat):Int) (by omega) (by omega) (by omega) ?_
  refine jr ((4 * i+1:Nat):Int) (by omega) (by omega) (by omega) ?_
  refine zie ((4 * i:Nat):Int) (by omega) (by omega) (by omega) ?_
  refine jr ((4 * i+2:Nat):Int) (by omega) (by omega) (by omega) ?_
  refine zie ((4 * i:Nat):Int) (by omega) (by omega) (by omega) ?_
  refine jr ((4 * i+3:Nat):Int) (by omega) (by omega) (by omega) ?_
  refine qhk _ 24 rfl (by omega) ?_
  refine cvL _ ?_
  refine qhk _ 16 rfl (by omega) ?_
  refine cvL _ ?_
  refine qhk _ 8 rfl (by omega) ?_
  refine cvL _ ?_
  refine cvL _ ?_
  refine zo6 (4 * i) rfl (by omega) ?_
  refine zb8 hw11 hp11 (by omega) fun w12 hw12=>?_
  refine zo6 (4 * i+1) rfl (by omega) ?_
  refine zb8 hw12 (qy hp11) (by simp;omega) fun w13 hw13=>?_
  rw [set_set] at hw13
  refine zo6 (4 * i+2) rfl (by omega) ?_
  refine zb8 hw13 (qy hp11) (by simp;omega) fun w14 hw14=>?_
  rw [set_set] at hw14
  refine zo6 (4 * i+3) rfl (by omega) ?_
  refine zb8 hw14 (qy hp11) (by simp;omega) fun w15 hw15=>?_
  rw [set_set] at hw15
  refine jr ((i+1:Nat):Int) (by omega) (by omega) (by omega) ?_
  refine⟨⟨i+1,_,_,rfl,by omega,hw15,hx11.set_own (.inl (Nat.le_refl _)),qy hp11,by simp;omega,?_⟩,by omega⟩
  have o0:Sha.out s (4 * i)=lo8 (s i >>> 24):=by
   unfold Sha.out;rw [show 4 * i / 4=i from by omega,show 4 * i % 4=0 from by omega]
  have o1:Sha.out s (4 * i+1)=lo8 (s i >>> 16):=by
   unfold Sha.out;rw [show (4 * i+1) / 4=i from by omega,show (4 * i+1) % 4=1 from by omega]
  have o2:Sha.out s (4 * i+2)=lo8 (s i >>> 8):=by
   unfold Sha.out;rw [show (4 * i+2) / 4=i from by omega,show (4 * i+2) % 4=2 from by omega]
  have o3:Sha.out s (4 * i+3)=lo8 (s i):=by
   unfold Sha.out;rw [show (4 * i+3) / 4=i from by omega,show (4 * i+3) % 4=3 from by omega];simp
  exact ((((hB11.snoc (by omega) o0.symm).snoc (by simp;omega) o1.symm).snoc (by simp;omega) o2.symm).snoc (by simp;omega) o3.symm)
 have hi8:i=8:=by omega
 subst hi8
 refine xw hw11 hp11 hsz11 ?_
 have hc7:c7=B8 (Sha.out s) 32:=by
  have:=hB11.extract (by omega)
  rw [<-this]
  exact (Array.extract_eq_self_of_le (by omega)).symm
 subst hc7
 have h211:H11[H.size]?=some (.cells (zc P zf) zf (0,0)):=hx11.get (hx39.get h23 (by simp;omega)) (by simp)
 refine zbe (z5l.trans (by simp [Value.cells])) (by simp [Value.cells]) qhq hw11 h211 (by rw [qdw];simp [Value.cells]) fun w12 hw12=>?_
 rw [show setCells (zc P zf) 0 (Value.cells (.agg (B8 (Sha.out s) 32))).toList=B8 (Sha.out s) 32 from by rw [zau (by rw [qdw];simp [Value.cells])];simp [Value.cells]] at hw12
 refine xw hw12 (qy h211) (by simp) ?_
 refine⟨?_,?_⟩
 ·unfold arr Sha.sum B8 byteCells
  rw [hs]
  simp
 ·rw [hw12]
  refine Ext.set_own ?_ (.inl (Nat.le_refl _))
  exact hx3.own (hx39.trans (hx11.mono (by simp))) (by simp;omega)
theorem zbm {L:List UInt8}:(Sha.sum L).length=32:=by simp [Sha.sum]
theorem zb1 {L:List UInt8}:(arr L).cells.size=L.length:=by simp [arr,Value.cells,byteCells]
theorem qeq {w:World}{H:Heap}{a:Option Addr}{l lc:Nat}{L:List UInt8}(hw:w.heap=H) (hL:Cells H a (byteCells L)) (hl:l=L.length) (hc:l<=lc) (hR:Rounds H) (hlen:L.length < 1152921504606846976) :
  qj P zlu #[.slice a l lc] w fun e w'=>e=.returned (arr (Sha.sum L))/\Ext [] H w'.heap:=by
 refine z8q ?_
 unfold z0s
 refine ji hw fun w1 hw1=>?_
 have hps:(H.push (Obj.cells (zc P zf) zf (0,0))).size=H.size+1:=by simp
 have hx1:Ext [] H (H.push (.cells (zc P zf) zf)):=.push _
 refine zh (new_c hw1) ?_
 rintro e w2 ⟨rfl,hw2,hD2⟩
 refine⟨_,rfl,?_⟩
 have hx2:Ext [] H w2.heap:=by rw [hw2];exact hx1.push_own
 have h2:w2.heap[H.size]?=some (.cells (zc P zf) zf (0,0)):=by rw [hw2];exact za1 zk
 have hH0:1 < H.size:=by obtain⟨_,_,_,h,_⟩:=hR;exact lt_of_get h
 refine zh (z0a (D:=[]) (L:=L) rfl hD2 (hL.ext hx2 (by simp)) hl hc (fun hne x hx=>by obtain⟨y,hy,hlt⟩:=hL.lt (by simpa [byteCells] using hne);rw [hx] at hy;cases hy;omega) (hR.ext hx2 (by simp)) (by rw [Array.size_push];omega) (by simp;omega)) ?_
 rintro e w3 ⟨rfl,hx3,hD3⟩
 refine⟨(),rfl,?_⟩
 rw [List.nil_append] at hD3
 have hx23:Ext [] H w3.heap:=hx2.own hx3 (by simp)
 have h3:w3.heap[H.size]?=some (.cells (zc P zf) zf (0,0)):=hx3.get h2 (by simp)
 refine zh (qjm rfl hD3 (hR.ext hx23 (by simp)) hlen) ?_
 rintro e w4 ⟨rfl,hx4⟩
 refine⟨arr (Sha.sum L),rfl,?_⟩
 refine zbe (z5l.trans (by rw [zb1,zbm])) (by rw [zb1,zbm];omega) ?_ rfl (hx4.get h3 (by simp)) (by rw [qdw,zb1,zbm];simp) fun w5 hw5=>?_
 ·intro v hv
  simp only [arr,Value.cells] at hv
  exact zay v hv
 rw [show setCells (zc P zf) 0 (Value.cells (arr (Sha.sum L))).toList=(byteCells (Sha.sum L)).toArray from by rw [zau (by rw [qdw,Array.length_toList,zb1,zbm];simp)];simp [Value.cells,arr]] at hw5
 refine xw hw5 (qy (hx4.get h3 (by simp))) (by simp [byteCells,zbm]) ?_
 exact⟨rfl,by rw [hw5];exact (hx23.own hx4 (by simp)).set_own (.inl (Nat.le_refl _))⟩
theorem i5a:(P.info? zac).map (fun i=>(i.size,i.bytes,i.zero))=some (1,1,some (.int .u8 0)):=by kernel_rfl
theorem i5x:∃ i,P.info? zac=some i/\i.size=1/\i.bytes=1/\i.zero=some (.int .u8 0):=by
 have h:=i5a
 revert h
 cases P.info? zac with
 | none=>intro h;cases h
 | some i=>intro h;simp only [Option.map_some,Option.some.injEq,Prod.mk.injEq] at h;exact⟨i,rfl,h.1,h.2.1,h.2.2⟩
theorem qdi {w:World}{H:Heap}{B:Nat}{x:Option Addr×Nat×Nat}{y:Value}{n:Nat}{vs us:List Value}(hw:w.heap=H) (hown:Mine H B zac 1 x vs) (hB:B<=H.size) (hsrc:Src P w y 1 n us) (h1:zbo us)
  (hroom:(2 * (x.2.1+n)+192)<=281474976710656){K:(Option Addr×Nat×Nat)->World->Prop}
  (hK:∀ x' w',Mine w'.heap B zac 1 x' (vs++us)->x'.2.1=x.2.1+n->Ext (jw x) H w'.heap->(∀ b,b∈jw x'->b∈jw x\/H.size<=b)->K x' w') :
  za2 P (Builtin.append_ #[xk,xk] xk #[.slice x.1 x.2.1 x.2.2,y]) .slc w K:=by
 obtain⟨i,hi,hs,hb,hz⟩:=i5x
 obtain⟨x',w',h1,hcm,h2,h3,h4,h5⟩:=z5n (ty:=xk) u22 ⟨_,u22,by intro k h;cases h⟩ hi hs hz rfl (by omega) hw hown hB hsrc h1 (by rw [hb];omega)
 exact⟨x',w',h1,hcm,hK x' w' h2 h3 h4 h5⟩
theorem u27:P.underlying zf=some (.array 32 zac):=by kernel_rfl
theorem u5:P.underlying zac=some (.int .u8):=by kernel_rfl
theorem c5:P.cellsOf zac=1:=by kernel_rfl
theorem g27:P.eqGuardType P.depth zf=false:=by kernel_rfl
theorem u57:P.underlying zak=some (.map zf xk):=by kernel_rfl
theorem z22 (w:World):(zeroValue xk).run P w=.ok (.slice none 0 0) w:=by kernel_rfl
theorem K27:KeyOk P zf (List UInt8) (fun L=>L.length=32) arr:=.arr u27 u5 c5
theorem b27 (w:World):(Instr.build zf #[]).run P w=.ok (arr (List.replicate 32 0)) w:=by kernel_rfl
abbrev BV:=(Option Addr×Nat×Nat)×List UInt8
abbrev SM:=ML (List UInt8) BV
def bv (x:BV):Value:=zdr x.1
def total (r:SM):Nat:=(r.map fun x=>x.2.1.2.length).sum
def zcq (r:SM) (k:List UInt8):Option (List UInt8):=(zc6 r k).map (·.2)
def qj7 (H:Heap) (fp:List Nat) (r:SM):Prop:=∀ x∈r,Mine H 0 zac 1 x.2.1.1 (byteCells x.2.1.2)/\∀ b∈jw x.2.1.1,b∈fp
def Apart (r:SM):Prop:=∀ x∈r,∀ y∈r,x.1≠y.1->∀ b∈jw x.2.1.1,b∉jw y.2.1.1
def Store (H:Heap) (fp:List Nat) (p:Nat) (q:Int) (r:SM) (c:Nat):Prop:=
 ∃ m,H[p]?=some (.cells #[.int .i64 q,.int .i64 (total r:Int),.map (some m)] zg1 (0,0))/\H[m]?=some (.map (ents arr (vl bv r)) c)/\MOk (fun L=>L.length=32) r c/\p∈fp/\m∈fp/\qj7 H fp r/\Apart r
theorem qj7.ext {M fp:List Nat}{H H':Heap}{r:SM}(h:qj7 H fp r) (hx:Ext M H H') (hM:∀ b∈fp,b∉M):qj7 H' fp r:=
 fun x hxr=>⟨(h x hxr).1.ext hx fun b hb=>hM b ((h x hxr).2 b hb),(h x hxr).2⟩
theorem Store.ext {M fp:List Nat}{H H':Heap}{p:Nat}{q:Int}{r:SM}{c:Nat}(h:Store H fp p q r c) (hx:Ext M H H') (hM:∀ b∈fp,b∉M):Store H' fp p q r c:=by
 obtain⟨m,h1,h2,h3,h4,h5,h6,h7⟩:=h
 exact⟨m,hx.get h1 (hM p h4),hx.get h2 (hM m h5),h3,h4,h5,h6.ext hx hM,h7⟩
theorem Store.lt {fp:List Nat}{H:Heap}{p:Nat}{q:Int}{r:SM}{c:Nat}(h:Store H fp p q r c):p < H.size:=by
 obtain⟨m,h1,_⟩:=h;exact lt_of_get h1
theorem zsn {w:World}{H:Heap}{a:Option Addr}{l lc:Nat}{L:List UInt8}(hw:w.heap=H) (hL:Cells H a (byteCells L)) (hl:l=L.length) (hlen:L.length < 140000000000000) :
  qj P zcj #[.slice a l lc] w fun e w'=>∃ x,e=.returned (zdr x)/\Mine w'.heap H.size zac 1 x (byteCells L)/\Ext [] H w'.heap:=by
 subst hl
 refine zkf ?_
 unfold zf4
 cases a with
 | none=>
  refine jh rfl ?_
  have:byteCells L=[]:=by rcases hL with h | ⟨b,o,c,T,fr,h,_⟩;exact h;cases h
  exact⟨(none,0,0),rfl,.inl ⟨rfl,this⟩,by rw [hw];exact .refl _ _⟩
 | some a=>
  refine qp rfl ?_
  refine zaf (s:=.slc) (some ⟨H.size,0,none⟩,0,0) { w with heap:=H.push (.cells #[] zac) } (by rw [<-hw];kernel_rfl) ?_
  have hxp:Ext [] H (H.push (.cells #[] zac)):=.push _
  have hO:Mine (H.push (.cells #[] zac)) H.size zac 1 (some ⟨H.size,0,none⟩,0,0) []:=.inr ⟨H.size,#[],rfl,Nat.le_refl _,zk,rfl,rfl,Nat.le_refl _,rfl⟩
  refine qdi (w:={ w with heap:=H.push (.cells #[] zac) }) rfl hO (by simp) (Src.slc rfl (hL.ext hxp (by simp)) (by simp [byteCells])) zay (by simp only;omega) ?_
  intro x2 w2 hO2 hl2 hx2 hm2
  rw [List.nil_append] at hO2
  exact⟨x2,rfl,hO2,hxp.own hx2 (by intro b hb;simp [jw] at hb;omega)⟩
theorem z4e {r:SM}{c:Nat}(h:MOk (fun L=>L.length=32) r c){k:List UInt8}{v:BV}(hg:zc6 r k=some v):∃ b,(k,v,b)∈r/\k.length=32:=by
 obtain⟨b,hb⟩:=zet hg
 exact⟨b,hb,h.fine _ hb⟩
def got (o:Option (List UInt8)) (k:List UInt8):Int:=match o with | none=>50 | some L=>if Sha.sum L=k then 0 else 51
theorem z8g {w:World}{H:Heap}{fp:List Nat}{p:Nat}{q:Int}{r:SM}{c:Nat}{k:List UInt8}(hw:w.heap=H) (hS:Store H fp p q r c) (hk:k.length=32) (hR:Rounds H) (hlen:∀ L,zcq r k=some L->L.length < 1099511627776) :
  qj P zi8 #[.pointer (some ⟨p,0,none⟩),arr k] w fun e w'=>∃ x,e=.returned (.tuple #[zdr x,.int .i64 (got (zcq r k) k)])/\Ext [] H w'.heap /\
   (got (zcq r k) k=0->∃ L,zcq r k=some L/\Mine w'.heap H.size zac 1 x (byteCells L))/\(got (zcq r k) k≠0->x=(none,0,0)):=by
 obtain⟨m,h1,h2,h3,h4,h5,h6,h7⟩:=hS
 refine zs7 ?_
 unfold zm8
 refine ji hw fun w1 hw1=>?_
 have hx1:Ext [] H (H.push (.cells (Value.cells (arr k)) zf (0,0))):=.push _
 generalize hH1:H.push (.cells (Value.cells (arr k)) zf (0,0))=H1 at *
 have hk1:H1[H.size]?=some (.cells (byteCells k).toArray zf (0,0)):=by rw [<-hH1];exact zk
 refine qp rfl ?_
 refine vw hw1 fun w2 hw2=>?_
 simp only [jc]
 refine jg (t:=some m) hw2 (hx1.get h1 (by simp)) rfl ?_
 refine xw hw2 hk1 (by simp [byteCells,hk]) ?_
 cases hg:zc6 r k with
 | none=>
  have hv:zcq r k=none:=by simp [zcq,hg]
  rw [hv]
  refine zct (l:=[.slc,.bool]) ((none,0,0),false) (by refine (zfv K27 u57 z22 hw2 (hx1.get h2 (by simp)) h3 hk).trans ?_;rw [hg];rfl) ?_
  refine jh rfl ?_
  exact⟨(none,0,0),rfl,by rw [hw2];exact hx1,(by intro h;simp [got] at h),fun _=>rfl⟩
 | some v=>
  have hv:zcq r k=some v.2:=by simp [zcq,hg]
  obtain⟨b,hb,_⟩:=z4e h3 hg
  obtain⟨hO,hOf⟩:=h6 _ hb
  have hO:Mine H 0 zac 1 v.1 (byteCells v.2):=hO
  have hlv:=hlen _ hv
  rw [hv]
  refine zct (l:=[.slc,.bool]) (v.1,true) (by refine (zfv K27 u57 z22 hw2 (hx1.get h2 (by simp)) h3 hk).trans ?_;rw [hg];rfl) ?_
  refine qp rfl ?_
  refine vw hw2 fun w3 hw3=>?_
  refine xw hw3 hk1 (by simp [byteCells,hk]) ?_
  have hO1:=hO.ext hx1 (by simp)
  have hlen1:=hO.len
  have hle:v.1.2.1<=v.1.2.2:=by
   rcases hO with⟨h,_⟩ | ⟨_,_,_,_,_,_,_,h,_⟩
   ·rw [h];exact Nat.le_refl _
   ·exact h
  refine zh (qeq hw3 hO1.cells (by rw [<-zam,hlen1,Nat.mul_one]) hle (hR.ext hx1 (by simp)) (by omega)) ?_
  rintro e w4 ⟨rfl,hx4⟩
  refine⟨arr (Sha.sum v.2),rfl,?_⟩
  refine⟨xw rfl (hx4.get hk1 (by simp)) (by simp [byteCells,hk]) rfl,?_⟩
  refine qc (s:=.bool) _ (qd1 u27 u5 c5 g27 zbm hk) ?_
  by_cases hs:Sha.sum v.2=k
  ·refine qp (by simp [hs]) ?_
   refine zh (zsn rfl (hO1.ext hx4 (by simp)).cells (by rw [<-zam,hlen1,Nat.mul_one]) (by omega)) ?_
   rintro e w5 ⟨x,rfl,hxO,hx5⟩
   refine⟨x,rfl,?_⟩
   have hgot:got (some v.2) k=0:=by simp [got,hs]
   refine⟨x,by rw [hgot];rfl,(hx1.trans hx4).trans hx5,fun _=>⟨_,rfl,hxO.mono (hx1.trans hx4).1⟩,fun h=>absurd hgot h⟩
  ·refine jh (by simp [hs]) ?_
   have hgot:got (some v.2) k=51:=by simp [got,hs]
   exact⟨(none,0,0),by rw [hgot];rfl,hx1.trans hx4,(fun h=>by rw [hgot] at h;cases h),fun _=>rfl⟩
abbrev BL:=List (List UInt8×List UInt8)
def qcs (F:BL) (k:List UInt8):Option (List UInt8):=(F.find? fun x=>x.1==k).map (·.2)
def z8e (F:BL) (L:List UInt8):BL:=if (qcs F (Sha.sum L)).isSome then F else F++[(Sha.sum L,L)]
def fresh (Ls:List (List UInt8)):BL:=Ls.foldl z8e []
def extra (r:SM) (F:BL):Nat:=((F.filter fun x=>(zcq r x.1).isNone).map fun x=>x.2.length).sum
def qh4 (V:Option (List UInt8)) (o:Option (List UInt8)) (k:List UInt8):Option (List UInt8):=match o with
 | none=>V
 | some L=>match V with
  | none=>some L
  | some old=>if Sha.sum old=k then some old else some L
def long (Ls:List (List UInt8)):Prop:=∃ L∈Ls,4096 < L.length
def Rows (H:Heap) (a:Option Addr) (n:Nat) (Ls:List (List UInt8)):Prop:=n=Ls.length/\∀ i (h:i < Ls.length),∃ b o c T fr x,a=some ⟨b,o,none⟩/\H[b]?=some (.cells c T fr)/\c[o+i]?=some (zdr x)/\Cells H x.1 (byteCells Ls[i]) /\
 x.2.1=Ls[i].length/\x.2.1<=x.2.2
def view (fr:SM):BL:=fr.map fun x=>(x.1,x.2.1.2)
theorem zv5 {fr:SM}{k:List UInt8}:qcs (view fr) k=zcq fr k:=by
 induction fr with
 | nil=>rfl
 | cons x l ih=>
  simp only [qcs,view,List.map_cons,List.find?_cons] at ih |-
  unfold zcq
  by_cases e:x.1=k
  ·rw [ztp e];simp [e]
  ·rw [ztv e]
   have:(x.1==k)=false:=by simp [e]
   simp only [this]
   exact ih
theorem zx7 {Ls:List (List UInt8)}{i:Nat}(h:i < Ls.length):fresh (Ls.take (i+1))=z8e (fresh (Ls.take i)) Ls[i]:=by
 unfold fresh
 rw [List.take_add_one,List.getElem?_eq_getElem h,Option.toList_some,List.foldl_append]
 rfl
theorem Store.mono {H:Heap}{fp fp':List Nat}{p:Nat}{q:Int}{r:SM}{c:Nat}(h:Store H fp p q r c) (hf:∀ b∈fp,b∈fp'):Store H fp' p q r c:=by
 obtain⟨m,h1,h2,h3,h4,h5,h6,h7⟩:=h
 exact⟨m,h1,h2,h3,hf p h4,hf m h5,fun x hx=>⟨(h6 x hx).1,fun b hb=>hf b ((h6 x hx).2 b hb)⟩,h7⟩
def qco (r:SM) (k:List UInt8):Nat:=match zcq r k with | none=>0 | some L=>L.length
theorem z2s {r:SM}{c c':Nat}(h:MOk (fun L=>L.length=32) r c){k:List UInt8}{v:BV}:total (zl9 r k v c')+qco r k=total r+v.2.length:=by
 unfold qco zcq
 cases hg:zc6 r k with
 | none=>
  rw [zho hg]
  simp [total]
 | some v'=>
  rw [zj0 (by rw [hg];rfl)]
  simp only [Option.map_some]
  have hk:=h.keys
  clear h
  induction r with
  | nil=>simp [zc6] at hg
  | cons x r ih=>
   simp only [List.map_cons,List.nodup_cons] at hk
   by_cases e:x.1=k
   ·rw [ztp e,Option.some.injEq] at hg
    have:r.map (fun x=>if x.1=k then (x.1,v,x.2.2) else x)=r:=by
     rw [List.map_congr_left (g:=id),List.map_id]
     intro y hy
     rw [if_neg];rfl
     intro h;exact hk.1 (by rw [e,<-h];exact List.mem_map.2 ⟨y,hy,rfl⟩)
    rw [List.map_cons,if_pos e,this,<-hg]
    simp only [total,List.map_cons,List.sum_cons]
    omega
   ·rw [ztv e] at hg
    have:=ih hg hk.2
    rw [List.map_cons,if_neg e]
    simp only [total,List.map_cons,List.sum_cons] at this |-
    omega
theorem qd2 {r:SM}{k k':List UInt8}{v:BV}{c:Nat}:zcq (zl9 r k v c) k'=if k'=k then some v.2 else zcq r k':=by
 unfold zcq;rw [zur];split <;> rfl
def Ph1 (H:Heap) (r:SM) (Ls:List (List UInt8)) (i:Nat) (x:Int) (w:World):Prop:=
 ∃ (fr:SM) (cf:Nat),i<=Ls.length/\x=(extra r (view fr):Int)/\view fr=fresh (Ls.take i)/\Ext [] H w.heap/\w.heap[H.size]?=some (.map (ents arr (vl bv fr)) cf)/\MOk (fun L=>L.length=32) fr cf/\fr.length<=i /\
  (∀ x∈fr,Mine w.heap H.size zac 1 x.2.1.1 (byteCells x.2.1.2)/\x.2.1.2.length<=4096)/\Apart fr/\(∀ L∈Ls.take i,L.length<=4096)
theorem z6p {r:SM}{fr:SM}(h:∀ x∈fr,x.2.1.2.length<=4096):extra r (view fr)<=4096 * fr.length:=by
 induction fr with
 | nil=>simp [extra,view]
 | cons x l ih=>
  have h1:=ih fun y hy=>h y (by simp [hy])
  have h2:=h x (by simp)
  simp only [extra,view,List.map_cons,List.filter_cons] at h1 |-
  split
  ·simp only [List.map_cons,List.sum_cons,List.length_cons];omega
  ·simp only [List.length_cons];omega
def Ph3 (H:Heap) (fp:List Nat) (p:Nat) (q:Int) (r fr:SM) (cf it:Nat) (n:Nat) (w:World):Prop:=
 ∃ (seen:Array Nat) (r':SM) (c':Nat),Store w.heap (fp++fr.flatMap fun x=>jw x.2.1.1) p q r' c'/\Ext fp H w.heap/\w.heap[H.size]?=some (.map (ents arr (vl bv fr)) cf)/\w.heap[it]?=some (.mapIter (some H.size) cf seen cf)/\H.size<=it /\
  (∀ x∈fr,Mine w.heap H.size zac 1 x.2.1.1 (byteCells x.2.1.2))/\(∀ k,zcq r' k=if ∃ x∈fr,x.1=k/\x.2.2∈seen then qh4 (zcq r k) (zcq fr k) k else zcq r k) /\
  n=(fr.filter fun y=>!seen.contains y.2.2).length/\total r'+4096 * n<=total r+4096 * fr.length/\(∀ y∈r',(∀ b∈jw y.2.1.1,b∈fp)\/∃ z∈fr,z.1=y.1/\z.2.1=y.2.1)
def z5p (q:Int) (r:SM) (Ls:List (List UInt8)) (code:Int) (r':SM):Prop:=
 (long Ls->code=2/\r'=r)/\(¬long Ls->q < total r+extra r (fresh Ls)->code=3/\r'=r) /\
 (¬long Ls->¬q < total r+extra r (fresh Ls)->code=0/\∀ k,zcq r' k=qh4 (zcq r k) (qcs (fresh Ls) k) k)
set_option maxHeartbeats 8000000 in
theorem qei {w:World}{H:Heap}{fp:List Nat}{p:Nat}{q:Int}{r:SM}{c:Nat}{a:Option Addr}{n nc:Nat}{Ls:List (List UInt8)}(hw:w.heap=H) (hS:Store H fp p q r c) (hfp:∀ b∈fp,b < H.size) (hR:Rounds H) (h0:1∉fp)
  (hL:Rows H a n Ls) (hb:total r+4096 * Ls.length < 1125899906842624) (hq:0<=q) (hq2:q<=9223372036854775807) (hlen:∀ k L,zcq r k=some L->L.length < 1099511627776) :
  qj P zgr #[.pointer (some ⟨p,0,none⟩),.slice a n nc] w fun e w'=>∃ code r' c' fp',e=.returned (.int .i64 code)/\Store w'.heap fp' p q r' c'/\Ext fp H w'.heap/\(∀ b∈fp',b < w'.heap.size)/\(∀ b∈fp',b∈fp\/H.size<=b)/\z5p q r Ls code r' /\
   total r'<=total r+4096 * Ls.length:=by
 obtain⟨rfl,hL⟩:=hL
 have hH0:1 < H.size:=by obtain⟨_,_,_,h,_⟩:=hR;exact lt_of_get h
 refine zo7 ?_
 unfold zkg
 refine qp rfl ?_
 refine zaf (s:=.map) (some H.size) _ (zkd hw) ?_
 refine zae (fun (s:Int×Int) w=>∃ i:Nat,s.2=(i:Int)/\Ph1 H r Ls i s.1 w) (fun s _=>(Ls.length-s.2).toNat) ⟨0,rfl,[],0,by omega,rfl,rfl,.push _,zk,.nil,by simp,(by intro x hx;cases hx),(by intro x hx;cases hx),(by simp)⟩ ?_
 rintro ⟨x,_⟩ w2 ⟨i,rfl,fr,cf,hi,rfl,hF,hx2,hm2,hok,hfl,hown,hap,hsm⟩
 refine zy (fun hlt=>?_) (fun hge=>?_)
 ·have hlt:i < Ls.length:=by simp only at hlt;omega
  refine joinP_of (fun s w=>Ph1 H r Ls (i+1) s w) ?_ ?_
  rotate_left
  ·intro s2 w3 h3
   refine jr ((i+1:Nat):Int) (by simp only;omega) (by omega) (by omega) ?_
   exact⟨⟨i+1,rfl,h3⟩,by simp only;omega⟩
  obtain⟨ba,oa,ca,Ta,fra,xs,rfl,hba,hca,hxc,hxl,hxc2⟩:=hL i hlt
  refine zvs i rfl hlt ?_
  refine jg (s:=.slc) (t:=xs) rfl (hx2.get hba (by simp)) hca ?_
  refine zy (fun hbig=>?_) (fun hsmall=>?_)
  ·-- too long
   have hlo:long Ls:=⟨Ls[i],List.getElem_mem hlt,by omega⟩
   exact⟨2,r,c,fp,rfl,hS.ext hx2 (by simp),hx2.mono (by simp),fun b hb=>Nat.lt_of_lt_of_le (hfp b hb) hx2.1,fun b hb=>.inl hb,⟨fun _=>⟨rfl,rfl⟩,fun h=>absurd hlo h,fun h=>absurd hlo h⟩,by omega⟩
  have hlen4:Ls[i].length<=4096:=by omega
  generalize hLi:Ls[i]=L at *
  generalize hH2:w2.heap=H2 at *
  have hxc':=hxc.ext hx2 (by simp)
  refine zh (qeq hH2 hxc' hxl hxc2 (hR.ext hx2 (by simp)) (by omega)) ?_
  rintro e w3 ⟨rfl,hx3⟩
  refine⟨arr (Sha.sum L),rfl,?_⟩
  generalize hH3:w3.heap=H3 at *
  have hx23:Ext [] H H3:=hx2.trans hx3
  refine ji hH3 fun w4 hw4=>?_
  refine zbe (z5l.trans (by rw [zb1,zbm])) (by rw [zb1,zbm];omega) zay hw4 zk (by rw [qdw,zb1,zbm];simp) fun w5 hw5=>?_
  rw [show setCells (zc P zf) 0 (Value.cells (arr (Sha.sum L))).toList=(byteCells (Sha.sum L)).toArray from by rw [zau (by rw [qdw,Array.length_toList,zb1,zbm];simp)];simp [Value.cells,arr]] at hw5
  have hx5:Ext [] H3 w5.heap:=by rw [hw5];exact (Ext.push _).set_own (.inl (Nat.le_refl _))
  have hk5:w5.heap[H3.size]?=some (.cells (byteCells (Sha.sum L)).toArray zf (0,0)):=by rw [hw5];exact qy zk
  generalize hH5:w5.heap=H5 at *
  have hx25:Ext [] H2 H5:=hx3.trans hx5
  have hm5:=hx25.get hm2 (by simp)
  refine xw hH5 hk5 (by simp [byteCells,zbm]) ?_
  have hown5:∀ x∈fr,Mine H5 H.size zac 1 x.2.1.1 (byteCells x.2.1.2)/\x.2.1.2.length<=4096:=fun x hx=>⟨(hown x hx).1.ext hx25 (by simp),(hown x hx).2⟩
  cases hg:zc6 fr (Sha.sum L) with
  | some v=>
   refine zct (l:=[.slc,.bool]) (v.1,true) (by refine (zfv K27 u57 z22 hH5 hm5 hok zbm).trans ?_;rw [hg];rfl) ?_
   refine jh rfl ?_
   refine⟨fr,cf,hlt,rfl,?_,?_,?_,hok,by omega,?_,hap,?_⟩
   ·rw [zx7 hlt,<-hF,hLi]
    unfold z8e
    rw [zv5,if_pos (by simp [zcq,hg])]
   ·rw [hH5];exact hx2.trans hx25
   ·rw [hH5];exact hm5
   ·rw [hH5];exact hown5
   ·intro M hM
    rw [List.take_add_one,List.mem_append] at hM
    rcases hM with hM | hM
    ·exact hsm M hM
    ·rw [List.getElem?_eq_getElem hlt] at hM;simp at hM;rw [hM,hLi];exact hlen4
  | none=>
   refine zct (l:=[.slc,.bool]) ((none,0,0),false) (by refine (zfv K27 u57 z22 hH5 hm5 hok zbm).trans ?_;rw [hg];rfl) ?_
   refine qp rfl ?_
   refine vw hH5 fun w6 hw6=>?_
   refine xw hw6 hk5 (by simp [byteCells,zbm]) ?_
   refine zh (zsn hw6 (hxc'.ext hx25 (by simp)) hxl (by omega)) ?_
   rintro e w7 ⟨y,rfl,hyO,hx7⟩
   refine⟨y,rfl,?_⟩
   generalize hH7:w7.heap=H7 at *
   refine⟨xw hH7 (hx7.get hk5 (by simp)) (by simp [byteCells,zbm]) rfl,?_⟩
   have hm7:=hx7.get hm5 (by simp)
   refine zm1 _ (zjn K27 u57 hH7 hm7 hok zbm (y,L) rfl) ?_
   refine vw rfl fun w8 hw8=>?_
   simp only [jc]
   obtain⟨m,h1,h2,h3,h4,h5,h6,h7⟩:=hS
   have hx57:Ext [] H H7:=(hx2.trans hx25).trans hx7
   have hx8:Ext [] H (H7.setIfInBounds H.size (.map (ents arr (vl bv (zl9 fr (Sha.sum L) (y,L) cf))) (zqn fr (Sha.sum L) cf))):=hx57.set_own (.inl (Nat.le_refl _))
   have hx78:Ext [H.size] H7 (H7.setIfInBounds H.size (.map (ents arr (vl bv (zl9 fr (Sha.sum L) (y,L) cf))) (zqn fr (Sha.sum L) cf))):=Ext.set _ (by simp)
   have hk8:(H7.setIfInBounds H.size (.map (ents arr (vl bv (zl9 fr (Sha.sum L) (y,L) cf))) (zqn fr (Sha.sum L) cf)))[H3.size]?=some (.cells (byteCells (Sha.sum L)).toArray zf (0,0)):=
    zd8 (hx7.get hk5 (by simp)) (by have:=lt_of_get hm2;have:=hx3.1;omega)
   have hm8:(H7.setIfInBounds H.size (.map (ents arr (vl bv (zl9 fr (Sha.sum L) (y,L) cf))) (zqn fr (Sha.sum L) cf)))[H.size]?=some (.map (ents arr (vl bv (zl9 fr (Sha.sum L) (y,L) cf))) (zqn fr (Sha.sum L) cf)):=qy hm7
   generalize (H7.setIfInBounds H.size (.map (ents arr (vl bv (zl9 fr (Sha.sum L) (y,L) cf))) (zqn fr (Sha.sum L) cf)))=H8 at *
   refine jg (t:=some m) hw8 (hx8.get h1 (by simp)) rfl ?_
   refine xw hw8 hk8 (by simp [byteCells,zbm]) ?_
   have hupd:zl9 fr (Sha.sum L) (y,L) cf=fr++[(Sha.sum L,(y,L),cf)]:=zho hg
   have hvw:view (zl9 fr (Sha.sum L) (y,L) cf)=view fr++[(Sha.sum L,L)]:=by rw [hupd];simp [view]
   have hVw:view fr++[(Sha.sum L,L)]=fresh (Ls.take (i+1)):=by
    rw [zx7 hlt,<-hF,hLi]
    unfold z8e
    rw [zv5,if_neg (by simp [zcq,hg])]
   have fin:∀ (X:Int),X=(extra r (view fr++[(Sha.sum L,L)]):Int)->Ph1 H r Ls (i+1) X w8:=by
    intro X hX
    refine⟨zl9 fr (Sha.sum L) (y,L) cf,zqn fr (Sha.sum L) cf,hlt,by rw [hvw];exact hX,by rw [hvw,hVw],by rw [hw8];exact hx8,by rw [hw8];exact hm8,hok.upd zbm _,by rw [hupd];simp;omega,?_,?_,?_⟩
    ·intro z hz
     rw [hw8]
     rcases zkc hz with⟨hz1,hz2⟩ | ⟨_,hz2⟩
     ·rw [hz2]
      refine⟨(hyO.ext hx78 fun b hb=>?_).mono (hx2.trans hx25).1,hlen4⟩
      have:=jo hyO b hb
      have:=lt_of_get hm5
      simp;omega
     ·refine⟨((hown5 z hz2).1.ext hx7 (by simp)).ext hx78 fun b hb=>?_,(hown5 z hz2).2⟩
      rcases (hown5 z hz2).1 with⟨h,_⟩ | ⟨bb,cc,h,_,hbb,_⟩
      ·simp [jw,h] at hb
      ·simp only [jw,h,List.mem_singleton] at hb
       subst hb
       simp only [List.mem_singleton]
       intro e;rw [e,hm5] at hbb;cases hbb
    ·have far:∀ z∈fr,∀ b∈jw z.2.1.1,b < H5.size:=by
      intro z hz b hb
      rcases (hown5 z hz).1 with⟨h,_⟩ | ⟨bb,cc,h,_,hbb,_⟩
      ·simp [jw,h] at hb
      ·simp only [jw,h,List.mem_singleton] at hb
       subst hb;exact lt_of_get hbb
     intro z hz z' hz' hne b hb hb'
     rcases zkc hz with⟨hz1,hz2⟩ | ⟨hz1,hz2⟩ <;> rcases zkc hz' with⟨hz1',hz2'⟩ | ⟨hz1',hz2'⟩
     ·exact hne (hz1.trans hz1'.symm)
     ·rw [hz2] at hb
      have:=jo hyO b hb
      have:=far z' hz2' b hb'
      omega
     ·rw [hz2'] at hb'
      have:=jo hyO b hb'
      have:=far z hz2 b hb
      omega
     ·exact hap z hz2 z' hz2' hne b hb hb'
    ·intro M hM
     rw [List.take_add_one,List.mem_append] at hM
     rcases hM with hM | hM
     ·exact hsm M hM
     ·rw [List.getElem?_eq_getElem hlt] at hM;simp at hM;rw [hM,hLi];exact hlen4
   have hxl2:(xs.2.1:Int)=(L.length:Int):=by rw [hxl]
   cases hgr:zc6 r (Sha.sum L) with
   | none=>
    refine zct (l:=[.slc,.bool]) ((none,0,0),false) (by refine (zfv K27 u57 z22 hw8 (hx8.get h2 (by simp)) h3 zbm).trans ?_;rw [hgr];rfl) ?_
    refine jh rfl ?_
    have hel:=z6p (r:=r) fun x hx=>(hown x hx).2
    refine jr ((extra r (view fr)+L.length:Nat):Int) (by omega) (by omega) (by omega) ?_
    refine fin _ ?_
    simp only [extra,List.filter_append,List.map_append,List.sum_append]
    have:(zcq r (Sha.sum L)).isNone=true:=by simp [zcq,hgr]
    simp [this]
   | some v=>
    refine zct (l:=[.slc,.bool]) (v.1,true) (by refine (zfv K27 u57 z22 hw8 (hx8.get h2 (by simp)) h3 zbm).trans ?_;rw [hgr];rfl) ?_
    refine qp rfl ?_
    refine fin _ ?_
    simp only [extra,List.filter_append,List.map_append,List.sum_append]
    have:(zcq r (Sha.sum L)).isNone=false:=by simp [zcq,hgr]
    simp [this]
 have hiL:i=Ls.length:=by simp only at hge;omega
 subst hiL
 rw [List.take_length] at hF hsm
 have hnl:¬long Ls:=fun ⟨L,hL',h⟩=>by have:=hsm L hL';omega
 have hex:=z6p (r:=r) (fr:=fr) fun x hx=>(hown x hx).2
 have hS0:=hS
 obtain⟨m,h1,h2,h3,h4,h5,h6,h7⟩:=hS
 refine vw rfl fun w3 hw3=>?_
 generalize hH2:w2.heap=H2 at *
 simp only [jc]
 refine jg (t:=q) hw3 (hx2.get h1 (by simp)) rfl ?_
 refine jg (t:=(total r:Int)) hw3 (hx2.get h1 (by simp)) rfl ?_
 refine zdb (q-total r) rfl (by omega) (by omega) ?_
 refine zy (fun hbig=>?_) (fun hfit=>?_)
 ·have hbig:q < total r+extra r (fresh Ls):=by rw [<-hF];omega
  exact⟨3,r,c,fp,rfl,by rw [hw3];exact hS0.ext hx2 (by simp),by rw [hw3];exact hx2.mono (by simp),fun b hb=>by rw [hw3];exact Nat.lt_of_lt_of_le (hfp b hb) hx2.1,fun b hb=>.inl hb,⟨fun h=>absurd h hnl,fun _ _=>⟨rfl,rfl⟩,fun _ h=>absurd hbig h⟩,by omega⟩
 have hfit:¬q < total r+extra r (fresh Ls):=by rw [<-hF];omega
 have hHH:H.size < H2.size:=lt_of_get hm2
 refine zaf (s:=.ptr) (some ⟨H2.size,0,none⟩) _ (zwc u57 hw3 hm2) ?_
 have hxr:Ext [] H2 (H2.push (.mapIter (some H.size) cf #[] cf)):=.push _
 refine zb3 (fun n _ w=>Ph3 H fp p q r fr cf H2.size n w) fr.length
  ⟨#[],r,c,((hS0.ext hx2 (by simp)).ext hxr (by simp)).mono fun b hb=>List.mem_append.2 (.inl hb),(hx2.trans hxr).mono (by simp),hxr.get hm2 (by simp),zk,Nat.le_of_lt hHH,fun x hx=>(hown x hx).1.ext hxr (by simp),?_,?_,by omega,fun y hy=>.inl (h6 y hy).2⟩ ?_
 ·intro k
  rw [if_neg]
  rintro ⟨x,_,_,h⟩
  simp at h
 ·rw [List.filter_eq_self.2]
  intro y _;simp
 rintro n _ w4 ⟨seen,r',c',hS4,hx4,hm4,hit4,hitl,hown4,hview,hn,htot,hsrc⟩ K hK
 have hFB:∀ b∈fp++fr.flatMap (fun x=>jw x.2.1.1),b < w4.heap.size/\b≠H.size/\b≠H2.size/\(b∈fp\/H.size<=b):=by
  intro b hb
  rcases List.mem_append.1 hb with hb | hb
  ·have:=hfp b hb
   have:=hx4.1
   exact⟨by omega,by omega,by omega,.inl hb⟩
  ·obtain⟨x,hx,hb⟩:=List.mem_flatMap.1 hb
   rcases hown4 x hx with⟨h,_⟩ | ⟨bb,cc,h,hge',hbb,_⟩
   ·simp [jw,h] at hb
   ·simp only [jw,h,List.mem_singleton] at hb
    subst hb
    exact⟨lt_of_get hbb,fun e=>(by rw [e,hm4] at hbb;cases hbb),fun e=>(by rw [e,hit4] at hbb;cases hbb),.inr hge'⟩
 have hfrlen:fr.length<=Ls.length:=hfl
 rcases z0z (P:=P) (ty:=0) rfl hm4 hit4 hok.old (Nat.le_refl _) with⟨hall,w5,hr5,hcm5,hw5⟩ | ⟨x,hx,hns,w5,hr5,hcm5,hw5⟩
 ·refine zaf (s:=.any) _ w5 hr5 ?_ hcm5
  refine ziv (s:=.bool) false rfl rfl ?_
  refine qp rfl ?_
  refine⟨0,r',c',_,rfl,by rw [hw5];exact hS4,by rw [hw5];exact hx4,fun b hb=>by rw [hw5];exact (hFB b hb).1,fun b hb=>(hFB b hb).2.2.2,⟨fun h=>absurd h hnl,fun _ h=>absurd h hfit,fun _ _=>⟨rfl,fun k=>?_⟩⟩,by omega⟩
  rw [hview,<-hF,zv5]
  by_cases hk:∃ x∈fr,x.1=k/\x.2.2∈seen
  ·rw [if_pos hk]
  ·rw [if_neg hk]
   have:zcq fr k=none:=by
    unfold zcq
    rw [zn0];rfl
    intro x hx e
    exact hk ⟨x,hx,e,hall x hx⟩
   rw [this];rfl
 ·refine zaf (s:=.any) _ w5 hr5 ?_ hcm5
  refine ziv (s:=.bool) true rfl rfl ?_
  refine jh rfl ?_
  refine joinP_of (fun _ w=>∃ n',n' < n/\Ph3 H fp p q r fr cf H2.size n' w) ?_ (fun _ w h=>by obtain⟨n',hn',hp⟩:=h;exact hK n' _ _ hn' hp)
  have hx1:x.1.length=32:=hok.fine x hx
  generalize hH4:w4.heap=H4 at *
  have hit5:w5.heap[H2.size]?=some (.mapIter (some H.size) cf (seen.push x.2.2) cf):=by rw [hw5];exact qy hit4
  have hx45:Ext [H2.size] H4 w5.heap:=by rw [hw5];exact Ext.set _ (by simp)
  generalize hH5:w5.heap=H5 at *
  clear hw5
  have hm5:=hx45.get hm4 (by simp;omega)
  refine qc (s:=.any) _ (zwe (last:=cf) hH5 hm5 hit5 hx hok) ?_
  refine ziv (s:=.any) (arr x.1) rfl rfl ?_
  refine ziv (s:=.slc) x.2.1.1 rfl rfl ?_
  refine ji hH5 fun w6 hw6=>?_
  refine zbe (z5l.trans (by rw [zb1,hx1])) (by rw [zb1,hx1];omega) zay hw6 zk (by rw [qdw,zb1,hx1];simp) fun w7 hw7=>?_
  rw [show setCells (zc P zf) 0 (Value.cells (arr x.1)).toList=(byteCells x.1).toArray from by rw [zau (by rw [qdw,Array.length_toList,zb1,hx1];simp)];simp [Value.cells,arr]] at hw7
  have hx57:Ext [] H5 w7.heap:=by rw [hw7];exact (Ext.push _).set_own (.inl (Nat.le_refl _))
  have hk7:w7.heap[H5.size]?=some (.cells (byteCells x.1).toArray zf (0,0)):=by rw [hw7];exact qy zk
  generalize hH7:w7.heap=H7 at *
  clear hw7
  have hx47:Ext [H2.size] H4 H7:=hx45.trans (hx57.mono (by simp))
  have hS7:=hS4.ext hx47 fun b hb=>by simpa using (hFB b hb).2.2.1
  have hx7:Ext fp H H7:=hx4.own hx47 (by intro b hb hlt;simp at hb;omega)
  have hm7:=hx57.get hm5 (by simp)
  have hit7:=hx57.get hit5 (by simp)
  have hown7:∀ x∈fr,Mine H7 H.size zac 1 x.2.1.1 (byteCells x.2.1.2):=fun y hy=>(hown4 y hy).ext hx47 fun b hb=>by
   simpa using (hFB b (List.mem_append.2 (.inr (List.mem_flatMap.2 ⟨y,hy,hb⟩)))).2.2.1
  have hR7:=hR.ext hx7 h0
  obtain⟨m',g1,g2,g3,g4,g5,g6,g7⟩:=hS7
  have hvx:zcq r' x.1=zcq r x.1:=by
   rw [hview,if_neg]
   rintro ⟨y,hy,e,hs⟩
   rw [key_inj hok hy hx e] at hs
   exact hns hs
  have hfx:zcq fr x.1=some x.2.1.2:=by
   unfold zcq
   rw [zp2 hok.keys (k:=x.1) (v:=x.2.1) (c:=x.2.2) hx];rfl
  have hdone:∀ k,(∃ y∈fr,y.1=k/\y.2.2∈seen.push x.2.2) ↔ (k=x.1\/∃ y∈fr,y.1=k/\y.2.2∈seen):=by
   intro k
   constructor
   ·rintro ⟨y,hy,e,hs⟩
    rcases Array.mem_push.1 hs with hs | hs
    ·exact .inr ⟨y,hy,e,hs⟩
    ·rw [<-e,Go.Fw.born_inj hok hy hx hs];exact .inl rfl
   ·rintro (rfl | ⟨y,hy,e,hs⟩)
    ·exact⟨x,hx,rfl,Array.mem_push.2 (.inr rfl)⟩
    ·exact⟨y,hy,e,Array.mem_push.2 (.inl hs)⟩
  have hlt:=zuw (l:=fr) hx hns
  have fin:∀ (w:World) (r2:SM) (c2:Nat),Store w.heap (fp++fr.flatMap fun x=>jw x.2.1.1) p q r2 c2->Ext fp H7 w.heap->Ext [p,m'] H7 w.heap->(∀ k,zcq r2 k=if k=x.1 then qh4 (zcq r k) (some x.2.1.2) k else zcq r' k) ->
    total r2<=total r'+4096->(∀ y∈r2,(∀ b∈jw y.2.1.1,b∈fp)\/∃ z∈fr,z.1=y.1/\z.2.1=y.2.1)->∃ n',n' < n/\Ph3 H fp p q r fr cf H2.size n' w:=by
   intro w r2 c2 hS2 hxe hxe2 hv2 ht2 hs2
   have np:∀ b,(b=H.size\/b=H2.size)->b∉[p,m']:=by
    intro b hb hb'
    simp only [List.mem_cons,List.not_mem_nil,or_false] at hb'
    rcases hb' with rfl | rfl
    ·have:=hFB b g4;omega
    ·have:=hFB b g5;omega
   refine⟨(fr.filter fun y=>!(seen.push x.2.2).contains y.2.2).length,by omega,seen.push x.2.2,r2,c2,hS2,hx7.trans hxe,hxe2.get hm7 (np _ (.inl rfl)),hxe2.get hit7 (np _ (.inr rfl)),hitl,?_,?_,rfl,by omega,hs2⟩
   ·intro y hy
    refine (hown7 y hy).ext hxe2 fun b hb hb'=>?_
    rcases hown7 y hy with⟨h,_⟩ | ⟨bb,cc,h,_,hbb,_⟩
    ·simp [jw,h] at hb
    ·simp only [jw,h,List.mem_singleton] at hb
     subst hb
     simp only [List.mem_cons,List.not_mem_nil,or_false] at hb'
     rcases hb' with e | e
     ·rw [e,g1] at hbb;cases hbb
     ·rw [e,g2] at hbb;cases hbb
   ·intro k
    rw [hv2]
    by_cases hk:k=x.1
    ·rw [if_pos hk,if_pos ((hdone k).2 (.inl hk)),hk,hfx]
    ·rw [if_neg hk,hview]
     by_cases hd:∃ y∈fr,y.1=k/\y.2.2∈seen
     ·rw [if_pos hd,if_pos ((hdone k).2 (.inr hd))]
     ·rw [if_neg hd,if_neg fun h=>by rcases (hdone k).1 h with h | h;exact hk h;exact hd h]
  refine vw hH7 fun w8 hw8=>?_
  refine jg (t:=some m') hw8 g1 rfl ?_
  refine xw hw8 hk7 (by simp [byteCells,hx1]) ?_
  refine zct (l:=[.slc,.bool]) (((zc6 r' x.1).map (·.1)).getD (none,0,0),(zc6 r' x.1).isSome) ?_ ?_
  ·refine (zfv K27 u57 z22 hw8 g2 g3 hx1).trans ?_
   cases zc6 r' x.1 <;> rfl
  refine joinP_of (fun _ w=>Ext [] H7 w.heap/\∀ old,zcq r x.1=some old->Sha.sum old≠x.1) ?_ ?_
  ·refine vw hw8 fun w9 hw9=>?_
   cases hg:zc6 r' x.1 with
   | none=>
    refine qp rfl ?_
    refine⟨trivial,by rw [hw9];exact .refl _ _,fun old ho=>?_⟩
    rw [<-hvx] at ho
    simp [zcq,hg] at ho
   | some v=>
    have hv:zcq r x.1=some v.2:=by rw [<-hvx];simp [zcq,hg]
    obtain⟨bv',hbv,_⟩:=z4e g3 hg
    have hO:Mine H7 0 zac 1 v.1 (byteCells v.2):=(g6 _ hbv).1
    have hvl:=hlen _ _ hv
    have hle:v.1.2.1<=v.1.2.2:=by
     rcases hO with⟨h,_⟩ | ⟨_,_,_,_,_,_,_,h,_⟩
     ·rw [h];exact Nat.le_refl _
     ·exact h
    have hll:=hO.len
    rw [zam,Nat.mul_one] at hll
    refine jh rfl ?_
    refine xw hw9 hk7 (by simp [byteCells,hx1]) ?_
    refine zh (qeq hw9 hO.cells (by simp only [Option.map_some,Option.getD_some];exact hll.symm) (by simpa using hle) hR7 (by omega)) ?_
    rintro e w10 ⟨rfl,hx10⟩
    refine⟨arr (Sha.sum v.2),rfl,?_⟩
    refine⟨xw rfl (hx10.get hk7 (by simp)) (by simp [byteCells,hx1]) rfl,?_⟩
    refine qc (s:=.bool) _ (qg1 u27 u5 c5 g27 zbm hx1) ?_
    refine zy (fun hs=>?_) (fun hs=>?_)
    ·-- whole already
     refine fin _ r' c' ?_ (hx10.mono (by simp)) (hx10.mono (by simp)) (fun k=>?_) (by omega) hsrc
     ·have:=(show Store H7 (fp++fr.flatMap fun x=>jw x.2.1.1) p q r' c' from ⟨m',g1,g2,g3,g4,g5,g6,g7⟩)
      exact this.ext hx10 (by simp)
     ·by_cases hk:k=x.1
      ·subst hk
       rw [if_pos rfl,hvx,hv]
       simp [qh4,hs]
      ·rw [if_neg hk]
    ·refine⟨hx10,fun old ho=>?_⟩
     rw [hv] at ho
     cases ho
     exact hs
  ·rintro _ w9 ⟨hx79,hold⟩
   generalize hH9:w9.heap=H9 at *
   have g1':=hx79.get g1 (by simp)
   have hol:(((((zc6 r' x.1).map fun v:BV=>v.1).getD ((none,0,0):Option Addr×Nat×Nat)).2.1:Nat):Int)=(qco r x.1:Int):=by
    unfold qco
    rw [<-hvx]
    unfold zcq
    cases hg:zc6 r' x.1 with
    | none=>rfl
    | some v=>
     obtain⟨bv',hbv,_⟩:=z4e g3 hg
     have hO:Mine H7 0 zac 1 v.1 (byteCells v.2):=(g6 _ hbv).1
     have hll:=hO.len
     rw [zam,Nat.mul_one] at hll
     simp [hll]
   have hxlen:x.2.1.1.2.1=x.2.1.2.length:=by
    have:=(hown7 x hx).len
    rw [zam] at this;omega
   have hx4k:=(hown x hx).2
   have htu:=z2s g3 (k:=x.1) (v:=x.2.1) (c':=c')
   have hol2:qco r' x.1=qco r x.1:=by unfold qco;rw [hvx]
   rw [hol2] at htu
   have htb:total r'<=total r+4096 * fr.length:=by omega
   refine jg (t:=(total r':Int)) hH9 g1' rfl ?_
   refine zdb ((x.2.1.2.length:Int)-(qco r x.1:Int)) (by rw [hol,hxlen]) (by omega) (by omega) ?_
   refine jr ((total (zl9 r' x.1 x.2.1 c'):Nat):Int) (by omega) (by omega) (by omega) ?_
   refine zb8 hH9 g1' (by simp) fun w10 hw10=>?_
   refine vw hw10 fun w11 hw11=>?_
   have hpm:p≠m':=by intro e;rw [e] at g1;rw [g1] at g2;cases g2
   have g2':=hx79.get g2 (by simp)
   have hk9:=hx79.get hk7 (by simp)
   have hp10:w10.heap[p]?=some (.cells #[Value.int .i64 q,.int .i64 (total (zl9 r' x.1 x.2.1 c'):Int),.map (some m')] zg1 (0,0)):=by rw [hw10];exact qy g1'
   have hm10:w10.heap[m']?=some (.map (ents arr (vl bv r')) c'):=by rw [hw10];exact zd8 g2' (Ne.symm hpm)
   have hk10:w10.heap[H5.size]?=some (.cells (byteCells x.1).toArray zf (0,0)):=by
    rw [hw10];exact zd8 hk9 (show H5.size≠p from fun e=>by rw [<-e,hk7] at g1;injection g1 with g1;injection g1 with _ g1;exact absurd g1 (by decide))
   have hx10:Ext [p] H7 w10.heap:=by rw [hw10];exact (hx79.mono (by simp)).trans (Ext.set _ (by simp))
   rw [<-hw10] at hw11
   generalize w10.heap=H10 at *
   refine jg (t:=some m') hw11 hp10 rfl ?_
   refine xw hw11 hk10 (by simp [byteCells,hx1]) ?_
   refine zm1 _ (zjn K27 u57 hw11 hm10 g3 hx1 x.2.1 rfl) ?_
   have hx11:Ext [p,m'] H7 (H10.setIfInBounds m' (.map (ents arr (vl bv (zl9 r' x.1 x.2.1 c'))) (zqn r' x.1 c'))):=(hx10.mono (by simp)).trans (Ext.set _ (by simp))
   have hpf:p∈fp:=h4
   have hpm':m'∈fp:=by
    rcases List.mem_append.1 g5 with h | h
    ·exact h
    ·obtain⟨z,hz,hb⟩:=List.mem_flatMap.1 h
     rcases hown7 z hz with⟨h,_⟩ | ⟨bb,cc,h,_,hbb,_⟩
     ·simp [jw,h] at hb
     ·simp only [jw,h,List.mem_singleton] at hb
      subst hb
      rw [g2] at hbb;cases hbb
   refine fin _ (zl9 r' x.1 x.2.1 c') (zqn r' x.1 c') ⟨m',zd8 hp10 hpm,qy hm10,g3.upd hx1 _,g4,g5,?_,?_⟩ (hx11.mono (by simp [hpf,hpm'])) hx11 (fun k=>?_) (by omega) ?_
   ·intro y hy
    have ex:∀ (s:BV),(∀ b∈jw s.1,b∈fp++fr.flatMap fun x=>jw x.2.1.1)->∀ B,Mine H7 B zac 1 s.1 (byteCells s.2)->Mine (H10.setIfInBounds m' (.map (ents arr (vl bv (zl9 r' x.1 x.2.1 c'))) (zqn r' x.1 c'))) 0 5 1 s.1 (byteCells s.2):=by
     intro s _ B hO
     refine (hO.mono (Nat.zero_le _)).ext hx11 fun b hb hb'=>?_
     rcases hO with⟨h,_⟩ | ⟨bb,cc,h,_,hbb,_⟩
     ·simp [jw,h] at hb
     ·simp only [jw,h,List.mem_singleton] at hb
      subst hb
      simp only [List.mem_cons,List.not_mem_nil,or_false] at hb'
      rcases hb' with e | e
      ·rw [e,g1] at hbb;cases hbb
      ·rw [e,g2] at hbb;cases hbb
    rcases zkc hy with⟨hy1,hy2⟩ | ⟨hy1,hy2⟩
    ·rw [hy2]
     have hsub:∀ b∈jw x.2.1.1,b∈fp++fr.flatMap fun x=>jw x.2.1.1:=fun b hb=>List.mem_append.2 (.inr (List.mem_flatMap.2 ⟨x,hx,hb⟩))
     exact⟨ex _ hsub _ (hown7 x hx),hsub⟩
    ·exact⟨ex _ (g6 y hy2).2 _ (g6 y hy2).1,(g6 y hy2).2⟩
   ·-- apart
    have sep:∀ y∈r',y.1≠x.1->∀ b∈jw y.2.1.1,b∉jw x.2.1.1:=by
     intro y hy hne b hb hb'
     rcases hsrc y hy with h | ⟨z,hz,hz1,hz2⟩
     ·have:=hfp b (h b hb)
      have:=jo (hown7 x hx) b hb'
      omega
     ·rw [<-hz2] at hb
      exact hap z hz x hx (by rw [hz1];exact hne) b hb hb'
    intro y hy y' hy' hne b hb hb'
    rcases zkc hy with⟨a1,a2⟩ | ⟨a1,a2⟩ <;> rcases zkc hy' with⟨b1,b2⟩ | ⟨b1,b2⟩
    ·exact hne (a1.trans b1.symm)
    ·rw [a2] at hb
     exact sep y' b2 b1 b hb' hb
    ·rw [b2] at hb'
     exact sep y a2 a1 b hb hb'
    ·exact g7 y a2 y' b2 hne b hb hb'
   ·rw [qd2]
    by_cases hk:k=x.1
    ·rw [if_pos hk,if_pos hk]
     subst hk
     cases hv:zcq r x.1 with
     | none=>rfl
     | some old=>simp only [qh4,if_neg (hold old hv)]
    ·rw [if_neg hk,if_neg hk]
   ·intro y hy
    rcases zkc hy with⟨a1,a2⟩ | ⟨a1,a2⟩
    ·exact .inr ⟨x,hx,a1.symm,a2.symm⟩
    ·exact hsrc y a2
def nought:List UInt8:=List.replicate 32 0
theorem zjx:nought.length=32:=by simp [nought]
end Go.Proofs.YthaaekcaaecdeaaGreatDoor.Bl
namespace Go.Fw.Sha
open Go.Fw
def M32:Nat:=4294967296
def rN (x n:Nat):Nat:=x >>> n ||| (x <<< (32-n)) % M32
def force (n:Nat) (k:Nat->List Nat):List Nat:=Nat.rec (k 0) (fun m _=>k (Nat.succ m)) n
theorem force_eq (n:Nat) (k:Nat->List Nat):force n k=k n:=by cases n <;> rfl
def qg6 (ws:List Nat):Nat:=
 let x:=ws.getD 1 0
 let y:=ws.getD 14 0
 ((((rN x 17 ^^^ rN x 19 ^^^ x >>> 10)+ws.getD 6 0) % M32+(rN y 7 ^^^ rN y 18 ^^^ y >>> 3)) % M32+ws.getD 15 0) % M32
def z2w:Nat->List Nat->List Nat
 | 0,ws=>ws
 | n+1,ws=>force (qg6 ws) fun v=>z2w n (v :: ws)
def qlv (x:Nat):Nat:=4294967295-x
def qk3 (e f g h k w:Nat):Nat:=((((h+(rN e 6 ^^^ rN e 11 ^^^ rN e 25)) % M32+(e &&& f ^^^ qlv e &&& g)) % M32+k) % M32+w) % M32
def qlh (a b c:Nat):Nat:=((rN a 2 ^^^ rN a 13 ^^^ rN a 22)+(a &&& b ^^^ a &&& c ^^^ b &&& c)) % M32
def zy4:List Nat->List Nat->(a b c d e f g h:Nat)->List Nat
 | k :: ks,w :: ws,a,b,c,d,e,f,g,h=>
  force (qk3 e f g h k w) fun t1=>force ((t1+qlh a b c) % M32) fun a'=>force ((d+t1) % M32) fun e'=>zy4 ks ws a' a b c e' e f g
 | _,_,a,b,c,d,e,f,g,h=>[a,b,c,d,e,f,g,h]
def nums (f:Nat->BitVec 32) (n:Nat):List Nat:=(List.range n).map fun i=>(f i).toNat
def znk (f:Nat->BitVec 32):Nat->List Nat
 | 0=>[]
 | n+1=>(f n).toNat :: znk f n
theorem zoi (f:Nat->BitVec 32):∀ (n i:Nat),i < n->(znk f n).getD i 0=(f (n-1-i)).toNat
 | 0,_,h=>by omega
 | n+1,0,_=>by simp [znk]
 | n+1,i+1,h=>by
  have:=zoi f n i (by omega)
  simp only [znk,List.getD_cons_succ,this]
  congr 2
  omega
theorem zzs (x:BitVec 32) (n:Nat):(rotr x n).toNat=rN x.toNat n:=by
 simp [rotr,rN,M32]
theorem qcx (m:Nat->BitVec 32){t:Nat}(h:16<=t):qg6 (znk (W m) t)=(W m t).toNat:=by
 rw [W_ge h]
 simp only [qg6,zoi _ _ _ (show 1 < t by omega),zoi _ _ _ (show 14 < t by omega),zoi _ _ _ (show 6 < t by omega),zoi _ _ _ (show 15 < t by omega),BitVec.toNat_add,BitVec.toNat_xor,zzs,BitVec.toNat_ushiftRight]
 rw [show t-1-1=t-2 from by omega,show t-1-14=t-15 from by omega,show t-1-6=t-7 from by omega,show t-1-15=t-16 from by omega]
 rfl
theorem z6w (m:Nat->BitVec 32):∀ (n t:Nat),16<=t->z2w n (znk (W m) t)=znk (W m) (t+n)
 | 0,t,_=>rfl
 | n+1,t,h=>by
  rw [z2w,force_eq,qcx m h]
  show z2w n (znk (W m) (t+1))=_
  rw [z6w m n (t+1) (by omega),show t+1+n=t+(n+1) from by omega]
theorem qi3 (s:Nat->BitVec 32) (k w:BitVec 32):(one s k w).toNat=qk3 (s 4).toNat (s 5).toNat (s 6).toNat (s 7).toNat k.toNat w.toNat:=by
 simp only [one,qk3,BitVec.toNat_add,BitVec.toNat_xor,zzs,BitVec.toNat_and,BitVec.toNat_not,qlv]
 rfl
theorem qjw (s:Nat->BitVec 32):(two s).toNat=qlh (s 0).toNat (s 1).toNat (s 2).toNat:=by
 simp only [two,qlh,BitVec.toNat_add,BitVec.toNat_xor,zzs,BitVec.toNat_and]
 rfl
def zq3 (f:Nat->BitVec 32) (t:Nat):Nat->List Nat
 | 0=>[]
 | n+1=>(f t).toNat :: zq3 f (t+1) n
theorem z1d (w s:Nat->BitVec 32):∀ (n t:Nat),zy4 (zq3 K t n) (zq3 w t n) (rnd w s t 0).toNat (rnd w s t 1).toNat (rnd w s t 2).toNat (rnd w s t 3).toNat (rnd w s t 4).toNat (rnd w s t 5).toNat (rnd w s t 6).toNat (rnd w s t 7).toNat =
  nums (rnd w s (t+n)) 8
 | 0,t=>rfl
 | n+1,t=>by
  simp only [zq3,zy4,force_eq]
  rw [<-qi3,<-qjw]
  have h:=z1d w s n (t+1)
  rw [show t+1+n=t+(n+1) from by omega] at h
  rw [<-h]
  congr 1
theorem z09 (f:Nat->BitVec 32):∀ (n:Nat) (l:List Nat),(znk f n).reverse++l=zq3 f 0 n++l:=by
 have key:∀ (n t:Nat),zq3 f t (n+1)=zq3 f t n++[(f (t+n)).toNat]:=by
  intro n
  induction n with
  | zero=>intro t;rfl
  | succ n ih=>
   intro t
   rw [zq3,ih (t+1),show t+1+n=t+(n+1) from by omega]
   rfl
 intro n
 induction n with
 | zero=>intro l;rfl
 | succ n ih=>
  intro l
  rw [znk,List.reverse_cons,List.append_assoc,ih,key,Nat.zero_add]
  simp
def qfp (ms:List Nat) (s:List Nat):List Nat:=
 let ws:=(z2w 48 ms.reverse).reverse
 (zy4 kc ws (s.getD 0 0) (s.getD 1 0) (s.getD 2 0) (s.getD 3 0) (s.getD 4 0) (s.getD 5 0) (s.getD 6 0) (s.getD 7 0)).zipWith (fun x y=>(y+x) % M32) s
theorem qkv:zq3 K 0 64=kc:=by kernel_rfl
theorem qg5 (s m:Nat->BitVec 32):qfp (zq3 m 0 16) (nums s 8)=nums (comp s m) 8:=by
 have h1:(zq3 m 0 16).reverse=znk (W m) 16:=by
  have h2:znk (W m) 16=znk m 16:=by
   have:∀ n,n<=16->znk (W m) n=znk m n:=by
    intro n
    induction n with
    | zero=>intro _;rfl
    | succ n ih=>
     intro hn
     rw [znk,znk,ih (by omega),W_lt (by omega)]
   exact this 16 (Nat.le_refl _)
  rw [h2]
  have:=z09 m 16 []
  simp only [List.append_nil] at this
  rw [<-this,List.reverse_reverse]
 have h3:((znk (W m) 64).reverse)=zq3 (W m) 0 64:=by
  have:=z09 (W m) 64 []
  simpa using this
 unfold qfp
 simp only [h1]
 rw [z6w m 48 16 (Nat.le_refl _),h3,<-qkv]
 have h4:=z1d (W m) s 64 0
 have h5:∀ i,i < 8->(nums s 8).getD i 0=(rnd (W m) s 0 i).toNat:=by
  intro i hi
  simp [nums,List.getD_eq_getElem?_getD,hi,rnd]
 rw [h5 0 (by omega),h5 1 (by omega),h5 2 (by omega),h5 3 (by omega),h5 4 (by omega),h5 5 (by omega),h5 6 (by omega),h5 7 (by omega),h4]
 simp only [nums,Nat.zero_add]
 rw [List.zipWith_map,List.zipWith_self]
 apply List.map_congr_left
 intro i _
 simp only [comp,BitVec.toNat_add]
 rfl
def qgf (l:List UInt8) (n t:Nat):Nat:=((nth l (64 * n+4 * t)).toNat <<< 24) % M32 ||| ((nth l (64 * n+(4 * t+1))).toNat <<< 16) % M32 ||| ((nth l (64 * n+(4 * t+2))).toNat <<< 8) % M32 ||| (nth l (64 * n+(4 * t+3))).toNat
def z5x (l:List UInt8) (n:Nat):Nat->Nat->List Nat
 | _,0=>[]
 | t,k+1=>qgf l n t :: z5x l n (t+1) k
def z0b (l:List UInt8):Nat->List Nat
 | 0=>ic
 | n+1=>qfp (z5x l n 0 16) (z0b l n)
theorem qf8 (b:UInt8):(b32 b).toNat=b.toNat:=by
 have:=b.toNat_lt
 simp [b32]
theorem qem (l:List UInt8) (n t:Nat):qgf l n t=(word (fun j=>nth l (64 * n+j)) t).toNat:=by
 simp only [qgf,word,BitVec.toNat_or,BitVec.toNat_shiftLeft,qf8]
 rfl
theorem z2r (l:List UInt8) (n:Nat):∀ (k t:Nat),z5x l n t k=zq3 (word (fun j=>nth l (64 * n+j))) t k
 | 0,_=>rfl
 | k+1,t=>by rw [z5x,zq3,qem,z2r l n k (t+1)]
theorem qkn:nums init 8=ic:=by kernel_rfl
theorem zyj (l:List UInt8):∀ n,z0b l n=nums (blocks l n) 8
 | 0=>qkn.symm
 | n+1=>by rw [z0b,blocks,<-qg5,zyj l n,z2r]
def qmc (l:List UInt8):List UInt8:=
 let s:=z0b (pad l) ((pad l).length / 64)
 (List.range 32).map fun i=>UInt8.ofNat (s.getD (i / 4) 0 >>> (24-8 * (i % 4)))
theorem sum_eq (l:List UInt8):sum l=qmc l:=by
 unfold sum qmc
 apply List.map_congr_left
 intro i hi
 have hi:i < 32:=by simpa using hi
 simp only [zyj,out]
 have:(nums (blocks (pad l) ((pad l).length / 64)) 8).getD (i / 4) 0=(blocks (pad l) ((pad l).length / 64) (i / 4)).toNat:=by
  have:i / 4 < 8:=by omega
  simp [nums,List.getD_eq_getElem?_getD,this]
 rw [this]
 simp [lo8]
end Go.Fw.Sha
namespace Go.Proofs.YthaaekcaaecdeaaGreatDoor.Bl
open Go Go.Fw Go.Proofs
theorem qhn:P.underlying jq=some (.slice zf):=by kernel_rfl
theorem E27:Elem P zf 32 32:=zii (z:=arr (List.replicate 32 0)) (by kernel_rfl) rfl
def pad (L:List UInt8):List UInt8:=(L++List.replicate 32 0).take 32
theorem qfr (L:List UInt8):(pad L).length=32:=by simp [pad]
theorem qju {L:List UInt8}(h:L.length=32):pad L=L:=by unfold pad;rw [<-h];simp
def zd7 (L:List UInt8):List Value:=byteCells (pad L)
theorem zck (L:List UInt8):(zd7 L).length=32:=by rw [zd7,zam,qfr]
theorem zhq {L:List UInt8}(h:L.length=32):zd7 L=byteCells L:=by rw [zd7,qju h]
theorem qho {L:List UInt8}(h:L.length=32):Value.agg (zd7 L).toArray=arr L:=by rw [zhq h];rfl
theorem znp {L:List UInt8}:zbo (zd7 L):=zay
end Go.Proofs.YthaaekcaaecdeaaGreatDoor.Bl
namespace Go.Proofs.YthaaekcaaecdeaaGreatDoor.Bl
open Go Go.Fw Go.Proofs
def qi2 (rl:SM):Prop:=rl.Pairwise fun a b=>Lib.compareBytes a.1 b.1 < 0
structure ROk (rl:SM):Prop where
 len:∀ x∈rl,x.1.length=32
 rise:qi2 rl
theorem zn9 {α:Type}{enc:α->List Value}{sz:Nat}{H:Heap}{a:Option Addr}{len:Nat}(hk:∀ x,(enc x).length=sz) (h0:0 < sz){xs:List α}{v:α}{i:Nat}{n:Int}(hL:Cells H a (xs.flatMap enc))
  (hlen:len=xs.length) (hi:xs[i]?=some v) (hn:n=(i:Int)){K:Addr->Prop}(hK:∀ b o c T fr,a.map (·.block)=some b->H[b]?=some (.cells c T fr)->o+sz<=c.size->(∀ j,j < sz->c[o+j]?=(enc v)[j]?)->(a=some ⟨b,0,none⟩->o=i * sz)->K ⟨b,o,none⟩):ixS a len sz n K:=by
 have hlt:=(List.getElem?_eq_some_iff.1 hi).1
 rcases hL with h | ⟨b,o,c,T,fr,rfl,hb,hsz,hc⟩
 ·have:=congrArg List.length h
  rw [xg enc hk] at this
  have:=Nat.mul_pos (show 0 < xs.length by omega) h0
  simp_all
 ·refine qdt i hn (by omega) ?_
  have hm:i * sz+sz<=xs.length * sz:=by
   have:=Nat.mul_le_mul_right sz (show i+1<=xs.length by omega)
   rw [Nat.add_mul] at this;omega
  rw [xg enc hk] at hsz
  refine hK b (o+i * sz) c T fr rfl hb (by omega) (fun j hj=>?_) (fun h=>by cases h;omega)
  have h2:(xs.flatMap enc)[i * sz+j]?=(enc v)[j]?:=by
   rw [getElem_flatMap enc hk h0]
   have h3:(i * sz+j) / sz=i:=by
    rw [Nat.mul_comm,Nat.mul_add_div h0,Nat.div_eq_of_lt hj];rfl
   have h4:(i * sz+j) % sz=j:=by
    rw [Nat.mul_comm,Nat.mul_add_mod,Nat.mod_eq_of_lt hj]
   rw [h3,h4,hi];rfl
  rw [<-hc,Array.getElem?_toList,Array.getElem?_extract,xg enc hk,if_pos (by omega)] at h2
  rw [<-h2]
  congr 1;omega
structure Split (rl:SM) (k:List UInt8) (pre rest:SM):Prop where
 eq:rl=pre++rest
 lo:∀ x∈pre,Lib.compareBytes x.1 k < 0
 hi:∀ x∈rest,¬Lib.compareBytes x.1 k < 0
end Go.Proofs.YthaaekcaaecdeaaGreatDoor.Bl
namespace Go.Proofs.YthaaekcaaecdeaaGreatDoor.Bl
open Go Go.Fw Go.Proofs
end Go.Proofs.YthaaekcaaecdeaaGreatDoor.Bl
namespace Go.Proofs.YthaaekcaaecdeaaGreatDoor.Bl
open Go Go.Fw Go.Proofs
end Go.Proofs.YthaaekcaaecdeaaGreatDoor.Bl
namespace Go.Proofs.YthaaekcaaecdeaaGreatDoor.Bl
open Go Go.Fw Go.Proofs
end Go.Proofs.YthaaekcaaecdeaaGreatDoor.Bl
namespace Go.Proofs.YthaaekcaaecdeaaGreatDoor.Bl
open Go Go.Fw Go.Proofs
end Go.Proofs.YthaaekcaaecdeaaGreatDoor.Bl
namespace Go.Proofs.YthaaekcaaecdeaaGreatDoor.Bl
open Go Go.Fw Go.Proofs
end Go.Proofs.YthaaekcaaecdeaaGreatDoor.Bl
namespace Go.Proofs.YthaaekcaaecdeaaGreatDoor
open Go Go.Fw Go.Proofs
structure Itm where
 name:List UInt8
 kind:Int
 sum:List UInt8
deriving DecidableEq,Inhabited
structure Nod where
 kind:Int
 data:List UInt8
 size:Int
 parts:List (List UInt8)
 items:List Itm
deriving DecidableEq,Inhabited
def zh3 (i:Itm):List Value:=.string (strOf i.name) :: .int .i64 i.kind :: Bl.zd7 i.sum
theorem zcc (i:Itm):(zh3 i).length=34:=by simp [zh3,Bl.zck]
theorem zy7 {i:Itm}:zbo (zh3 i):=by
 intro v hv
 simp only [zh3,List.mem_cons] at hv
 rcases hv with rfl | rfl | hv
 ·rfl
 ·rfl
 ·exact Bl.znp v hv
def zfb (n:Nod) (xp xi:Option Addr×Nat×Nat):List Value:=[.int .i64 n.kind,.string (strOf n.data),.int .i64 n.size,zdr xp,zdr xi]
structure NodW (H:Heap) (n:Nod) (xp xi:Option Addr×Nat×Nat):Prop where
 parts:Cells H xp.1 (n.parts.flatMap Bl.zd7)
 plen:xp.2.1=n.parts.length
 items:Cells H xi.1 (n.items.flatMap zh3)
 ilen:xi.2.1=n.items.length
 p32:∀ p∈n.parts,p.length=32
 i32:∀ i∈n.items,i.sum.length=32
theorem NodW.ext {H H':Heap}{n:Nod}{xp xi:Option Addr×Nat×Nat}(h:NodW H n xp xi) (hx:Ext [] H H'):NodW H' n xp xi:=
 ⟨h.parts.ext hx (by simp),h.plen,h.items.ext hx (by simp),h.ilen,h.p32,h.i32⟩
def qi0 (i:Itm):List UInt8:=zxb i.name++zmi i.kind++i.sum
def zny (l:List (List UInt8)):List UInt8:=l.flatten
def zvj (l:List Itm):List UInt8:=(l.map qi0).flatten
def zjb (n:Nod):List UInt8:=zmi n.kind++(if n.kind=1 then zxb n.data else if n.kind=2 then zmi n.size++zny n.parts else zmi n.items.length++zvj n.items)
structure SmallN (n:Nod):Prop where
 data:n.data.length<=65536
 parts:n.parts.length<=65536
 items:n.items.length<=65536
 names:∀ i∈n.items,i.name.length<=65536
theorem zsw:∀ {l:List (List UInt8)},(∀ p∈l,p.length=32)->(zny l).length=32 * l.length
 | [],_=>by simp [zny]
 | p :: l,h=>by
  have h1:=h p (by simp)
  have h2:=zsw (l:=l) fun q hq=>h q (by simp [hq])
  simp only [zny,List.flatten_cons,List.length_append,List.length_cons] at *
  omega
theorem qdl {i:Itm}(h:i.name.length<=65536) (h32:i.sum.length=32):(qi0 i).length<=65600:=by
 have h1:=zij (n:=i.name.length) (by omega)
 have h2:=zgb (k:=i.kind)
 simp only [qi0,zxb,List.length_append]
 omega
theorem zvf:∀ {l:List Itm},(∀ i∈l,i.name.length<=65536)->(∀ i∈l,i.sum.length=32)->(zvj l).length<=65600 * l.length
 | [],_,_=>by simp [zvj]
 | i :: l,h,h'=>by
  have h1:=qdl (h i (by simp)) (h' i (by simp))
  have h2:=zvf (l:=l) (fun q hq=>h q (by simp [hq])) (fun q hq=>h' q (by simp [hq]))
  simp only [zvj,List.map_cons,List.flatten_cons,List.length_append,List.length_cons] at *
  omega
theorem z7q {l:List Itm}{i:Itm}:zvj (l++[i])=zvj l++qi0 i:=by simp [zvj]
theorem z3z {l:List (List UInt8)}{p:List UInt8}:zny (l++[p])=zny l++p:=by simp [zny]
theorem qit {w:World}{H1:Heap}{F:List Nat}{b:Nat}{L k:List UInt8}(hO:zt9 H1 F b L w) (hk:k.length=32) (hL:L.length<=274877906944) :
  qj P zfy #[.pointer (some ⟨b,0,none⟩),arr k] w fun e w'=>e=.returned (.tuple #[])/\zt9 H1 F b (L++k) w':=by
 refine zqv ?_
 unfold zlx
 refine ji rfl fun w0 hw0=>?_
 have hx0:Ext [] w.heap w0.heap:=by rw [hw0];exact .push _
 have hd0:w0.heap[w.heap.size]?=some (.cells (byteCells k).toArray zf (0,0)):=by rw [hw0];exact zk
 refine jh rfl ?_
 refine vw rfl fun w1 hw1=>?_
 have hx1:Ext [] w.heap w1.heap:=by rw [hw1];exact hx0
 have hd1:w1.heap[w.heap.size]?=some (.cells (byteCells k).toArray zf (0,0)):=by rw [hw1];exact hd0
 have hO1:=hO.ext hx1
 obtain⟨x,h1,h2,h3,h4,h5,h6⟩:=hO1
 have hxl:x.2.1=L.length:=by have:=h3.len;simp at this;omega
 simp only [jc]
 refine jg (s:=.slc) (t:=x) rfl h2 rfl ?_
 refine qc (s:=.slc) (some (if 32=0 then (⟨w.heap.size,0,none⟩:Addr) else (⟨w.heap.size,0,none⟩:Addr).add (0 * 1)),32-0,32-0) (zhj Bl.u27 sz8 .no .no (by omega) (by omega)) ?_
 have hadd:(some (if 32=0 then (⟨w.heap.size,0,none⟩:Addr) else (⟨w.heap.size,0,none⟩:Addr).add (0 * 1)))=some (⟨w.heap.size,0,none⟩:Addr):=by simp [Addr.add]
 have hcd:Cells w1.heap (some (if 32=0 then (⟨w.heap.size,0,none⟩:Addr) else (⟨w.heap.size,0,none⟩:Addr).add (0 * 1))) (byteCells k):=by
  rw [hadd]
  exact .inr ⟨_,0,_,_,_,rfl,hd1,by simp,by simp [List.take_of_length_le]⟩
 refine zbx E8 (by omega) uS8 (zar uS8) rfl h3 (Nat.zero_le _) (Src.slc rfl hcd (by simp [hk])) zay (by simp only;omega) ?_
 intro x' w4 hm4 hl4 hx4 hs4
 have hb4:w4.heap[b]?=some (.cells #[zdr x] zg0 (0,0)):=hx4.get h2 h4
 refine zb8 rfl hb4 (by simp) fun w5 hw5=>?_
 have hx5:Ext [b] w4.heap w5.heap:=by rw [hw5];exact Ext.set _ (by simp)
 have hs1:=h1.1
 have hbl:=lt_of_get h2
 have hbx:b∉jw x':=fun h=>by
  rcases hs4 b h with h | h
  ·exact h4 h
  ·omega
 refine⟨trivial,x',?_,by rw [hw5];exact qy hb4,?_,hbx,fun c hc=>?_,h6⟩
 ·have h14:Ext (b :: F) H1 w4.heap:=h1.own hx4 (fun c hc hlt=>by
   rcases h5 c hc with h | h
   ·exact List.mem_cons_of_mem _ h
   ·omega)
  exact h14.trans (hx5.mono (by simp))
 ·rw [<-byteCells_append]
  exact hm4.ext hx5 (fun c hc=>by simp only [List.mem_singleton];rintro rfl;exact hbx hc)
 ·rcases hs4 c hc with h | h
  ·exact h5 c h
  ·exact .inr (by omega)
theorem zcT:(zc P jl).size=34:=by kernel_rfl
theorem szT:P.cellsOf jl=34:=by kernel_rfl
theorem zcN:(zc P zu).size=5:=by kernel_rfl
theorem szN:P.cellsOf zu=5:=by kernel_rfl
theorem szD:P.cellsOf zf=32:=by kernel_rfl
theorem zcD:(zc P zf).size=32:=by kernel_rfl
theorem qe3 {w:World}{H:Heap}(n:Nod) (xp xi:Option Addr×Nat×Nat) (hw:w.heap=H){K:Nat->World->Prop}(hK:∀ w',w'.heap=H.push (.cells (zfb n xp xi).toArray zu (0,0))->K H.size w') :
  zat (zc P zu) zu w fun b w1=>zah P (storeVar zu (⟨b,0,none⟩:Addr) (.agg (zfb n xp xi).toArray)) w1 fun w2=>K b w2:=
 zxp (v:=.agg (zfb n xp xi).toArray) szN zcN (by simp [Value.cells,zfb]) (by
  intro v hv
  simp only [Value.cells,zfb,List.mem_cons,List.not_mem_nil,or_false] at hv
  rcases hv with rfl | rfl | rfl | rfl | rfl <;> rfl) hw hK
theorem qj5 {w:World}{H:Heap}(i:Itm) (hw:w.heap=H){K:Nat->World->Prop}(hK:∀ w',w'.heap=H.push (.cells (zh3 i).toArray jl (0,0))->K H.size w') :
  zat (zc P jl) jl w fun b w1=>zah P (storeVar jl (⟨b,0,none⟩:Addr) (.agg (zh3 i).toArray)) w1 fun w2=>K b w2:=
 zxp (v:=.agg (zh3 i).toArray) (by rw [szT];simp [Value.cells,zcc]) (by rw [zcT];simp [Value.cells,zcc]) (by simp [Value.cells,zcc]) (by simpa [Value.cells] using zy7) hw hK
theorem qhp {w:World}{H:Heap}{k:List UInt8}(hk:k.length=32) (hw:w.heap=H){K:Nat->World->Prop}(hK:∀ w',w'.heap=H.push (.cells (byteCells k).toArray zf (0,0))->K H.size w') :
  zat (zc P zf) zf w fun b w1=>zah P (storeVar zf (⟨b,0,none⟩:Addr) (arr k)) w1 fun w2=>K b w2:=
 zxp (v:=arr k) (by rw [szD,Bl.zb1,hk]) (by rw [zcD,Bl.zb1,hk]) (by rw [Bl.zb1];omega) (by simpa [Value.cells,arr] using zay) hw hK
def zq1:List UInt8->List Itm->Bool
 | _,[]=>true
 | last,i :: r=>decide (Lib.compareBytes last i.name < 0)&&zei i.name&&(decide (i.kind=2) || decide (i.kind=3))&&zq1 i.name r
def znw (l:List Itm):Bool:=zq1 [] l&&decide (l.length<=64)
def zu0 (size:Int):Int:=(size+63) / 64
def zdj (n:Nod):Bool:=
 if n.kind=1 then decide (0 < n.data.length/\n.data.length<=64/\n.size=0/\n.parts.length=0/\n.items.length=0)
 else if n.kind=2 then decide (n.data=[]/\0<=n.size/\n.size<=1024/\(n.parts.length:Int)=zu0 n.size/\n.items.length=0)
 else if n.kind=3 then decide (n.data=[]/\n.size=0/\n.parts.length=0)&&znw n.items else false
theorem zv0:∀ {l:List Itm}{last:List UInt8},zq1 last l=true->∀ i∈l,zei i.name=true
 | [],_,_=>by simp
 | i :: r,last,h=>by
  simp only [zq1,Bool.and_eq_true] at h
  intro j hj
  rcases List.mem_cons.1 hj with rfl | hj
  ·exact h.1.1.2
  ·exact zv0 h.2 j hj
theorem z03 {n:Nod}(h:zdj n=true):SmallN n:=by
 unfold zdj at h
 split at h
 ·simp only [decide_eq_true_eq] at h
  have:n.items=[]:=List.eq_nil_of_length_eq_zero h.2.2.2.2
  exact⟨by omega,by omega,by omega,by rw [this];simp⟩
 ·split at h
  ·have h:=of_decide_eq_true h
   unfold zu0 at h
   have:n.items=[]:=List.eq_nil_of_length_eq_zero h.2.2.2.2
   exact⟨by rw [h.1];simp,by omega,by omega,by rw [this];simp⟩
  ·split at h
   ·simp only [Bool.and_eq_true,decide_eq_true_eq,znw] at h
    exact⟨by rw [h.1.1];simp,by omega,by omega,fun i hi=>by have:=(zej.1 (zv0 h.2.1 i hi)).1.2.1;omega⟩
   ·cases h
theorem z0x {L:List UInt8}:zrh [L]=0 ↔ zei L=true:=by
 rw [zum]
 simp [okP]
set_option maxHeartbeats 4000000 in
theorem qde {w:World}{H:Heap}{a:Option Addr}{l c:Nat}{T:List Itm}(hw:w.heap=H) (hL:Cells H a (T.flatMap zh3)) (hl:l=T.length) (hn:∀ i∈T,i.name.length<=9223372036854775807) (hm:T.length<=9223372036854775807) :
  qj P zmv #[.slice a l c] w fun e w'=>e=.returned (.bool (znw T))/\Ext [] H w'.heap:=by
 subst hl
 refine zxc ?_
 unfold zr5
 refine zae (fun (s:ByteArray×Int) W=>∃ (i:Nat) (last:List UInt8),s=(strOf last,(i:Int))/\i<=T.length/\zq1 [] T=zq1 last (T.drop i)/\Ext [] H W.heap) (fun s _=>(T.length-s.2).toNat)
  ⟨0,[],rfl,Nat.zero_le _,by simp,by rw [hw];exact .refl _ _⟩ ?_
 rintro _ W ⟨i,last,rfl,hi,hr,hxW⟩
 refine zy (fun hlt=>?_) (fun hge=>?_)
 ·have hil:i < T.length:=by omega
  have hget:=List.getElem?_eq_getElem hil
  have hmem:T[i]∈T:=List.getElem_mem hil
  have hdrop:T.drop i=T[i] :: T.drop (i+1):=(List.drop_eq_getElem_cons hil)
  rw [hdrop] at hr
  generalize T[i]=v at hget hmem hr
  have hvn:=hn v hmem
  have hfalse:∀ {W':World},Ext [] H W'.heap->zq1 last (v :: T.drop (i+1))=false->(Ending.returned (.bool false)=.returned (.bool (znw T))/\Ext [] H W'.heap):=by
   intro W' hx h
   refine⟨?_,hx⟩
   rw [znw,hr,h];rfl
  refine jf ?_
  refine zff (i:=i) zcc (by omega) rfl (hL.ext hxW (by simp)) rfl hget rfl ?_
  refine qj5 v rfl fun w3 hw3=>?_
  have hx3:Ext [] W.heap w3.heap:=by rw [hw3];exact .push _
  have hb3:w3.heap[W.heap.size]?=some (.cells (zh3 v).toArray jl (0,0)):=by rw [hw3];exact zk
  have hx03:=hxW.trans hx3
  refine joinP_of (fun _ W'=>Ext [] w3.heap W'.heap/\Lib.compareBytes last v.name < 0/\zei v.name=true) ?_ ?_
  ·refine jg (s:=.str) (t:=strOf v.name) rfl hb3 rfl ?_
   refine zbv (p:=¬Lib.compareBytes last v.name < 0) (by
    rw [bytesLess_eq,zbi,zbi,zhu]
    simp only [Bool.or_eq_true,decide_eq_true_eq,beq_iff_eq]
    constructor
    ·rintro (h | h) h2
     ·exact absurd h (by have:=zhu.2 h;have:=zhu.2 h2;have:=zus (a:=last) (b:=v.name);omega)
     ·rw [h] at h2;have:=zhu.2 h2;rw [zi3.2 rfl] at this;omega
    ·intro h
     have h1:¬Lib.compareBytes last v.name < 0:=fun h2=>h (zhu.1 h2)
     have h2:=zus (a:=last) (b:=v.name)
     by_cases h3:Lib.compareBytes v.name last=0
     ·right;exact zi3.1 h3
     ·left;exact zhu.1 (by omega)) (fun h=>hfalse hx03 (by simp [zq1,h])) (fun h=>?_)
   have hlt:Lib.compareBytes last v.name < 0:=by omega
   refine jg (s:=.str) (t:=strOf v.name) rfl hb3 rfl ?_
   refine zaf (s:=.slc) (some ⟨w3.heap.size,0,none⟩,1,1) _ (zee qhb zj6 (v:=.string (strOf v.name)) rfl (by omega) (by omega)) ?_
   have hx4:Ext [] w3.heap (w3.heap.push (.cells (Value.string (strOf v.name)).cells qx)):=.push _
   have hc4:Cells (w3.heap.push (.cells (Value.string (strOf v.name)).cells qx)) (some ⟨w3.heap.size,0,none⟩) (strRow [v.name]):=.inr ⟨_,0,_,_,_,rfl,zk,by simp [strRow,Value.cells],by simp [strRow,Value.cells]⟩
   refine zh (z3o (p:=[v.name]) rfl hc4 rfl (by intro L hL;simp at hL;subst hL;exact hvn) (by simp)) ?_
   rintro e w5 ⟨rfl,hw5⟩
   subst hw5
   refine⟨zrh [v.name],rfl,?_⟩
   refine zbr (fun h=>hfalse (hx03.trans hx4) (by
    have:zei v.name=false:=by rw [<-Bool.not_eq_true];exact fun h2=>h (z0x.2 h2)
    simp [zq1,this])) (fun h=>⟨hx4,hlt,z0x.1 h⟩)
  rintro _ W5 ⟨hx35,hlt,hok⟩
  have hb5:=hx35.get hb3 (by simp)
  have hx05:=hx03.trans hx35
  refine jg (s:=.int .i64) (t:=v.kind) rfl hb5 rfl ?_
  refine joinP_of (fun s' W'=>s'=strOf v.name/\Ext [] H W'.heap/\(v.kind=2\/v.kind=3)) ?_ ?_
  ·refine joinP_of (fun _ W'=>W'=W5/\(v.kind=2\/v.kind=3)) ?_ ?_
   ·refine jf ?_
    refine zba (fun h=>⟨rfl,.inl h⟩) (fun h2=>?_)
    refine zba (fun h=>⟨rfl,.inr h⟩) (fun h3=>hfalse hx05 (by simp [zq1,h2,h3]))
   rintro _ W' ⟨rfl,hk⟩
   exact jg (s:=.str) (t:=strOf v.name) rfl hb5 rfl ⟨rfl,hx05,hk⟩
  rintro _ W' ⟨rfl,hx',hk⟩
  refine jr ((i+1:Nat):Int) (by omega) (by omega) (by omega) ?_
  refine⟨⟨i+1,v.name,rfl,by omega,?_,hx'⟩,by omega⟩
  rw [hr]
  rcases hk with hk | hk <;> simp [zq1,hlt,hok,hk]
 ·obtain rfl:i=T.length:=by omega
  refine⟨?_,hxW⟩
  rw [List.drop_length] at hr
  congr 2
  rw [znw,hr,Bool.eq_iff_iff]
  simp [zq1]
  omega
set_option maxHeartbeats 4000000 in
theorem qbs {w:World}{H:Heap}{n:Nod}{xp xi:Option Addr×Nat×Nat}(hw:w.heap=H) (hN:NodW H n xp xi) (hs:n.size<=4611686018427387904) (hnn:∀ i∈n.items,i.name.length<=9223372036854775807) (hm:n.items.length<=9223372036854775807) :
  qj P zkz #[.agg (zfb n xp xi).toArray] w fun e w'=>e=.returned (.bool (zdj n))/\Ext [] H w'.heap:=by
 obtain⟨g1,g2,g3,g4,g5,g6⟩:=hN
 refine z0d ?_
 unfold ztx
 refine ji hw fun w1 hw1=>?_
 have hx1:Ext [] H w1.heap:=by rw [hw1];exact .push _
 have hb1:w1.heap[H.size]?=some (.cells (zfb n xp xi).toArray zu (0,0)):=by rw [hw1];exact zk
 refine jg (s:=.int .i64) (t:=n.kind) rfl hb1 rfl ?_
 have hle:∀ {k:Nat},(((k:Int)==0)=true) ↔ k=0:=by intro k;simp
 refine zba (fun h1=>?_) (fun h1=>?_)
 ·have hf:∀ {p:Prop},(¬(0 < n.data.length/\n.data.length<=64/\n.size=0/\n.parts.length=0/\n.items.length=0))->(Ending.returned (.bool false)=.returned (.bool (zdj n))/\Ext [] H w1.heap):=by
   intro p h
   exact⟨by rw [zdj,if_pos h1,decide_eq_false h],hx1⟩
  refine jg (s:=.str) (t:=strOf n.data) rfl hb1 rfl ?_
  refine zy (fun h2=>?_) (fun h2=>hf (p:=True) fun h=>h2 (by simp;omega))
  refine jg (s:=.str) (t:=strOf n.data) rfl hb1 rfl ?_
  refine zy (fun h3=>?_) (fun h3=>hf (p:=True) fun h=>h3 (by simp;omega))
  refine jg (s:=.int .i64) (t:=n.size) rfl hb1 rfl ?_
  refine zba (fun h4=>?_) (fun h4=>hf (p:=True) fun h=>h4 h.2.2.1)
  refine jg (s:=.slc) (t:=xp) rfl hb1 rfl ?_
  refine zba (fun h5=>?_) (fun h5=>hf (p:=True) fun h=>h5 (by omega))
  refine jg (s:=.slc) (t:=xi) rfl hb1 rfl ?_
  refine⟨?_,hx1⟩
  rw [zdj,if_pos h1]
  congr 2
  rw [Bool.eq_iff_iff,hle,decide_eq_true_eq,g4]
  simp at h2 h3
  exact⟨fun h=>⟨by omega,by omega,h4,by omega,h⟩,fun h=>h.2.2.2.2⟩
 refine zba (fun h2=>?_) (fun h2=>?_)
 ·have hf:∀ {W:World},Ext [] H W.heap->(¬(n.data=[]/\0<=n.size/\n.size<=1024/\(n.parts.length:Int)=zu0 n.size/\n.items.length=0))->(Ending.returned (.bool false)=.returned (.bool (zdj n))/\Ext [] H W.heap):=by
   intro W hx h
   exact⟨by rw [zdj,if_neg h1,if_pos h2,decide_eq_false h],hx⟩
  refine vw rfl fun w2 hw2=>?_
  have hx2:Ext [] H w2.heap:=by rw [hw2];exact hx1
  have hb2:w2.heap[H.size]?=some (.cells (zfb n xp xi).toArray zu (0,0)):=by rw [hw2];exact hb1
  refine jg (s:=.str) (t:=strOf n.data) rfl hb2 rfl ?_
  refine zbv (p:=n.data=[]) (by rw [zg6]) (fun h3=>?_) (fun h3=>⟨rfl,hf hx2 fun h=>h3 h.1⟩)
  refine jg (s:=.int .i64) (t:=n.size) rfl hb2 rfl ?_
  refine zy (fun h4=>?_) (fun h4=>⟨rfl,hf hx2 fun h=>h4 h.2.1⟩)
  refine jg (s:=.int .i64) (t:=n.size) rfl hb2 rfl ?_
  refine zy (fun h5=>?_) (fun h5=>⟨rfl,hf hx2 fun h=>h5 h.2.2.1⟩)
  refine jg (s:=.slc) (t:=xp) rfl hb2 rfl ?_
  refine jg (s:=.int .i64) (t:=n.size) rfl hb2 rfl ?_
  have hparts:qj P ziu #[.int .i64 n.size] w2 fun e w'=>e=.returned (.int .i64 (zu0 n.size))/\w'=w2:=by
   refine zrm ?_
   unfold zob
   refine jr (n.size+64) rfl (by omega) (by omega) ?_
   refine zdb (n.size+63) (by omega) (by omega) (by omega) ?_
   refine qb6 (n.size+63).toNat 64 (by omega) rfl (by omega) (by omega) ?_
   refine⟨?_,rfl⟩
   congr 2
   unfold zu0
   omega
  refine zh hparts ?_
  rintro e w3 ⟨rfl,rfl⟩
  refine⟨zu0 n.size,rfl,?_⟩
  refine⟨jg (s:=.slc) (t:=xp) rfl hb2 rfl rfl,?_⟩
  refine zba (fun h6=>?_) (fun h6=>hf hx2 fun h=>h6 (by rw [g2];exact h.2.2.2.1))
  refine jg (s:=.slc) (t:=xi) rfl hb2 rfl ?_
  refine⟨?_,hx2⟩
  rw [zdj,if_neg h1,if_pos h2]
  congr 2
  rw [Bool.eq_iff_iff,hle,decide_eq_true_eq,g4]
  rw [g2] at h6
  exact⟨fun h=>⟨h3,h4,h5,h6,h⟩,fun h=>h.2.2.2.2⟩
 refine zba (fun h3=>?_) (fun h3=>⟨by rw [zdj,if_neg h1,if_neg h2,if_neg h3],hx1⟩)
 have hf:¬(n.data=[]/\n.size=0/\n.parts.length=0)->(Ending.returned (.bool false)=.returned (.bool (zdj n))/\Ext [] H w1.heap):=by
  intro h
  exact⟨by rw [zdj,if_neg h1,if_neg h2,if_pos h3,decide_eq_false h];rfl,hx1⟩
 refine jg (s:=.str) (t:=strOf n.data) rfl hb1 rfl ?_
 refine zbv (p:=n.data=[]) (by rw [zg6]) (fun h4=>?_) (fun h4=>hf fun h=>h4 h.1)
 refine jg (s:=.int .i64) (t:=n.size) rfl hb1 rfl ?_
 refine zba (fun h5=>?_) (fun h5=>hf fun h=>h5 h.2.1)
 refine jg (s:=.slc) (t:=xp) rfl hb1 rfl ?_
 refine zba (fun h6=>?_) (fun h6=>hf fun h=>h6 (by omega))
 refine jg (s:=.slc) (t:=xi) rfl hb1 rfl ?_
 refine zh (qde rfl (g3.ext hx1 (by simp)) g4 hnn hm) ?_
 rintro e w4 ⟨rfl,hx4⟩
 refine⟨znw n.items,rfl,?_⟩
 refine⟨?_,hx1.trans hx4⟩
 rw [zdj,if_neg h1,if_neg h2,if_pos h3,decide_eq_true ⟨h4,h5,by omega⟩]
 rfl
theorem qep {n:Nod}:(zmi n.kind).length<=10:=zgb
set_option maxHeartbeats 8000000 in
theorem qak {w:World}{H:Heap}{n:Nod}{xp xi:Option Addr×Nat×Nat}(hw:w.heap=H) (hN:NodW H n xp xi) (hR:zdj n=true) :
  qj P zmz #[.agg (zfb n xp xi).toArray] w fun e w'=>∃ y,e=.returned (.tuple #[zdr y,.int .i64 0])/\Mine w'.heap H.size zac 1 y (byteCells (zjb n))/\Ext [] H w'.heap:=by
 have hS:=z03 hR
 have hsz:n.size<=4611686018427387904:=by
  unfold zdj at hR
  split at hR
  ·have:=of_decide_eq_true hR;omega
  ·split at hR
   ·have:=of_decide_eq_true hR;omega
   ·split at hR
    ·simp only [Bool.and_eq_true,decide_eq_true_eq] at hR;omega
    ·cases hR
 refine zxk ?_
 unfold zq9
 refine ji hw fun w1 hw1=>?_
 have hx1:Ext [] H w1.heap:=by rw [hw1];exact .push _
 have hb1:w1.heap[H.size]?=some (.cells (zfb n xp xi).toArray zu (0,0)):=by rw [hw1];exact zk
 refine xw rfl hb1 rfl ?_
 refine zh (qbs rfl (hN.ext hx1) hsz (fun i hi=>by have:=hS.names i hi;omega) (by have:=hS.items;omega)) ?_
 rintro e w2 ⟨rfl,hx12⟩
 refine⟨zdj n,rfl,?_⟩
 rw [hR]
 refine qp rfl ?_
 have hx2:=hx1.trans hx12
 have hb2:=hx12.get hb1 (by simp)
 rw [zcO]
 refine ji rfl fun w3 hw3=>?_
 have hx23:Ext [] w2.heap w3.heap:=by rw [hw3];exact .push _
 have ho3:w3.heap[w2.heap.size]?=some (.cells #[zdr (none,0,0)] zg0 (0,0)):=by rw [hw3];exact zk
 have hO3:zt9 w3.heap [] w2.heap.size [] w3:=⟨(none,0,0),.refl _ _,ho3,.inl ⟨rfl,rfl⟩,by simp [jw],by simp [jw],lt_of_get ho3⟩
 have hb3:=hx23.get hb2 (by simp)
 have hN3:=hN.ext (hx2.trans hx23)
 have hH2:H.size < w2.heap.size:=lt_of_get hb2
 have keep:∀ {W:World}{K:List UInt8},zt9 w3.heap [] w2.heap.size K W->Ext [w2.heap.size] w3.heap W.heap:=fun ⟨x,h1,_⟩=>h1
 have hne:H.size∉[w2.heap.size]:=by simp;omega
 have u1:=@qep n
 refine jg (s:=.int .i64) (t:=n.kind) rfl hb3 rfl ?_
 refine cvU fun k1 e1 l1=>?_
 refine zh (qbu k1 hO3 l1 (by simp)) ?_
 rintro e w4 ⟨rfl,hO4⟩
 refine⟨(),rfl,?_⟩
 rw [show zx0 k1=zmi n.kind by rw [e1];rfl,List.nil_append] at hO4
 have hx4:=keep hO4
 have hb4:=hx4.get hb3 hne
 refine joinP_of (fun _ W=>zt9 w3.heap [] w2.heap.size (zjb n) W/\(zjb n).length<=274877906944) ?_ ?_
 rotate_left
 ·rintro _ W ⟨hOW,hlen⟩
  refine zh (qgq hOW (by omega)) ?_
  rintro e w5 ⟨y,rfl,hm,hx5⟩
  refine⟨y,rfl,?_⟩
  have hx3W:Ext [] H W.heap:=(hx2.trans hx23).own (keep hOW) (by intro c hc hlt;simp at hc;omega)
  have:=hx3W.1
  exact⟨y,rfl,hm.mono this,hx3W.trans hx5⟩
 refine jg (s:=.int .i64) (t:=n.kind) rfl hb4 rfl ?_
 refine jf ?_
 refine zba (fun h1=>?_) (fun h1=>?_)
 ·refine jg (s:=.str) (t:=strOf n.data) rfl hb4 rfl ?_
  have hd:=hS.data
  refine zh (qe7 n.data hO4 (by omega)) ?_
  rintro e w5 ⟨rfl,hO5⟩
  refine⟨(),rfl,?_⟩
  have nl:=zij (n:=n.data.length) (by omega)
  have:zjb n=zmi n.kind++zxb n.data:=by unfold zjb;rw [if_pos h1]
  rw [this]
  exact⟨hO5,by simp only [List.length_append,zxb];omega⟩
 refine zba (fun h2=>?_) (fun h2=>?_)
 ·refine jg (s:=.int .i64) (t:=n.size) rfl hb4 rfl ?_
  refine cvU fun k2 e2 l2=>?_
  refine zh (qbu k2 hO4 l2 (by omega)) ?_
  rintro e w6 ⟨rfl,hO6⟩
  refine⟨(),rfl,?_⟩
  rw [show zx0 k2=zmi n.size by rw [e2];rfl] at hO6
  have u2:=@zgb n.size
  have hb6:=(keep hO6).get hb3 hne
  refine jg (s:=.slc) (t:=xp) rfl hb6 rfl ?_
  have hpl:=hS.parts
  have hp32:=hN.p32
  have henc:zjb n=zmi n.kind++zmi n.size++zny n.parts:=by unfold zjb;rw [if_neg h1,if_pos h2,List.append_assoc]
  refine zae (fun (s:Int) W=>∃ i:Nat,s=(i:Int)/\i<=n.parts.length/\zt9 w3.heap [] w2.heap.size (zmi n.kind++zmi n.size++zny (n.parts.take i)) W) (fun s _=>(n.parts.length-s).toNat) ⟨0,rfl,Nat.zero_le _,by simpa [zny] using hO6⟩ ?_
  rintro _ W ⟨i,rfl,hi,hOW⟩
  have hpre:(zny (n.parts.take i)).length<=32 * 65536:=by
   rw [zsw fun p hp=>hp32 p (List.mem_of_mem_take hp)]
   simp;omega
  refine zy (fun hlt=>?_) (fun hge=>?_)
  ·have hil:i < n.parts.length:=by have:=hN.plen;omega
   have hget:=List.getElem?_eq_getElem hil
   have hmem:n.parts[i]∈n.parts:=List.getElem_mem hil
   have htake:n.parts.take (i+1)=n.parts.take i++[n.parts[i]]:=by rw [List.take_add_one,hget];rfl
   generalize n.parts[i]=v at hget hmem htake
   have hv:=hp32 v hmem
   have hcW:=hN3.parts.ext (keep hOW) (fun a ha hne2 h=>by
    obtain⟨x,hx,hlt⟩:=hN.parts.lt hne2
    rw [hx] at ha;cases ha
    simp at h;omega)
   refine zff (i:=i) Bl.zck (by omega) rfl hcW hN.plen hget rfl ?_
   rw [Bl.qho hv]
   refine qhp hv rfl fun w9 hw9=>?_
   have hx9:Ext [] W.heap w9.heap:=by rw [hw9];exact .push _
   have hb9:w9.heap[W.heap.size]?=some (.cells (byteCells v).toArray zf (0,0)):=by rw [hw9];exact zk
   refine xw rfl hb9 (by simp [hv]) ?_
   refine zh (qit (k:=v) (hOW.ext hx9) hv (by simp only [List.length_append];omega)) ?_
   rintro e w10 ⟨rfl,hO10⟩
   refine⟨(),rfl,?_⟩
   refine jr ((i+1:Nat):Int) (by omega) (by omega) (by omega) ?_
   refine⟨⟨i+1,rfl,by omega,?_⟩,by omega⟩
   rw [htake,z3z]
   simpa using hO10
  ·obtain rfl:i=n.parts.length:=by have:=hN.plen;omega
   rw [List.take_length] at hOW hpre
   rw [henc]
   exact⟨hOW,by simp only [List.length_append];omega⟩
 ·refine jg (s:=.slc) (t:=xi) rfl hb4 rfl ?_
  have hil:=hN.ilen
  rw [hil]
  refine cvU fun k2 e2 l2=>?_
  refine zh (qbu k2 hO4 l2 (by omega)) ?_
  rintro e w6 ⟨rfl,hO6⟩
  refine⟨(),rfl,?_⟩
  rw [show zx0 k2=zmi (n.items.length:Int) by rw [e2];rfl] at hO6
  have u2:=@zgb (n.items.length:Int)
  have hb6:=(keep hO6).get hb3 hne
  refine jg (s:=.slc) (t:=xi) rfl hb6 rfl ?_
  have hpl:=hS.items
  have hnm:=hS.names
  have hi32:=hN.i32
  have henc:zjb n=zmi n.kind++zmi n.items.length++zvj n.items:=by unfold zjb;rw [if_neg h1,if_neg h2,List.append_assoc]
  refine zae (fun (s:Int) W=>∃ i:Nat,s=(i:Int)/\i<=n.items.length/\zt9 w3.heap [] w2.heap.size (zmi n.kind++zmi n.items.length++zvj (n.items.take i)) W) (fun s _=>(n.items.length-s).toNat) ⟨0,rfl,Nat.zero_le _,by simpa [zvj] using hO6⟩ ?_
  rintro _ W ⟨i,rfl,hi,hOW⟩
  have hpre:(zvj (n.items.take i)).length<=65600 * 65536:=by
   have h:=zvf (l:=n.items.take i) (fun p hp=>hnm p (List.mem_of_mem_take hp)) (fun p hp=>hi32 p (List.mem_of_mem_take hp))
   have:(n.items.take i).length<=65536:=by simp;omega
   omega
  refine zy (fun hlt=>?_) (fun hge=>?_)
  ·have hil2:i < n.items.length:=by omega
   have hget:=List.getElem?_eq_getElem hil2
   have hmem:n.items[i]∈n.items:=List.getElem_mem hil2
   have htake:n.items.take (i+1)=n.items.take i++[n.items[i]]:=by rw [List.take_add_one,hget];rfl
   generalize n.items[i]=v at hget hmem htake
   have hv:=hi32 v hmem
   have hvn:=hnm v hmem
   have hcW:=hN3.items.ext (keep hOW) (fun a ha hne2 h=>by
    obtain⟨x,hx,hlt⟩:=hN.items.lt hne2
    rw [hx] at ha;cases ha
    simp at h;omega)
   refine zff (i:=i) zcc (by omega) rfl hcW hil hget rfl ?_
   refine qj5 v rfl fun w9 hw9=>?_
   have hx9:Ext [] W.heap w9.heap:=by rw [hw9];exact .push _
   have hb9:w9.heap[W.heap.size]?=some (.cells (zh3 v).toArray jl (0,0)):=by rw [hw9];exact zk
   have nl:=zij (n:=v.name.length) (by omega)
   have uk:=@zgb v.kind
   have hOsz:w2.heap.size < W.heap.size:=by have:=(keep hOW).1;have:=lt_of_get ho3;omega
   obtain⟨F9,hO9,hF9,hF9l⟩:=hOW.rebase hx9
   have kp:∀ {K:List UInt8}{W':World},zt9 w9.heap F9 w2.heap.size K W'->W'.heap[W.heap.size]?=some (.cells (zh3 v).toArray jl (0,0)):=by
    intro K W' ⟨x,h1,_⟩
    refine h1.get hb9 fun h=>?_
    rcases List.mem_cons.1 h with h | h
    ·omega
    ·have:=hF9l _ h;omega
   refine jg (s:=.str) (t:=strOf v.name) rfl hb9 rfl ?_
   refine zh (qe7 v.name hO9 (by simp only [List.length_append];omega)) ?_
   rintro e w10 ⟨rfl,hO10⟩
   refine⟨(),rfl,?_⟩
   refine jg (s:=.int .i64) (t:=v.kind) rfl (kp hO10) rfl ?_
   refine cvU fun k3 e3 l3=>?_
   refine zh (qbu k3 hO10 l3 (by simp only [List.length_append,zxb];omega)) ?_
   rintro e w11 ⟨rfl,hO11⟩
   refine⟨(),rfl,?_⟩
   rw [show zx0 k3=zmi v.kind by rw [e3];rfl] at hO11
   refine z3s (o:=2) rfl (kp hO11) (by simp [zcc]) ?_
   have hex:(zh3 v).toArray.extract 2 (2+32)=(Bl.zd7 v.sum).toArray:=by
    apply Array.ext'
    simp [zh3,List.take_of_length_le,Bl.zck]
   rw [hex,Bl.qho hv]
   refine zh (qit (k:=v.sum) hO11 hv (by simp only [List.length_append,zxb];omega)) ?_
   rintro e w12 ⟨rfl,hO12⟩
   refine⟨(),rfl,?_⟩
   refine jr ((i+1:Nat):Int) (by omega) (by omega) (by omega) ?_
   refine⟨⟨i+1,rfl,by omega,?_⟩,by omega⟩
   have:=hOW.unbase hx9 hF9 hO12
   rw [htake,z7q]
   simpa [qi0] using this
  ·obtain rfl:i=n.items.length:=by omega
   rw [List.take_length] at hOW hpre
   rw [henc]
   exact⟨hOW,by simp only [List.length_append];omega⟩
end Go.Proofs.YthaaekcaaecdeaaGreatDoor
namespace Go.Proofs.YthaaekcaaecdeaaGreatDoor
open Go Go.Fw Go.Proofs
abbrev BV:=(Option Addr×Nat×Nat)×List UInt8
def zc8 (H:Heap) (B:Nat) (x:Option Addr×Nat×Nat) (Ls:List (List UInt8)):Prop:=
 ∃ ys:List BV,Mine H B xk 1 x (ys.map fun y=>zdr y.1)/\ys.map (·.2)=Ls/\∀ y∈ys,Mine H B zac 1 y.1 (byteCells y.2)/\∀ b∈jw y.1,b∉jw x
theorem zc8.nil {H:Heap}{B:Nat}:zc8 H B (none,0,0) []:=⟨[],.inl ⟨rfl,rfl⟩,rfl,by simp⟩
theorem zc8.len {H:Heap}{B:Nat}{x:Option Addr×Nat×Nat}{Ls:List (List UInt8)}(h:zc8 H B x Ls):x.2.1=Ls.length:=by
 obtain⟨ys,h1,h2,_⟩:=h
 have:=h1.len
 rw [<-h2];simp at *;omega
theorem zc8.ge {H:Heap}{B:Nat}{x:Option Addr×Nat×Nat}{Ls:List (List UInt8)}(h:zc8 H B x Ls):∀ b∈jw x,B<=b:=by
 obtain⟨ys,h1,_⟩:=h
 exact jo h1
theorem zgt {H:Heap}{B:Nat}{T:TypeId}{sz:Nat}{x:Option Addr×Nat×Nat}{vs:List Value}(h:Mine H B T sz x vs):∀ b∈jw x,b < H.size/\∃ c T fr,H[b]?=some (.cells c T fr):=by
 intro b hb
 rcases h with⟨rfl,_⟩ | ⟨b',c',hx1,_,hg,_⟩
 ·simp [jw] at hb
 ·simp [jw,hx1] at hb
  subst hb
  exact⟨lt_of_get hg,_,_,_,hg⟩
theorem zhi {H:Heap}{B:Nat}{T:TypeId}{sz:Nat}{x:Option Addr×Nat×Nat}{vs:List Value}(h:Mine H B T sz x vs):x.2.1<=x.2.2:=by
 rcases h with⟨rfl,_⟩ | ⟨_,_,_,_,_,_,_,h,_⟩
 ·exact Nat.le_refl _
 ·exact h
theorem zc8.lt {H:Heap}{B:Nat}{x:Option Addr×Nat×Nat}{Ls:List (List UInt8)}(h:zc8 H B x Ls):∀ b∈jw x,b < H.size/\∃ c T fr,H[b]?=some (.cells c T fr):=by
 obtain⟨ys,h1,_⟩:=h
 exact zgt h1
theorem zc8.ext {H H':Heap}{B:Nat}{x:Option Addr×Nat×Nat}{Ls:List (List UInt8)}{M:List Nat}(h:zc8 H B x Ls) (hx:Ext M H H') (hM:∀ b∈M,b < B):zc8 H' B x Ls:=by
 obtain⟨ys,h1,h2,h3⟩:=h
 refine⟨ys,h1.ext hx fun b hb hm=>?_,h2,fun y hy=>⟨(h3 y hy).1.ext hx fun b hb hm=>?_,(h3 y hy).2⟩⟩
 ·have:=jo h1 b hb;have:=hM b hm;omega
 ·have:=jo (h3 y hy).1 b hb;have:=hM b hm;omega
theorem zc8.beside {B B':Nat}{W W':World}{x:Option Addr×Nat×Nat}{Ls:List (List UInt8)}(h:zc8 W.heap B x Ls) (hx:Beside B' W W'):zc8 W'.heap B x Ls:=by
 obtain⟨ys,h1,h2,h3⟩:=h
 exact⟨ys,hx.mine h1,h2,fun y hy=>⟨hx.mine (h3 y hy).1,(h3 y hy).2⟩⟩
theorem zc8.rows {H:Heap}{B:Nat}{x:Option Addr×Nat×Nat}{Ls:List (List UInt8)}(h:zc8 H B x Ls):Bl.Rows H x.1 x.2.1 Ls:=by
 have hl:=h.len
 obtain⟨ys,h1,h2,h3⟩:=h
 refine⟨hl,fun i hi=>?_⟩
 have hyl:ys.length=Ls.length:=by rw [<-h2];simp
 have hiy:i < ys.length:=by omega
 rcases h1 with⟨rfl,_⟩ | ⟨b,c,hx1,_,hg,hc,hle,hxle,he⟩
 ·simp at hl;omega
 have hy:=h3 ys[i] (List.getElem_mem hiy)
 have hL:Ls[i]=ys[i].2:=by simp [<-h2]
 refine⟨b,0,c,_,_,ys[i].1,hx1,hg,?_,by rw [hL];exact hy.1.cells,by rw [hL];have:=hy.1.len;simp at this;omega,?_⟩
 ·have h5:(c.extract 0 (ys.map fun y=>zdr y.1).length).toList[i]?=(ys.map fun y=>zdr y.1)[i]?:=by rw [he]
  rw [Array.getElem?_toList,Array.getElem?_extract] at h5
  simp at h5
  rw [if_pos (by omega),List.getElem?_eq_getElem hiy] at h5
  simpa using h5
 ·rcases hy.1 with⟨h,_⟩ | ⟨_,_,_,_,_,_,_,h,_⟩
  ·rw [h];exact Nat.le_refl _
  ·exact h
theorem EBs:Elem P xk 1 24:=zii (z:=.slice none 0 0) (by kernel_rfl) rfl
theorem uSS:P.underlying zai=some (.slice xk):=by kernel_rfl
theorem qdn {w:World}{H:Heap}{B:Nat}{x y:Option Addr×Nat×Nat}{Ls:List (List UInt8)}{L:List UInt8}(hw:w.heap=H) (hB:zc8 H B x Ls) (hBs:B<=H.size) (hy:Mine H B zac 1 y (byteCells L)) (hyx:∀ b∈jw y,b∉jw x) (hlen:Ls.length<=1073741824){K:(Option Addr×Nat×Nat)->World->Prop}
  (hK:∀ x' w',zc8 w'.heap B x' (Ls++[L])->Ext (jw x) H w'.heap->(∀ c∈jw x',c∈jw x\/H.size<=c)->K x' w') :
  za2 P (Instr.buildSlice zai 1 #[(0,(Value.slice y.1 y.2.1 y.2.2))]) .slc w fun (t15:(Option Addr×Nat×Nat)) w_4=>
  za2 P (Builtin.append_ #[zai,zai] zai #[(Value.slice x.1 x.2.1 x.2.2),(Value.slice t15.1 t15.2.1 t15.2.2)]) .slc w_4 K:=by
 have hl:=hB.len
 have hylt:=zgt hy
 obtain⟨ys,h1,h2,h3⟩:=hB
 have hylen:ys.length=Ls.length:=by rw [<-h2];simp
 refine zaf (s:=.slc) (some ⟨w.heap.size,0,none⟩,1,1) _ (zee EBs uSS (v:=.slice y.1 y.2.1 y.2.2) rfl (by omega) (by omega)) ?_
 subst hw
 have hxp:Ext [] w.heap (w.heap.push (.cells (Value.slice y.1 y.2.1 y.2.2).cells xk)):=.push _
 refine zbx (n:=1) (us:=[zdr y]) (H:=w.heap.push (.cells (Value.slice y.1 y.2.1 y.2.2).cells xk)) EBs (by omega) uSS (zar uSS) rfl (h1.ext hxp (by simp)) (by simp;omega)
  (Src.slc rfl (.inr ⟨w.heap.size,0,_,_,_,rfl,zk,by simp [Value.cells],by simp [Value.cells,zdr]⟩) rfl) (by intro v hv;simp at hv;subst hv;rfl) (by omega) ?_
 intro x' w4 hm4 hl4 hx4 hs4
 have hx04:Ext (jw x) w.heap w4.heap:=(hxp.mono (by simp)).trans hx4
 have hs0:w.heap.size<=w4.heap.size:=hx04.1
 have hs4':∀ c∈jw x',c∈jw x\/w.heap.size<=c:=fun c hc=>by
  rcases hs4 c hc with h | h
  ·exact .inl h
  ·right;have:=hxp.1;omega
 refine hK x' w4 ⟨ys++[(y,L)],by simpa using hm4,by simp [h2],fun z hz=>?_⟩ hx04 hs4'
 rcases List.mem_append.1 hz with hz | hz
 ·obtain⟨g1,g2⟩:=h3 z hz
  refine⟨g1.ext hx04 g2,fun b hb h=>?_⟩
  rcases hs4' b h with h | h
  ·exact g2 b hb h
  ·have:=(zgt g1 b hb).1;omega
 ·simp only [List.mem_singleton] at hz
  subst hz
  refine⟨hy.ext hx04 hyx,fun b hb h=>?_⟩
  rcases hs4' b h with h | h
  ·exact hyx b hb h
  ·have:=(hylt b hb).1;omega
theorem stD {w:World}{H:Heap}{b o:Nat}{c:Array Value}{T:TypeId}{k:List UInt8}(hk:k.length=32) (hw:w.heap=H) (hb:H[b]?=some (.cells c T (0,0))) (hs:o+32<=c.size){K:World->Prop}
  (hK:∀ w',w'.heap=H.setIfInBounds b (.cells (setCells c o (byteCells k)) T (0,0))->K w'):zah P (storeVar zf (⟨b,o,none⟩:Addr) (arr k)) w K:=by
 refine zbe (v:=arr k) (by rw [szD,Bl.zb1,hk]) (by rw [Bl.zb1];omega) (by simpa [Value.cells,arr] using zay) hw hb (by rw [Bl.zb1];omega) fun w' hw'=>hK w' ?_
 rw [hw']
 simp [Value.cells,arr]
theorem qea {w:World}{H:Heap}{b:Nat}{c:Array Value}{T:TypeId}{k:List UInt8}(hk:k.length=32) (hw:w.heap=H) (hb:H[b]?=some (.cells c T (0,0))) (hs:c.size=32){K:World->Prop}
  (hK:∀ w',w'.heap=H.setIfInBounds b (.cells (byteCells k).toArray T (0,0))->K w'):zah P (storeVar zf (⟨b,0,none⟩:Addr) (arr k)) w K:=by
 refine stD hk hw hb (by omega) fun w' hw'=>hK w' ?_
 rw [hw',zau (by simp [hk,hs])]
theorem zbm {L:List UInt8}:(Sha.sum L).length=32:=Bl.zbm
set_option maxHeartbeats 4000000 in
theorem z3m {w:World}{H:Heap}{B:Nat}{x xp xi:Option Addr×Nat×Nat}{Ls:List (List UInt8)}{n:Nod}(hw:w.heap=H) (hB:zc8 H B x Ls) (hB0:1 < B) (hBs:B<=H.size) (hN:NodW H n xp xi) (hR:zdj n=true) (hS:Bl.Rounds H) (hlen:Ls.length<=1073741824) (hel:(zjb n).length<=1099511627776) :
  qj P zjz #[.slice x.1 x.2.1 x.2.2,.agg (zfb n xp xi).toArray] w fun e w'=>∃ x',e=.returned (.tuple #[zdr x',arr (Sha.sum (zjb n))])/\zc8 w'.heap B x' (Ls++[zjb n])/\Ext (jw x) H w'.heap/\∀ c∈jw x',c∈jw x\/H.size<=c:=by
 refine z1b ?_
 unfold zwr
 refine ji hw fun w1 hw1=>?_
 have hx1:Ext [] H w1.heap:=by rw [hw1];exact .push _
 have hb1:w1.heap[H.size]?=some (.cells (zfb n xp xi).toArray zu (0,0)):=by rw [hw1];exact zk
 refine ji rfl fun w2 hw2=>?_
 have hx2:Ext [] w1.heap w2.heap:=by rw [hw2];exact .push _
 have hd2:w2.heap[w1.heap.size]?=some (.cells (zc P zf) zf (0,0)):=by rw [hw2];exact zk
 have hx02:=hx1.trans hx2
 refine xw rfl (hx2.get hb1 (by simp)) rfl ?_
 refine zh (qak rfl (hN.ext hx02) hR) ?_
 rintro e w3 ⟨y,rfl,hm3,hx3⟩
 refine⟨(y,0),rfl,?_⟩
 have hx03:=hx02.trans hx3
 have hs02:=hx02.1
 have hxlt:=hB.lt
 refine qdn rfl (hB.ext hx03 (by simp)) (by have:=hx03.1;omega) (hm3.mono (by omega)) (fun b hb h=>by have:=jo hm3 b hb;have:=(hxlt b h).1;omega) hlen fun x5 w5 hB5 hx5 hs5=>?_
 have hylt:=zgt hm3
 have hm5:=hm3.ext hx5 (fun b hb h=>by have:=jo hm3 b hb;have:=(hxlt b h).1;omega)
 have hx05:Ext (jw x) H w5.heap:=(hx03.mono (by simp)).trans hx5
 have h0x:1∉jw x:=fun h=>by have:=hB.ge 1 h;omega
 have hyl:y.2.1=(zjb n).length:=by have:=hm3.len;simp at this;omega
 refine zh (Bl.qeq rfl hm5.cells hyl (zhi hm3) (hS.ext hx05 h0x) (by omega)) ?_
 rintro e w6 ⟨rfl,hx6⟩
 refine⟨arr (Sha.sum (zjb n)),rfl,?_⟩
 have hs1:H.size < w1.heap.size:=lt_of_get hb1
 have hdn:w1.heap.size∉jw x:=fun h=>by have:=(hxlt _ h).1;omega
 have hd6:w6.heap[w1.heap.size]?=some (.cells (zc P zf) zf (0,0)):=hx6.get (hx5.get (hx3.get hd2 (by simp)) hdn) (by simp)
 refine qea zbm rfl hd6 (by rw [zcD]) fun w7 hw7=>?_
 have hd7:w7.heap[w1.heap.size]?=some (.cells (byteCells (Sha.sum (zjb n))).toArray zf (0,0)):=by rw [hw7];exact qy hd6
 refine xw rfl hd7 (by simp [zbm]) ?_
 have hx06:=hx05.trans (hx6.mono (by simp))
 have hdx5:w1.heap.size∉jw x5:=fun h=>by
  rcases hs5 _ h with h | h
  ·exact hdn h
  ·have:=hx3.1;have:=lt_of_get hd2;omega
 refine⟨x5,rfl,?_,?_,fun c hc=>?_⟩
 ·have hB6:=hB5.ext hx6 (by simp)
  obtain⟨ys,g1,g2,g3⟩:=hB6
  have hx67:Ext [w1.heap.size] w6.heap w7.heap:=by rw [hw7];exact Ext.set _ (by simp)
  refine⟨ys,g1.ext hx67 (fun b hb h=>by simp at h;subst h;exact hdx5 hb),g2,fun z hz=>⟨(g3 z hz).1.ext hx67 fun b hb h=>?_,(g3 z hz).2⟩⟩
  simp at h;subst h
  obtain⟨_,c',T',fr',hcell⟩:=zgt (g3 z hz).1 _ hb
  rcases (g3 z hz).1 with⟨h,_⟩ | ⟨b',c2,hx1',_,hg,_⟩
  ·rw [h] at hb;simp [jw] at hb
  ·simp [jw,hx1'] at hb
   subst hb
   rw [hd6] at hg
   simp only [Option.some.injEq,Obj.cells.injEq] at hg
   exact absurd hg.2.1 (by decide)
 ·rw [hw7];exact hx06.set_own (.inl (by omega))
 ·rcases hs5 c hc with h | h
  ·exact .inl h
  ·right;have:=hx03.1;omega
theorem z8r {w:World}{t e:TypeId}{sz:Nat}{a:Option Addr}{len cap l h m:Nat}{k:IntKind}(hu:P.underlying t=some (.slice e)) (hs:(P.info? e).map (·.size)=some sz) (h1:l<=h) (h2:h<=m) (h3:m<=cap) :
  (Instr.sliceAt t (.slice a len cap) (some (.int k (l:Int))) (some (.int k (h:Int))) (some (.int k (m:Int)))).run P w=.ok (.slice (if m=l then a else a.map (·.add (l * sz))) (h-l) (m-l)) w:=by
 have em:∀ code,(Instr.sliceBound (.int k (m:Int)) cap code).run P w=.ok m w:=by
  intro code
  simp [Instr.sliceBound,asIntOf,h3]
 have eh:∀ code,(Instr.sliceBound (.int k (h:Int)) m code).run P w=.ok h w:=by
  intro code
  simp [Instr.sliceBound,asIntOf,h2]
 have el:∀ code,(Instr.sliceBound (.int k (l:Int)) h code).run P w=.ok l w:=by
  intro code
  simp [Instr.sliceBound,asIntOf,h1]
 simp [Instr.sliceAt,Instr.slice,Instr.sliceBounds,xu hu,em,eh,el,zbt hs]
def npc (D:List UInt8):Nat:=(D.length+63) / 64
def zpb (D:List UInt8) (j:Nat):List UInt8:=(D.drop (64 * j)).take 64
def zw8 (y:Option Addr×Nat×Nat) (D:List UInt8) (j:Nat):Option Addr×Nat×Nat:=(if 64 * j+min 64 (D.length-64 * j)=64 * j then y.1 else y.1.map (·.add (64 * j * 1)),(64 * j+min 64 (D.length-64 * j))-64 * j,(64 * j+min 64 (D.length-64 * j))-64 * j)
theorem zs5 {D:List UInt8}{j:Nat}:(zpb D j).length=min 64 (D.length-64 * j):=by simp [zpb]
theorem z2h {D:List UInt8}{j:Nat}:j < npc D ↔ 64 * j < D.length:=by unfold npc;omega
theorem z4m {H:Heap}{y:Option Addr×Nat×Nat}{D:List UInt8}{j:Nat}(h:Cells H y.1 (byteCells D)) (hj:j < npc D):Cells H (zw8 y D j).1 (byteCells (zpb D j)):=by
 have hj':=z2h.1 hj
 have h1:=h.part (64 * j) (min 64 (D.length-64 * j)) (by simp;omega)
 rw [zk7,zlb] at h1
 have h2:zpb D j=(D.drop (64 * j)).take (min 64 (D.length-64 * j)):=by
  unfold zpb
  by_cases h64:64<=D.length-64 * j
  ·rw [Nat.min_eq_left h64]
  ·rw [Nat.min_eq_right (by omega),List.take_of_length_le (by simp;omega),List.take_of_length_le (by simp)]
 rw [h2]
 unfold zw8
 simp only
 rw [if_neg (by omega),Nat.mul_one]
 exact h1
theorem qax {w:World}{H:Heap}{b c:Nat}{y:Option Addr×Nat×Nat}{D:List UInt8}(hw:w.heap=H) (hb:H[b]?=some (.cells #[zdr y] xk (0,0))) (hc:H[c]?=some (.cells #[.int .i64 64] zav (0,0))) (hy:y.2.1=D.length) (hcap:y.2.1<=y.2.2) (hD:D.length<=1099511627776) :
  qkl P (.func (.func zb4) #[] #[.pointer (some ⟨b,0,none⟩),.pointer (some ⟨c,0,none⟩)]) (fun ys=>ys=List.range (npc D)) (fun pre j=>j=pre.length/\j < npc D) (fun j=>#[zdr (zw8 y D j)]) [b,c] w:=by
 refine⟨_,_,rfl,fun l I J w1 M hx1 hMM hst h0 hY=>?_⟩
 have hx1:=hw▸hx1
 have hb1:=hx1.get hb (by simp)
 have hc1:=hx1.get hc (by simp)
 have hbl:=lt_of_get hb1
 have hcl:=lt_of_get hc1
 refine zi6 ?_
 unfold zfi
 refine zae (fun s W=>∃ i:Nat,s=((64 * i:Nat):Int)/\i<=npc D/\I (List.range i) W/\w1.heap.size<=W.heap.size/\W.heap[b]?=some (.cells #[zdr y] xk (0,0))/\W.heap[c]?=some (.cells #[.int .i64 64] zav (0,0))) (fun s _=>(64 * npc D+64-s).toNat)
  ⟨0,rfl,Nat.zero_le _,h0,Nat.le_refl _,hb1,hc1⟩ ?_
 rintro _ W ⟨i,rfl,hi,hI,hsz,hbW,hcW⟩
 simp only [jc]
 refine jg (s:=.slc) (t:=y) rfl hbW rfl ?_
 refine zy (fun hil=>?_) (fun hil=>?_)
 ·have hil:i < npc D:=z2h.2 (by omega)
  have hil':=z2h.1 hil
  refine vw rfl fun w2 hw2=>?_
  have hx02:Ext [] W.heap w2.heap:=by rw [hw2];exact .refl _ _
  have hb2:=hx02.get hbW (by simp)
  have hc2:=hx02.get hcW (by simp)
  refine jg (s:=.int .i64) (t:=(64:Int)) rfl hc2 rfl ?_
  refine jg (s:=.slc) (t:=y) rfl hb2 rfl ?_
  refine qc (s:=.slc) (if y.2.2=64 * i then y.1 else y.1.map (·.add (64 * i * 1)),y.2.1-64 * i,y.2.2-64 * i) (zbd uS8 sz8 (.yes rfl) .no (by omega) hcap) ?_
  refine qc (s:=.int .i64) ((min 64 (D.length-64 * i):Nat):Int) (by rw [run_min_int2];congr 2;simp only;split <;> omega) ?_
  refine jg (s:=.slc) (t:=y) rfl hb2 rfl ?_
  refine jr ((64 * i+min 64 (D.length-64 * i):Nat):Int) (by omega) (by omega) (by omega) ?_
  refine jr ((64 * i+min 64 (D.length-64 * i):Nat):Int) (by omega) (by omega) (by omega) ?_
  refine qc (s:=.slc) (zw8 y D i) (z8r uS8 sz8 (by omega) (Nat.le_refl _) (by omega)) ?_
  refine zwy ((hY (List.range i) i w2 ⟨by simp,hil⟩ (hst _ _ _ hI (.new hsz hx02))).mono ?_)
  have hs2:W.heap.size<=w2.heap.size:=hx02.1
  rintro e W2 ⟨hK,⟨rfl,hI2⟩ | ⟨rfl,hJ2⟩⟩
  ·refine⟨true,rfl,?_⟩
   refine qp rfl ?_
   have hb3:=hK.get hb2 hbl (fun h=>(hMM _ h).2 (by simp))
   have hc3:=hK.get hc2 hcl (fun h=>(hMM _ h).2 (by simp))
   refine jg (s:=.int .i64) (t:=(64:Int)) rfl hc3 rfl ?_
   refine jr ((64 * (i+1):Nat):Int) (by omega) (by omega) (by omega) ?_
   refine⟨⟨i+1,rfl,by omega,?_,?_,hb3,hc3⟩,by omega⟩
   ·rw [List.range_succ];exact hI2
   ·exact Nat.le_trans (Nat.le_trans hsz hs2) hK.1
  ·refine⟨false,rfl,?_⟩
   exact jh rfl ⟨⟨_,rfl⟩,.inr hJ2⟩
 ·have hil:i=npc D:=by
   have:¬i < npc D:=fun h=>by have:=z2h.1 h;omega
   omega
  refine⟨⟨_,rfl⟩,.inl ⟨List.range (npc D),rfl,?_⟩⟩
  rw [<-hil];exact hI
theorem qgt {w:World}{H:Heap}{y:Option Addr×Nat×Nat}{D:List UInt8}(hw:w.heap=H) (hy:y.2.1=D.length) (hcap:y.2.1<=y.2.2) (hD:D.length<=1099511627776) :
  qj P zdv #[.slice y.1 y.2.1 y.2.2,.int .i64 64] w fun e w'=>∃ gv b c,e=.returned gv/\H.size<=b/\H.size<=c/\b < w'.heap.size/\c < w'.heap.size/\Ext [] H w'.heap /\
   qkl P gv (fun ys=>ys=List.range (npc D)) (fun pre j=>j=pre.length/\j < npc D) (fun j=>#[zdr (zw8 y D j)]) [b,c] w':=by
 refine zj5 ?_
 unfold zf3
 refine ji hw fun w1 hw1=>?_
 have hx1:Ext [] H w1.heap:=by rw [hw1];exact .push _
 have hb1:w1.heap[H.size]?=some (.cells #[zdr y] xk (0,0)):=by rw [hw1];exact zk
 refine ji rfl fun w2 hw2=>?_
 have hx2:Ext [] w1.heap w2.heap:=by rw [hw2];exact .push _
 have hc2:w2.heap[w1.heap.size]?=some (.cells #[.int .i64 64] zav (0,0)):=by rw [hw2];exact zk
 have hb2:=hx2.get hb1 (by simp)
 refine jf ?_
 refine jg (s:=.int .i64) (t:=(64:Int)) rfl hc2 rfl ?_
 refine qp rfl ?_
 refine qc (s:=.any) (.func (.func zb4) #[] #[.pointer (some ⟨H.size,0,none⟩),.pointer (some ⟨w1.heap.size,0,none⟩)]) (by simp [Instr.makeFunc];rfl) ?_
 have hs1:=hx1.1
 exact⟨_,H.size,w1.heap.size,rfl,Nat.le_refl _,hs1,lt_of_get hb2,lt_of_get hc2,hx1.trans hx2,qax rfl hb2 hc2 hy hcap hD⟩
def zwa (p:List UInt8):Nod:=⟨1,p,0,[],[]⟩
def zgf (D:List UInt8) (j:Nat):List UInt8:=zjb (zwa (zpb D j))
def znd (D:List UInt8) (k:Nat):List (List UInt8):=(List.range k).map fun j=>Sha.sum (zgf D j)
def zhn (D:List UInt8) (k:Nat):Nod:=⟨2,[],D.length,znd D k,[]⟩
def zc9 (D:List UInt8) (k:Nat):List (List UInt8):=(List.range k).map (zgf D)
def zix (D:List UInt8):List (List UInt8):=zc9 D (npc D)++[zjb (zhn D (npc D))]
def zkh (D:List UInt8):List UInt8:=Sha.sum (zjb (zhn D (npc D)))
theorem z4z {D:List UInt8}{k:Nat}:znd D (k+1)=znd D k++[Sha.sum (zgf D k)]:=by simp [znd,List.range_succ]
theorem zwl {D:List UInt8}{k:Nat}:zc9 D (k+1)=zc9 D k++[zgf D k]:=by simp [zc9,List.range_succ]
theorem zln {D:List UInt8}{k:Nat}:(znd D k).length=k:=by simp [znd]
theorem z05 {D:List UInt8}{k:Nat}:∀ p∈znd D k,p.length=32:=by
 intro p hp
 obtain⟨j,_,rfl⟩:=List.mem_map.1 hp
 exact zbm
theorem z4k {D:List UInt8}{j:Nat}(h:j < npc D):zdj (zwa (zpb D j))=true:=by
 have h1:=z2h.1 h
 have h2:=zs5 (D:=D) (j:=j)
 unfold zdj zwa
 simp only [if_true,decide_eq_true_eq,List.length_nil,and_true]
 omega
theorem z7p {D:List UInt8}(h:D.length<=1024):zdj (zhn D (npc D))=true:=by
 unfold zdj zhn
 rw [if_neg (show ¬((2:Int)=1) by decide),if_pos rfl]
 simp only [zln,List.length_nil,and_true,true_and,decide_eq_true_eq,zu0,npc]
 omega
theorem zz8 {D:List UInt8}{j:Nat}:(zgf D j).length<=100:=by
 have h2:=zs5 (D:=D) (j:=j)
 have u:=@zgb 1
 have nl:=zij (n:=(zpb D j).length) (by omega)
 unfold zgf zjb zwa
 simp only [if_true,List.length_append,zxb]
 omega
theorem z5e {D:List UInt8}{k:Nat}(hk:k<=65536):(zjb (zhn D k)).length<=3000000:=by
 have u:=@zgb 2
 have u2:=@zgb (D.length:Int)
 have:=zsw (l:=znd D k) z05
 rw [zln] at this
 unfold zjb zhn
 rw [if_neg (show ¬((2:Int)=1) by decide),if_pos rfl]
 simp only [List.length_append]
 omega
theorem zf0 {H:Heap}{B B':Nat}{T T':TypeId}{sz sz':Nat}{x x':Option Addr×Nat×Nat}{vs vs':List Value}(h:Mine H B T sz x vs) (h':Mine H B' T' sz' x' vs') (hne:T≠T'):∀ b∈jw x,b∉jw x':=by
 intro b hb hb'
 rcases h with⟨rfl,_⟩ | ⟨b1,c1,hx1,_,hg1,_⟩
 ·simp [jw] at hb
 rcases h' with⟨rfl,_⟩ | ⟨b2,c2,hx2,_,hg2,_⟩
 ·simp [jw] at hb'
 simp [jw,hx1] at hb
 simp [jw,hx2] at hb'
 subst hb hb'
 rw [hg1] at hg2
 simp only [Option.some.injEq,Obj.cells.injEq] at hg2
 exact hne hg2.2.1
theorem ED:Elem P zf 32 32:=Bl.E27
theorem qgb {w:World}{H:Heap}{B:Nat}{x:Option Addr×Nat×Nat}{ds:List (List UInt8)}{k:List UInt8}(hw:w.heap=H) (hm:Mine H B zf 32 x (ds.flatMap Bl.zd7)) (hBs:B<=H.size) (hk:k.length=32) (hlen:ds.length<=1073741824){K:(Option Addr×Nat×Nat)->World->Prop}
  (hK:∀ x' w',Mine w'.heap B zf 32 x' ((ds++[k]).flatMap Bl.zd7)->Ext (jw x) H w'.heap->(∀ c∈jw x',c∈jw x\/H.size<=c)->K x' w') :
  za2 P (Instr.buildSlice jq 1 #[(0,arr k)]) .slc w fun (t27:(Option Addr×Nat×Nat)) w_13=>
  za2 P (Builtin.append_ #[jq,jq] jq #[(Value.slice x.1 x.2.1 x.2.2),(Value.slice t27.1 t27.2.1 t27.2.2)]) .slc w_13 K:=by
 have hlx:x.2.1=ds.length:=by
  have:=hm.len
  rw [xg Bl.zd7 Bl.zck] at this
  omega
 have hc1:(arr k).cells=(Bl.zd7 k).toArray:=by rw [Bl.zhq hk];rfl
 refine zaf (s:=.slc) (some ⟨w.heap.size,0,none⟩,1,1) _ (zee ED Bl.qhn (v:=arr k) (by rw [Bl.zb1,hk]) (by omega) (by omega)) ?_
 subst hw
 have hxp:Ext [] w.heap (w.heap.push (.cells (arr k).cells zf)):=.push _
 refine zbx (bts:=32) (n:=1) (us:=Bl.zd7 k) (H:=w.heap.push (.cells (arr k).cells zf)) ED (by omega) Bl.qhn (zar Bl.qhn) rfl (hm.ext hxp (by simp)) (by simp;omega)
  (Src.slc rfl (.inr ⟨w.heap.size,0,_,_,_,rfl,zk,by rw [hc1];simp,by rw [hc1,Nat.zero_add];simp⟩) (by rw [Bl.zck])) Bl.znp (by omega) ?_
 intro x' w4 hm4 hl4 hx4 hs4
 refine hK x' w4 (by rw [List.flatMap_append,List.flatMap_singleton];exact hm4) ((hxp.mono (by simp)).trans hx4) (fun c hc=>?_)
 rcases hs4 c hc with h | h
 ·exact .inl h
 ·right;have:=hxp.1;omega
theorem bN2 (n:Int) (w:World):(Instr.build zu #[(0,.int .i64 2),(2,.int .i64 n)]).run P w=.ok (.agg #[.int .i64 2,.string .empty,.int .i64 n,.slice none 0 0,.slice none 0 0]) w:=by kernel_rfl
theorem bN1 (s:ByteArray) (w:World):(Instr.build zu #[(0,.int .i64 1),(1,.string s)]).run P w=.ok (.agg #[.int .i64 1,.string s,.int .i64 0,.slice none 0 0,.slice none 0 0]) w:=by kernel_rfl
theorem NodW.bare {H:Heap}{n:Nod}(hp:n.parts=[]) (hi:n.items=[]):NodW H n (none,0,0) (none,0,0):=
 ⟨by rw [hp];exact .inl rfl,by rw [hp];rfl,by rw [hi];exact .inl rfl,by rw [hi];rfl,by rw [hp];simp,by rw [hi];simp⟩
set_option maxHeartbeats 16000000 in
theorem qhx {w:World}{H:Heap}{B:Nat}{x:Option Addr×Nat×Nat}{Ls:List (List UInt8)}{D:List UInt8}(hw:w.heap=H) (hB:zc8 H B x Ls) (hB0:1 < B) (hBs:B<=H.size) (hS:Bl.Rounds H) (hlen:Ls.length<=536870912) (hD:D.length<=1024) :
  qj P zpy #[.slice x.1 x.2.1 x.2.2,.string (strOf D)] w fun e w'=>∃ x',e=.returned (.tuple #[zdr x',arr (zkh D)])/\zc8 w'.heap B x' (Ls++zix D)/\Ext (jw x) H w'.heap/\∀ c∈jw x',c∈jw x\/H.size<=c:=by
 have hnp:npc D<=16:=by unfold npc;omega
 have hxlt:=hB.lt
 have h0x:1∉jw x:=fun h=>by have:=hB.ge 1 h;omega
 have h0H:0 < H.size:=by omega
 refine z2u ?_
 unfold zvg
 refine ji hw fun w1 hw1=>?_
 have hx1:Ext [] H w1.heap:=by rw [hw1];exact .push _
 have hl1:w1.heap[H.size]?=some (.cells #[zdr x] zai (0,0)):=by rw [hw1];exact zk
 refine ji rfl fun w2 hw2=>?_
 have hx2:Ext [] w1.heap w2.heap:=by rw [hw2];exact .push _
 have hd2:w2.heap[w1.heap.size]?=some (.cells (zc P zf) zf (0,0)):=by rw [hw2];exact zk
 refine qc (s:=.any) (.agg (zfb (zhn D 0) (none,0,0) (none,0,0)).toArray) (by rw [jy];exact bN2 _ _) ?_
 refine qe3 (zhn D 0) _ _ rfl fun w4 hw4=>?_
 have hx4:Ext [] w2.heap w4.heap:=by rw [hw4];exact .push _
 have hn4:w4.heap[w2.heap.size]?=some (.cells (zfb (zhn D 0) (none,0,0) (none,0,0)).toArray zu (0,0)):=by rw [hw4];exact zk
 refine qlo rfl fun y w5 hcy hyl hyc hyo hx5 hs5=>?_
 refine zh (qgt rfl hyl hyc (by omega)) ?_
 rintro e w6 ⟨gv,b,c,rfl,hbge,hcge,hblt,hclt,hx6,hseq⟩
 refine⟨gv,rfl,?_⟩
 have hx46:=hx5.trans hx6
 have hx26:=hx4.trans hx46
 have hx16:=hx2.trans hx26
 have hx06:=hx1.trans hx16
 have s1:H.size < w1.heap.size:=lt_of_get hl1
 have s2:w1.heap.size < w2.heap.size:=lt_of_get hd2
 have s4:w2.heap.size < w4.heap.size:=lt_of_get hn4
 have s6:=hx6.1
 have hl6:=hx16.get hl1 (by simp)
 have hd6:=hx26.get hd2 (by simp)
 have hn6:=hx46.get hn4 (by simp)
 have hcy6:=hcy.ext hx6 (by simp)
 have hB6:=hB.ext hx06 (by simp)
 refine qdk (α:=Nat) (shs:=[.slc]) (tv:=zw8 y D) (fp:=[b,c]) hseq (H.size :: w2.heap.size :: jw x)
  (fun m hm=>?_) (fun m hm=>by simp at hm;omega)
  (fun pre W=>∃ x' xp',Ext (jw x) H W.heap/\w6.heap.size<=W.heap.size/\W.heap[H.size]?=some (.cells #[zdr x'] zai (0,0))/\W.heap[w2.heap.size]?=some (.cells (zfb (zhn D pre.length) xp' (none,0,0)).toArray zu (0,0)) /\
   W.heap[w1.heap.size]?=some (.cells (zc P zf) zf (0,0))/\zc8 W.heap B x' (Ls++zc9 D pre.length)/\(∀ c∈jw x',c∈jw x\/w6.heap.size<=c)/\Mine W.heap w6.heap.size zf 32 xp' ((znd D pre.length).flatMap Bl.zd7)/\Cells W.heap y.1 (byteCells D)/\pre.length<=npc D)
  (fun _=>False) (fun _ _=>False) ?_ (fun _ _ h _=>h.elim) (fun _ _ _ h _=>h.elim) ?_ ?_ ?_ (fun _ h=>h.elim) (fun _ _ h=>h.elim)
 ·simp only [List.mem_cons] at hm
  rcases hm with rfl | rfl | hm
  ·exact⟨by omega,by simp;omega⟩
  ·exact⟨by omega,by simp;omega⟩
  ·have:=(hxlt m hm).1
   exact⟨by omega,by simp;omega⟩
 ·rintro pre W W' ⟨x',xp',h1,h1s,h2,h3,h3d,h4,h5,h6,h7,h8⟩ hBe
  exact⟨x',xp',hBe.ext (by omega) h1,Nat.le_trans h1s hBe.size,hBe.cells h2,hBe.cells h3,hBe.cells h3d,h4.beside hBe,h5,hBe.mine h6,hBe.own h7,h8⟩
 ·exact⟨x,(none,0,0),hx06.mono (by simp),Nat.le_refl _,hl6,hn6,hd6,by simpa [zc9] using hB6,fun c hc=>.inl hc,.inl ⟨rfl,by simp [znd]⟩,hcy6,Nat.zero_le _⟩
 ·rintro pre k W ⟨rfl,hk⟩ ⟨x',xp',h1,h1s,h2,h3,h3d,h4,h5,h6,h7,h8⟩ hsz beg kc kr kx hbeg
  refine hbeg W _ (.refl _ _) fun W2 hB2 hs2 hkc _ _=>?_
  have h1:=hB2.ext (show H.size<=w6.heap.size by omega) h1
  have h2:=hB2.cells h2
  have h3:=hB2.cells h3
  have h3d:=hB2.cells h3d
  have h4:=h4.beside hB2
  have h6:=hB2.mine h6
  have h7:=hB2.own h7
  have hH2:=h1.1
  generalize hk2:pre.length=k at *
  have x'lt:=h4.lt
  have lenk:(Ls++zc9 D k).length<=1073741824:=by simp [zc9];omega
  refine ji rfl fun w9 hw9=>?_
  have hx9:Ext [] W2.heap w9.heap:=by rw [hw9];exact .push _
  have hd9:w9.heap[W2.heap.size]?=some (.cells (zc P zf) zf (0,0)):=by rw [hw9];exact zk
  refine jg (s:=.slc) (t:=x') rfl (hx9.get h2 (by simp)) rfl ?_
  refine qc (s:=.str) _ (z4f uS8 u8 zzf rfl (z4m (h7.ext hx9 (by simp)) hk) (by rw [zs5];unfold zw8;simp only;omega)) ?_
  refine qc (s:=.any) (.agg (zfb (zwa (zpb D k)) (none,0,0) (none,0,0)).toArray) (bN1 _ _) ?_
  refine zh (z3m (n:=zwa (zpb D k)) rfl (h4.ext hx9 (by simp)) hB0 (by have:=hx9.1;omega) (.bare rfl rfl) (z4k hk) ((hS.ext h1 h0x).ext hx9 (by simp)) lenk (by have:=zz8 (D:=D) (j:=k);unfold zgf at this;omega)) ?_
  rintro e w10 ⟨x2,rfl,hB10,hx10,hs10⟩
  refine⟨(x2,arr (Sha.sum (zgf D k))),rfl,?_⟩
  have hHx':∀ {m:Nat},H.size<=m->m < w6.heap.size->m∉jw x':=fun h h' hm=>by
   rcases h5 _ hm with h2 | h2
   ·have:=(hxlt _ h2).1;omega
   ·omega
  have hd2x':W2.heap.size∉jw x':=fun h=>by have:=(x'lt _ h).1;omega
  have hl10:=hx10.get (hx9.get h2 (by simp)) (hHx' (Nat.le_refl _) (by omega))
  refine zb8 rfl hl10 (by simp) fun w11 hw11=>?_
  have hx11:Ext [H.size] w10.heap w11.heap:=by rw [hw11];exact Ext.set _ (by simp)
  have hl11:w11.heap[H.size]?=some (.cells #[zdr x2] zai (0,0)):=by rw [hw11];exact qy hl10
  have hd11:=hx11.get (hx10.get hd9 hd2x') (by simp;omega)
  refine qea zbm rfl hd11 zcD fun w12 hw12=>?_
  have hx12:Ext [W2.heap.size] w11.heap w12.heap:=by rw [hw12];exact Ext.set _ (by simp)
  have hd12:w12.heap[W2.heap.size]?=some (.cells (byteCells (Sha.sum (zgf D k))).toArray zf (0,0)):=by rw [hw12];exact qy hd11
  have s9:=hx9.1
  have s10:=hx10.1
  have s11:=hx11.1
  have s12:=hx12.1
  have s09:W2.heap.size < w9.heap.size:=lt_of_get hd9
  have keep12:∀ {m:Nat}{o:Obj},m≠H.size->m≠W2.heap.size->m∉jw x'->W2.heap[m]?=some o->w12.heap[m]?=some o:=fun h1 h2 h3 h=>hx12.get (hx11.get (hx10.get (hx9.get h (by simp)) h3) (by simp [h1])) (by simp [h2])
  have hn12:=keep12 (by omega) (by omega) (hHx' (by omega) (by omega)) h3
  refine jg (s:=.slc) (t:=xp') rfl hn12 rfl ?_
  refine xw rfl hd12 (by simp [zbm]) ?_
  have hxp':=zgt h6
  have hB9:zc8 w9.heap B x' (Ls++zc9 D k):=h4.ext hx9 (by simp)
  have ne1:∀ m∈jw xp',m∉jw x':=by
   obtain⟨ys,g1,_⟩:=h4
   exact zf0 h6 g1 (by decide)
  have hm10:Mine w10.heap w6.heap.size zf 32 xp' ((znd D k).flatMap Bl.zd7):=(h6.ext hx9 (by simp)).ext hx10 ne1
  have hm12:Mine w12.heap w6.heap.size zf 32 xp' ((znd D k).flatMap Bl.zd7):=(hm10.ext hx11 (fun m hm h=>by have:=jo h6 m hm;simp at h;omega)).ext hx12 (fun m hm h=>by have:=(hxp' m hm).1;simp at h;omega)
  refine qgb rfl hm12 (by omega) zbm (by rw [zln];omega) fun xp2 w14 hm14 hx14 hs14=>?_
  have hn14:=hx14.get hn12 (fun h=>by have:=jo h6 _ h;omega)
  refine zb8 rfl hn14 (by simp [zfb]) fun w15 hw15=>?_
  have hx15:Ext [w2.heap.size] w14.heap w15.heap:=by rw [hw15];exact Ext.set _ (by simp)
  have s14:=hx14.1
  have s15:=hx15.1
  have hxAll:Ext (H.size :: w2.heap.size :: W2.heap.size :: (jw x'++jw xp')) W2.heap w15.heap:=by
   refine (hx9.mono (by simp)).trans ((hx10.mono fun m hm=>?_).trans ((hx11.mono fun m hm=>?_).trans ((hx12.mono fun m hm=>?_).trans ((hx14.mono fun m hm=>?_).trans (hx15.mono fun m hm=>?_)))))
   ·simp [hm]
   ·simp at hm;simp [hm]
   ·simp at hm;simp [hm]
   ·simp [hm]
   ·simp at hm;simp [hm]
  have hxA:Ext (H.size :: w2.heap.size :: (jw x'++jw xp')) W2.heap w15.heap:=⟨hxAll.1,fun m hm hn=>hxAll.2 m hm fun h=>hn (by simp at h |-;rcases h with h | h | h | h <;> first | (exact .inl h) | (exact .inr (.inl h)) | omega | (exact .inr (.inr h)))⟩
  have hK:Keep (H.size :: w2.heap.size :: jw x) w6.heap.size W2.heap w15.heap:=by
   refine .of hxA (fun m hm=>?_) (fun m hm=>?_)
   ·simp only [List.mem_cons,List.mem_append] at hm
    rcases hm with rfl | rfl | hm | hm
    ·left;simp
    ·left;simp
    ·rcases h5 m hm with h | h
     ·left;simp [h]
     ·right;exact⟨h,(x'lt m hm).2⟩
    ·right;exact⟨jo h6 m hm,(hxp' m hm).2⟩
   ·simp only [List.mem_cons] at hm
    rcases hm with rfl | rfl | hm
    ·omega
    ·omega
    ·have:=(hxlt m hm).1;omega
  have hB15:zc8 w15.heap B x2 ((Ls++zc9 D k)++[zgf D k]):=by
   obtain⟨ys,g1,g2,g3⟩:=hB10
   have stay:∀ {T:TypeId}{x:Option Addr×Nat×Nat}{vs:List Value},Mine w10.heap B T 1 x vs->T≠zai->T≠zf->T≠zu->Mine w15.heap B T 1 x vs:=by
    intro T x vs hm n1 n2 n3
    have a1:=hm.ext hx11 (fun m hm1 h=>by
     simp at h;subst h
     rcases hm with⟨rfl,_⟩ | ⟨b1,c1,hx1,_,hg1,_⟩
     ·simp [jw] at hm1
     ·simp [jw,hx1] at hm1;subst hm1
      rw [hl10] at hg1
      simp only [Option.some.injEq,Obj.cells.injEq] at hg1
      exact n1 hg1.2.1.symm)
    have a2:=a1.ext hx12 (fun m hm1 h=>by
     simp at h;subst h
     rcases a1 with⟨rfl,_⟩ | ⟨b1,c1,hx1,_,hg1,_⟩
     ·simp [jw] at hm1
     ·simp [jw,hx1] at hm1;subst hm1
      rw [hd11] at hg1
      simp only [Option.some.injEq,Obj.cells.injEq] at hg1
      exact n2 hg1.2.1.symm)
    have a3:=a2.ext hx14 (zf0 a2 hm12 n2)
    exact a3.ext hx15 (fun m hm1 h=>by
     simp at h;subst h
     rcases a3 with⟨rfl,_⟩ | ⟨b1,c1,hx1,_,hg1,_⟩
     ·simp [jw] at hm1
     ·simp [jw,hx1] at hm1;subst hm1
      rw [hn14] at hg1
      simp only [Option.some.injEq,Obj.cells.injEq] at hg1
      exact n3 hg1.2.1.symm)
   exact⟨ys,stay g1 (by decide) (by decide) (by decide),g2,fun z hz=>⟨stay (g3 z hz).1 (by decide) (by decide) (by decide),(g3 z hz).2⟩⟩
  refine hkc w15 hK ⟨x2,xp2,?_,by omega,?_,?_,?_,?_,fun m hm=>?_,?_,?_,by simp;omega⟩
  ·exact hK.ext h1 (by omega) (fun m hm h=>by
    simp only [List.mem_cons] at h
    rcases h with rfl | rfl | h
    ·omega
    ·omega
    ·exact h)
  ·exact hx15.get (hx14.get (hx12.get hl11 (by simp;omega)) (fun h=>by have:=jo h6 _ h;omega)) (by simp;omega)
  ·rw [hw15,List.length_append,List.length_singleton,hk2]
   exact qy hn14
  ·exact hx15.get (hx14.get (keep12 (by omega) (by omega) (hHx' (by omega) (by omega)) h3d) (fun h=>by have:=jo h6 _ h;omega)) (by simp;omega)
  ·rw [List.length_append,List.length_singleton,hk2,zwl,<-List.append_assoc]
   exact hB15
  ·rcases hs10 m hm with h | h
   ·exact h5 m h
   ·right;omega
  ·rw [List.length_append,List.length_singleton,hk2,z4z]
   exact hm14.ext hx15 (fun m hm h=>by
    simp at h;subst h
    have:=jo hm14 _ hm;omega)
  ·refine h7.ext hxA fun a ha _ h=>?_
   have hab:a.block=w4.heap.size:=by simpa [jw,ha] using hyo
   simp only [List.mem_cons,List.mem_append,hab] at h
   rcases h with h | h | h | h
   ·omega
   ·omega
   ·exact hHx' (by omega) (by omega) h
   ·have:=jo h6 _ h;omega
 ·rintro xs W rfl ⟨x',xp',h1,h1s,h2,h3,h3d,h4,h5,h6,h7,h8⟩ hDf
  simp only [List.length_range] at h3 h4 h6
  refine jg (s:=.slc) (t:=x') rfl h2 rfl ?_
  refine xw rfl h3 rfl ?_
  have hlp:xp'.2.1=npc D:=by
   have:=h6.len
   rw [xg Bl.zd7 Bl.zck,zln] at this
   omega
  have hNW:NodW W.heap (zhn D (npc D)) xp' (none,0,0):=⟨h6.cells,by rw [hlp];exact zln.symm,.inl rfl,rfl,z05,by simp [zhn]⟩
  have lenk:(Ls++zc9 D (npc D)).length<=1073741824:=by simp [zc9];omega
  have hH2:=h1.1
  refine zh (z3m (n:=zhn D (npc D)) rfl h4 hB0 (by omega) hNW (z7p hD) (hS.ext h1 h0x) lenk (by have:=z5e (D:=D) (k:=npc D) (by omega);omega)) ?_
  rintro e w17 ⟨x2,rfl,hB17,hx17,hs17⟩
  refine⟨(x2,arr (zkh D)),rfl,?_⟩
  have x'lt:=h4.lt
  have hHx':∀ {m:Nat},H.size<=m->m < w6.heap.size->m∉jw x':=fun h h' hm=>by
   rcases h5 _ hm with h2 | h2
   ·have:=(hxlt _ h2).1;omega
   ·omega
  have hd17:=hx17.get h3d (hHx' (by omega) (by omega))
  refine qea zbm rfl hd17 zcD fun w18 hw18=>?_
  have hx18:Ext [w1.heap.size] w17.heap w18.heap:=by rw [hw18];exact Ext.set _ (by simp)
  have hd18:w18.heap[w1.heap.size]?=some (.cells (byteCells (zkh D)).toArray zf (0,0)):=by rw [hw18];exact qy hd17
  have hDx:w6.heap.size∉jw x':=fun h=>by
   obtain⟨_,c',T',fr',hc'⟩:=x'lt _ h
   rw [hDf] at hc';cases hc'
  have hD18:w18.heap[w6.heap.size]?=some (.deferred (some [])):=hx18.get (hx17.get hDf hDx) (by simp;omega)
  refine⟨hD18,fun w19 hw19=>?_⟩
  have hBs19:Beside w6.heap.size w18 w19:=by rw [hw19];exact .put (Nat.le_refl _) hD18 (by intro _ _ _ h;cases h)
  refine xw rfl (hBs19.cells hd18) (by simp [zkh,zbm]) ?_
  have hB18:zc8 w18.heap B x2 ((Ls++zc9 D (npc D))++[zjb (zhn D (npc D))]):=by
   obtain⟨ys,g1,g2,g3⟩:=hB17
   have stay:∀ {T:TypeId}{x:Option Addr×Nat×Nat}{vs:List Value},Mine w17.heap B T 1 x vs->T≠zf->Mine w18.heap B T 1 x vs:=by
    intro T x vs hm n2
    exact hm.ext hx18 (fun m hm1 h=>by
     simp at h;subst h
     rcases hm with⟨rfl,_⟩ | ⟨b1,c1,hx1,_,hg1,_⟩
     ·simp [jw] at hm1
     ·simp [jw,hx1] at hm1;subst hm1
      rw [hd17] at hg1
      simp only [Option.some.injEq,Obj.cells.injEq] at hg1
      exact n2 hg1.2.1.symm)
   exact⟨ys,stay g1 (by decide),g2,fun z hz=>⟨stay (g3 z hz).1 (by decide),(g3 z hz).2⟩⟩
  refine⟨x2,rfl,?_,?_,fun m hm=>?_⟩
  ·have:=hB18.beside hBs19
   rw [List.append_assoc] at this
   exact this
  ·have hx0:Ext (jw x) H w17.heap:=h1.own hx17 (fun m hm hlt=>by
    rcases h5 m hm with h | h
    ·exact h
    ·omega)
   have hx0':Ext (jw x) H w18.heap:=hx0.own hx18 (fun m hm hlt=>by simp at hm;omega)
   exact hBs19.ext (by omega) hx0'
  ·rcases hs17 m hm with h | h
   ·rcases h5 m h with h | h
    ·exact .inl h
    ·right;omega
   ·right;omega
theorem zc8.keep {H H':Heap}{B:Nat}{x:Option Addr×Nat×Nat}{Ls:List (List UInt8)}{M:List Nat}(h:zc8 H B x Ls) (hx:Ext M H H') (hM:∀ m∈M,∀ c T fr,H[m]?=some (.cells c T fr)->T≠xk/\T≠zac):zc8 H' B x Ls:=by
 obtain⟨ys,g1,g2,g3⟩:=h
 have stay:∀ {T:TypeId}{x:Option Addr×Nat×Nat}{vs:List Value},Mine H B T 1 x vs->(T=xk\/T=zac)->Mine H' B T 1 x vs:=by
  intro T x vs hm hT
  exact hm.ext hx (fun m hm1 h=>by
   rcases hm with⟨rfl,_⟩ | ⟨b1,c1,hx1,_,hg1,_⟩
   ·simp [jw] at hm1
   ·simp [jw,hx1] at hm1;subst hm1
    have:=hM _ h _ _ _ hg1
    rcases hT with rfl | rfl
    ·exact this.1 rfl
    ·exact this.2 rfl)
 exact⟨ys,stay g1 (.inl rfl),g2,fun z hz=>⟨stay (g3 z hz).1 (.inr rfl),(g3 z hz).2⟩⟩
theorem z90 {w:World}{H:Heap}{B:Nat}{x:Option Addr×Nat×Nat}{ds:List (List UInt8)}{k:List UInt8}{Q:World->Prop}(hw:w.heap=H) (hm:Mine H B zf 32 x (ds.flatMap Bl.zd7)) (hBs:B<=H.size) (hk:k.length=32) (hlen:ds.length<=1073741824) (hQ:∀ w',Ext [] H w'.heap->Q w'){K:(Option Addr×Nat×Nat)->World->Prop}
  (hK:∀ x' w',Mine w'.heap B zf 32 x' ((ds++[k]).flatMap Bl.zd7)->Ext (jw x) H w'.heap->(∀ c∈jw x',c∈jw x\/H.size<=c)->K x' w') :
  za2 P (Instr.buildSlice jq 1 #[(0,arr k)]) .slc w fun (t27:(Option Addr×Nat×Nat)) w_13=>Q w_13 /\
  za2 P (Builtin.append_ #[jq,jq] jq #[(Value.slice x.1 x.2.1 x.2.2),(Value.slice t27.1 t27.2.1 t27.2.2)]) .slc w_13 K:=by
 have hlx:x.2.1=ds.length:=by
  have:=hm.len
  rw [xg Bl.zd7 Bl.zck] at this
  omega
 have hc1:(arr k).cells=(Bl.zd7 k).toArray:=by rw [Bl.zhq hk];rfl
 refine zaf (s:=.slc) (some ⟨w.heap.size,0,none⟩,1,1) _ (zee ED Bl.qhn (v:=arr k) (by rw [Bl.zb1,hk]) (by omega) (by omega)) ?_
 subst hw
 have hxp:Ext [] w.heap (w.heap.push (.cells (arr k).cells zf)):=.push _
 refine⟨hQ _ hxp,?_⟩
 refine zbx (bts:=32) (n:=1) (us:=Bl.zd7 k) (H:=w.heap.push (.cells (arr k).cells zf)) ED (by omega) Bl.qhn (zar Bl.qhn) rfl (hm.ext hxp (by simp)) (by simp;omega)
  (Src.slc rfl (.inr ⟨w.heap.size,0,_,_,_,rfl,zk,by rw [hc1];simp,by rw [hc1,Nat.zero_add];simp⟩) (by rw [Bl.zck])) Bl.znp (by omega) ?_
 intro x' w4 hm4 hl4 hx4 hs4
 refine hK x' w4 (by rw [List.flatMap_append,List.flatMap_singleton];exact hm4) ((hxp.mono (by simp)).trans hx4) (fun c hc=>?_)
 rcases hs4 c hc with h | h
 ·exact .inl h
 ·right;have:=hxp.1;omega
end Go.Proofs.YthaaekcaaecdeaaGreatDoor
