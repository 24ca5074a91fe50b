/- Part 9 of the texts below the card, joined. -/
import Derived.Test.YtbmegmbnlajbbaaGreatDoorRows
import Derived.Test.YtbmegmbnlajbbaaGreatDoorTCeg
import Derived.Test.YtbmegmbnlajbbaaGreatDoorTCeh
namespace Go.Proofs.YtbmegmbnlajbbaaGreatDoor
open Go Go.Fw Go.Proofs Go.ChangeShapes Go.WideShapes Go.ChangeAt Go.RowKit
variable {Hh:Type}
theorem qmu (d:DataW Hh):1<=Rows.uptoBulk d:=by
 cases d with
 | lit l=>cases l <;> simp [Rows.uptoBulk]
 | _=>simp [Rows.uptoBulk]
theorem zza:∀ {l:List (DataW Hh)},l.length<=Rows.uptoBulkAll l
 | []=>by simp [Rows.uptoBulkAll]
 | d :: l=>by
  have:=zza (l:=l)
  have:=qmu d
  simp only [Rows.uptoBulkAll,List.length_cons];omega
theorem z0c:∀ {l:List (DataW Hh)}{d:DataW Hh},d∈l->Rows.uptoBulk d<=Rows.uptoBulkAll l
 | x :: l,d,h=>by
  simp only [Rows.uptoBulkAll]
  rcases List.mem_cons.1 h with rfl | h
  ·omega
  ·have:=z0c h;omega
theorem z9k (d:DataW Hh):big d<=Rows.uptoBulk d:=by
 cases d with
 | slice es rest=>have:=zza (l:=es);simp only [big,Rows.uptoBulk];omega
 | _=>simp [big]
theorem z6p {es rest:List (DataW Hh)}{d:DataW Hh}(h:d∈es):Rows.uptoBulk d<=Rows.uptoBulk (.slice es rest):=by
 have:=z0c h;simp only [Rows.uptoBulk];omega
theorem qfw {es:List (DataW Hh)}{d:DataW Hh}(h:d∈es):Rows.uptoBulk d<=Rows.uptoBulk (.agg es):=by
 have:=z0c h;simp only [Rows.uptoBulk];omega
variable {enc:TypeId×Value->Hh}{W:World}
theorem qfg {t:TypeId}(ht:P.underlying t=some .string){v:Value}{fuel:Nat}{x:DataW Hh×List MemPlace}(h:DataW.trod enc P W 0 (fun _=>true) true fuel t [v]=some x):∃ L:List UInt8,v=.string (strOf L)/\L.length<=Rows.uptoBulk x.1:=by
 cases fuel with
 | zero=>simp [DataW.trod] at h
 | succ m=>
  unfold DataW.trod at h
  rw [ht] at h
  split at h <;> simp_all
  refine⟨_,qhe.symm,?_⟩
  rw [<-h.2]
  simp [Rows.uptoBulk]
theorem qlf {t e:TypeId}(ht:P.underlying t=some (.slice e)) (hc:P.cellsOf e=1){α:Type}{f:α->Value}{Q:α->Nat->Prop}(hQ:∀ y m n,Q y m->m<=n->Q y n) (hel:∀ {v:Value}{fuel:Nat}{x:DataW Hh×List MemPlace},DataW.trod enc P W 0 (fun _=>true) true fuel e [v]=some x->∃ y,v=f y/\Q y (Rows.uptoBulk x.1))
  {v:Value}{fuel:Nat}{x:DataW Hh×List MemPlace}(h:DataW.trod enc P W 0 (fun _=>true) true fuel t [v]=some x):∃ (a:Option Addr) (n nc:Nat) (L:List α),v=.slice a n nc/\Cells W.heap a (L.map f)/\n=L.length/\L.length<=Rows.uptoBulk x.1/\∀ y∈L,Q y (Rows.uptoBulk x.1):=by
 obtain⟨a,n,nc,ys,rfl,hle,hn,hx,hes⟩:=row_of ht hc (by omega) h
 have key:∀ i (hi:i < ys.length),∃ y:α,(∃ (b o:Nat) (c:Array Value) (T:TypeId) (fr:Nat×Nat),a=some ⟨b,o,none⟩/\W.heap[b]?=some (.cells c T fr)/\o+i < c.size/\c[o+i]?=some (f y))/\Q y (Rows.uptoBulk x.1):=by
  intro i hi
  obtain⟨b,o,c,T,fr,m,ps,rfl,hb,hsz,ht2⟩:=hes i hi
  rw [Nat.mul_one] at hsz ht2
  rw [take_one (by omega)] at ht2
  obtain⟨y,hv,hq⟩:=hel ht2
  refine⟨y,⟨b,o,c,T,fr,rfl,hb,by omega,by rw [<-hv];exact Array.getElem?_eq_getElem _⟩,hQ _ _ _ hq ?_⟩
  rcases hx with⟨h1,h2,_⟩ | ⟨rest,h3⟩
  ·omega
  ·rw [h3];exact z6p (List.getElem_mem _)
 have hlen:∃ L:List α,L.length=ys.length/\∀ i (hi:i < ys.length) (h:i < L.length),(∃ (b o:Nat) (c:Array Value) (T:TypeId) (fr:Nat×Nat),a=some ⟨b,o,none⟩/\W.heap[b]?=some (.cells c T fr)/\o+i < c.size/\c[o+i]?=some (f L[i]))/\Q L[i] (Rows.uptoBulk x.1):=by
  classical
  by_cases h0:ys.length=0
  ·exact⟨[],by simp [h0],fun i hi=>by omega⟩
  ·refine⟨(List.range ys.length).map fun i=>if h:i < ys.length then Classical.choose (key i h) else Classical.choose (key 0 (by omega)),by simp,fun i hi h=>?_⟩
   have:=Classical.choose_spec (key i hi)
   simpa [hi] using this
 obtain⟨L,hl,hL⟩:=hlen
 refine⟨a,n,nc,L,rfl,?_,by omega,?_,fun y hy=>?_⟩
 ·by_cases h0:n=0
  ·left;rw [List.eq_nil_of_length_eq_zero (by omega:L.length=0)];rfl
  ·obtain⟨⟨b,o,c,T,fr,rfl,hb,_,_⟩,_⟩:=hL 0 (by omega) (by omega)
   have at_:∀ i (hi:i < L.length),o+i < c.size/\c[o+i]?=some (f L[i]):=by
    intro i hi
    obtain⟨⟨b2,o2,c2,T2,fr2,he,hb2,h3,h4⟩,_⟩:=hL i (by omega) hi
    cases he
    rw [hb] at hb2;cases hb2
    exact⟨h3,h4⟩
   refine .inr ⟨b,o,c,T,fr,rfl,hb,?_,?_⟩
   ·have:=(at_ (L.length-1) (by omega)).1
    rw [List.length_map];omega
   ·apply List.ext_getElem?
    intro j
    rw [Array.getElem?_toList,Array.getElem?_extract,List.length_map,List.getElem?_map]
    by_cases hj:j < L.length
    ·have hjc:=(at_ j hj).1
     rw [if_pos (by omega),(at_ j hj).2,List.getElem?_eq_getElem hj];rfl
    ·rw [if_neg (by omega),List.getElem?_eq_none (by omega)];rfl
 ·rcases hx with⟨h1,h2,_⟩ | ⟨rest,h3⟩
  ·have:L.length=0:=by omega
   omega
  ·have h5:=z9k x.1
   have h6:big x.1=ys.length:=by rw [h3];rfl
   omega
 ·obtain⟨i,hi,rfl⟩:=List.getElem_of_mem hy
  exact (hL i (by omega) hi).2
theorem qjz {Ks:List Int}:(Ks.flatMap fun n=>[Value.int .i64 n])=Ks.map fun n=>Value.int .i64 n:=by
 induction Ks with
 | nil=>rfl
 | cons a l ih=>rw [List.flatMap_cons,ih];rfl
theorem qsp:shapeOf P zi7=some [(zco,0),(jy,1),(zco,2),(jl,3),(zai,4),(z2p,5),(jl,6)]:=by kernel_rfl
theorem quj:P.cellsOf zi7=7:=by kernel_rfl
theorem qnq:shapeOf P zgd=some [(zmz,0),(zco,1),(zco,2)]:=by kernel_rfl
theorem qta:P.cellsOf zgd=3:=by kernel_rfl
theorem qr8:P.cellsOf zmz=1:=by kernel_rfl
theorem qr0:P.underlying zmz=some (.slice zi7):=by kernel_rfl
theorem cSb:P.cellsOf zi=1:=by kernel_rfl
theorem qtk:P.cellsOf jl=1:=by kernel_rfl
theorem cSs:P.cellsOf zai=1:=by kernel_rfl
theorem cSi:P.cellsOf z2p=1:=by kernel_rfl
theorem cIn:P.cellsOf zco=1:=by kernel_rfl
theorem cU8:P.cellsOf qy=1:=by kernel_rfl
theorem uIn:P.underlying zco=some (.int .i64):=by kernel_rfl
theorem uU8:P.underlying qy=some (.int .u8):=by kernel_rfl
theorem uSb:P.underlying zi=some (.slice qy):=by kernel_rfl
theorem qtl:P.underlying jl=some (.slice zi):=by kernel_rfl
theorem uSs:P.underlying zai=some (.slice jy):=by kernel_rfl
theorem uSi:P.underlying z2p=some (.slice zco):=by kernel_rfl
theorem qls {c:Array Value}{o:Nat}{fuel:Nat}{x:DataW Hh×List MemPlace}(hsz:o+7<=c.size) (h:DataW.trod enc P W 0 (fun _=>true) true fuel zi7 ((c.toList.drop o).take 7)=some x) (hb:Rows.uptoBulk x.1<=1048576):RawW W.heap (c.extract o (o+7)):=by
 obtain⟨zs,hy,_,hzl,hf⟩:=qdh qsp h
 obtain⟨xd,xps⟩:=x
 have hy:xd=.agg zs:=hy
 subst hy
 have field:∀ j ti,([(zco,0),(jy,1),(zco,2),(jl,3),(zai,4),(z2p,5),(jl,6)]:List (TypeId×Nat))[j]?=some (ti,j)->P.cellsOf ti=1->j < 7->∃ m ps z v,Rows.uptoBulk z<=1048576/\c[o+j]?=some v/\DataW.trod enc P W 0 (fun _=>true) true m ti [v]=some (z,ps):=by
  intro j ti hj hc1 hj5
  obtain⟨m',ps',z,hz,htr⟩:=hf j ti j hj
  rw [hc1,qit hj5 hsz] at htr
  exact⟨m',ps',z,_,Nat.le_trans (qfw (List.mem_of_getElem? hz)) hb,Array.getElem?_eq_getElem _,htr⟩
 obtain⟨m0,p0,z0,v0,hz0,hc0,ht0⟩:=field 0 zco rfl cIn (by omega)
 obtain⟨m1,p1,z1,v1,hz1,hc1,ht1⟩:=field 1 jy rfl cStr (by omega)
 obtain⟨m2,p2,z2,v2,hz2,hc2,ht2⟩:=field 2 zco rfl cIn (by omega)
 obtain⟨m3,p3,z3,v3,hz3,hc3,ht3⟩:=field 3 jl rfl qtk (by omega)
 obtain⟨m4,p4,z4,v4,hz4,hc4,ht4⟩:=field 4 zai rfl cSs (by omega)
 obtain⟨m5,p5,z5,v5,hz5,hc5,ht5⟩:=field 5 z2p rfl cSi (by omega)
 obtain⟨m6,p6,z6,v6,hz6,hc6,ht6⟩:=field 6 jl rfl qtk (by omega)
 obtain⟨k0,rfl,_⟩:=qab uIn ht0
 obtain⟨D,rfl,hD⟩:=qfg qfk ht1
 obtain⟨k2,rfl,_⟩:=qab uIn ht2
 obtain⟨a3,n3,nc3,Ps,es3,rfl,_,hR3,hn3,hx3,_⟩:=qrf qtl uSb uU8 cU8 cSb ht3
 obtain⟨a4,n4,nc4,Ns,rfl,hC4,hn4,hl4,hq4⟩:=qlf (f:=fun L:List UInt8=>Value.string (strOf L)) (Q:=fun L n=>L.length<=n) uSs cStr (fun _ _ _ h h'=>Nat.le_trans h h') (fun h=>qfg qfk h) ht4
 obtain⟨a5,n5,nc5,Ks,rfl,hC5,hn5,hl5,_⟩:=qlf (f:=fun n:Int=>Value.int .i64 n) (Q:=fun _ _=>True) uSi cIn (fun _ _ _ _ _=>trivial) (fun h=>by obtain⟨n,hv,_⟩:=qab uIn h;exact⟨n,hv,trivial⟩) ht5
 obtain⟨a6,n6,nc6,Ss,es6,rfl,_,hR6,hn6,hx6,_⟩:=qrf qtl uSb uU8 cU8 cSb ht6
 have qrx:=z9k z3
 have big6:=z9k z6
 have l3:Ps.length<=1048576:=by
  have:=hR3.1
  rcases hx3 with⟨h1,_,_⟩ | ⟨rest,h3⟩
  ·omega
  ·have h3:z3=.slice es3 rest:=h3
   rw [h3] at qrx hz3;simp only [big] at qrx;omega
 have l6:Ss.length<=1048576:=by
  have:=hR6.1
  rcases hx6 with⟨h1,_,_⟩ | ⟨rest,h3⟩
  ·omega
  ·have h3:z6=.slice es6 rest:=h3
   rw [h3] at big6 hz6;simp only [big] at big6;omega
 simp only at hD hl4 hl5 hq4
 refine⟨k0,k2,D,(a3,n3,nc3),(a4,n4,nc4),(a5,n5,nc5),(a6,n6,nc6),Ps,Ns,Ss,Ks,?_,hR3,hC4,hn4,?_,hn5,hR6,l3,by omega,by omega,l6,by omega,fun L hL=>by have:=hq4 L hL;omega⟩
 ·apply Array.ext_getElem?
  intro j
  rw [Array.getElem?_extract]
  by_cases hj:j < 7
  ·rw [if_pos (by omega)]
   match j,hj with
   | 0,_=>exact hc0
   | 1,_=>exact hc1
   | 2,_=>exact hc2
   | 3,_=>exact hc3
   | 4,_=>exact hc4
   | 5,_=>exact hc5
   | 6,_=>exact hc6
  ·rw [if_neg (by omega),Array.getElem?_eq_none (by simp;omega)]
 ·rw [qjz];exact hC5
theorem qky {v:Value}{fuel:Nat}{x:DataW Hh×List MemPlace}(h:DataW.trod enc P W 0 (fun _=>true) true fuel zgd v.cells.toList=some x) (hv:∃ cs:Array Value,v=.agg cs) (hb:Rows.uptoBulk x.1<=1048576) :
  ∃ a n nc dr sp,v=.agg #[.slice a n nc,.int .i64 dr,.int .i64 sp]/\qd5 W.heap a n:=by
 obtain⟨cs,rfl⟩:=hv
 obtain⟨zs,hy,hcl,hzl,hf⟩:=qdh qnq h
 obtain⟨xd,xps⟩:=x
 have hy:xd=.agg zs:=hy
 subst hy
 have hsz:cs.size=3:=by rw [qta] at hcl;simpa [Value.cells] using hcl
 have field:∀ j ti,([(zmz,0),(zco,1),(zco,2)]:List (TypeId×Nat))[j]?=some (ti,j)->P.cellsOf ti=1->j < 3->∃ m ps z v,Rows.uptoBulk z<=1048576/\cs[j]?=some v/\DataW.trod enc P W 0 (fun _=>true) true m ti [v]=some (z,ps):=by
  intro j ti hj hc1 hj5
  obtain⟨m',ps',z,hz,htr⟩:=hf j ti j hj
  rw [hc1,show (Value.agg cs).cells=cs from rfl,take_one (by omega)] at htr
  exact⟨m',ps',z,_,Nat.le_trans (qfw (List.mem_of_getElem? hz)) hb,Array.getElem?_eq_getElem _,htr⟩
 obtain⟨m0,p0,z0,v0,hz0,hc0,ht0⟩:=field 0 zmz rfl qr8 (by omega)
 obtain⟨m1,p1,z1,v1,hz1,hc1,ht1⟩:=field 1 zco rfl cIn (by omega)
 obtain⟨m2,p2,z2,v2,hz2,hc2,ht2⟩:=field 2 zco rfl cIn (by omega)
 obtain⟨k1,rfl,_⟩:=qab uIn ht1
 obtain⟨k2,rfl,_⟩:=qab uIn ht2
 obtain⟨a,n,nc,ys,rfl,hle,hn,hx,hel⟩:=row_of qr0 quj (by omega) ht0
 refine⟨a,n,nc,k1,k2,?_,fun i hi=>?_⟩
 ·congr 1
  apply Array.ext_getElem?
  intro j
  by_cases hj:j < 3
  ·match j,hj with
   | 0,_=>exact hc0
   | 1,_=>exact hc1
   | 2,_=>exact hc2
  ·rw [Array.getElem?_eq_none (by omega),Array.getElem?_eq_none (by simp;omega)]
 ·obtain⟨b,o,c,T,fr,m,ps,rfl,hbk,hsz2,ht3⟩:=hel i (by omega)
  refine⟨b,o,c,T,fr,rfl,hbk,hsz2,qls hsz2 ht3 ?_⟩
  rcases hx with⟨h1,_,_⟩ | ⟨rest,h3⟩
  ·omega
  ·have h3:z0=.slice ys rest:=h3
   have:=z6p (rest:=rest) (List.getElem_mem (l:=ys) (n:=i) (by omega))
   rw [<-h3] at this;simp only;omega
theorem qj6 {Q:Program}{t:TypeId}{L:List (TypeId×Nat)}(hs:shapeOf Q t=some L){W:World}{r:Reach}{base:Nat}{v:Value}(h:Value.okWide Q W r base t v):∃ cs:Array Value,v=.agg cs:=by
 unfold shapeOf at hs
 split at hs
 ·rename_i fs hu
  unfold Value.okWide at h
  rw [hu] at h
  obtain⟨cs,hc,_⟩:=h
  exact⟨cs,hc⟩
 ·cases hs
end Go.Proofs.YtbmegmbnlajbbaaGreatDoor
