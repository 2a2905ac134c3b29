/- The card. -/
import Derived.Test.YtoklkjkmbfebjaaGreatDoorP11
set_option linter.all false
section
namespace Go.Km
open Go Go.Sl Go.RowKit Go.Vc Go.aa
section
variable {H:Type} {enc:TypeId×Value→H} {P:Program} {w:World}
def eO(P:Program)(t:TypeId)(d:DataW H):Prop:=∀k∈d.weights P t,k≤reachBytes
theorem vV{e:TypeId}:∀{l:List (DataW H)},(∀k∈DataW.weightsAll P e l,k≤reachBytes)→∀d∈l,eO P e d
 | [],_,d,hd=>by cases hd
 | x :: l,h,d,hd=>by
  simp only[DataW.weightsAll,List.mem_append] at h;rcases List.mem_cons.1 hd with rfl|hd
  ·exact fun k hk=>h k (.inl hk)
  ·exact vV (fun k hk=>h k (.inr hk)) d hd
theorem ey:∀{ts:List TypeId} {l:List (DataW H)},(∀k∈DataW.weightsEach P ts l,k≤reachBytes)→∀(i:Nat) t d,ts[i]?=some t→l[i]?=some d→eO P t d
 | [],_,_,i,t,d,ht,_=>by simp at ht
 | _ :: _,[],_,i,t,d,_,hd=>by simp at hd
 | t0 :: ts,x :: l,h,0,t,d,ht,hd=>by
  simp only[DataW.weightsEach,List.mem_append] at h;simp at ht hd;subst ht;subst hd;exact fun k hk=>h k (.inl hk)
 | t0 :: ts,x :: l,h,i+1,t,d,ht,hd=>by
  simp only[DataW.weightsEach,List.mem_append] at h;exact ey (fun k hk=>h k (.inr hk)) i t d (by simpa using ht) (by simpa using hd)
theorem kD:reachBytes=140737488351232:=by decide
theorem mi{n:Int}(h:(Lit.int .i64 n).wf=true):I64 n:=by
 simp only[Lit.wf,Bool.and_eq_true,decide_eq_true_eq] at h;exact h
theorem Bx{n:Int}(h:(Lit.int .u8 n).wf=true):0≤n∧n≤255:=by
 simp only[Lit.wf,Bool.and_eq_true,decide_eq_true_eq] at h;exact h
theorem rG{n:Int}(h:(Lit.int .u64 n).wf=true):0≤n∧n<18446744073709551616:=by
 simp only[Lit.wf,Bool.and_eq_true,decide_eq_true_eq] at h;have h1:(0:Int)≤n:=h.1;have h2:n≤(18446744073709551615:Int):=h.2;omega
theorem xy {α:Type} [Inhabited α] {t e sz:Nat} {R:List Value→α→Prop} {F:α→Prop} (ht:P.underlying t=some (.slice e)) (hc:P.cellsOf e=sz) (hsz:0<sz)
  (hE:∀(n:Nat) cs (y:DataW H×List MemPlace),DataW.trod enc P w 0 (fun _=>true) true n e cs=some y→eO P e y.1→∃a,R cs a∧F a)
  {fuel:Nat} {cs:List Value} {x:DataW H×List MemPlace} (h:DataW.trod enc P w 0 (fun _=>true) true fuel t cs=some x) (hs:eO P t x.1) :
  ∃(xs:List α) (A:Option Addr) (c:Nat) (rows:List (List Value)),cs=[.slice A xs.length c]∧Arr sz (fun b=>b<w.heap.size) w A xs.length rows∧(rows.length=xs.length∧∀(i:Nat) a b,rows[i]?=some a→xs[i]?=some b→R a b)∧xs.length≤c∧xs.length * P.bytesOf e≤reachBytes∧∀a∈xs,F a:=by
 rcases DataW.trod_slice ht h with ⟨rfl,rfl⟩|⟨a,len,cap,elems,rest,n,rfl,rfl,rfl,_,hlc,hcm,hel,hg,_,_⟩
 ·exact⟨[],none,0,[],rfl,Arr.nil,⟨rfl,fun i a b h=>by simp at h⟩,Nat.le_refl _,by simp,by simp⟩
 ·unfold eO at hs;simp only[DataW.weights,ht,List.mem_cons,List.mem_append,List.length_map] at hs;have hb:=hs _ (.inl rfl);have hse:=vV (P:=P) (e:=e) (fun k hk=>hs k (.inr (.inl hk)));have key:∀i:Nat,∃p:List Value×α,i<len→w.cells? 0 (a.add (i * sz)) sz=some p.1∧R p.1 p.2∧F p.2:=by
   intro i
   by_cases hi:i<len
   ·have h1:=hg i hi;rw[List.getElem?_eq_getElem (by omega),hc] at h1;obtain⟨ci,h2,h3⟩:=Option.bind_eq_some_iff.1 h1;obtain⟨ai,h4,h5⟩:=hE n ci _ h3 (hse _ (List.mem_map.2 ⟨elems[i],List.getElem_mem _,rfl⟩));exact⟨(ci,ai),fun _=>⟨h2,h4,h5⟩⟩
   ·exact⟨([],default),fun h=>absurd h hi⟩
  obtain⟨f,hf⟩:=Classical.axiomOfChoice key;have hlr:((List.range len).map fun i=>(f i).1).length=len:=by simp
  have hlx:((List.range len).map fun i=>(f i).2).length=len:=by simp
  have hgr:∀i,i<len→((List.range len).map fun i=>(f i).1)[i]?=some (f i).1:=fun i hi=>by simp[hi]
  have hgx:∀i,i<len→((List.range len).map fun i=>(f i).2)[i]?=some (f i).2:=fun i hi=>by simp[hi]
  have hrs:∀r∈(List.range len).map (fun i=>(f i).1),r.length=sz:=by
   intro r hr;obtain⟨i,hi,rfl⟩:=List.mem_map.1 hr;exact(World.cells?_some (hf i (List.mem_range.1 hi)).1).2.1
  refine⟨(List.range len).map fun i=>(f i).2,some a,cap,(List.range len).map fun i=>(f i).1,by rw[hlx],?_,⟨by rw[hlr,hlx],fun i x y hx hy=>?_⟩,by rw[hlx];exact hlc,?_,fun y hy=>?_⟩
  ·rw[hlx];refine⟨hlr,hrs,fun h0=>⟨a,rfl,?_,fun j v hj=>?_⟩⟩
   ·have:=World.cells?_block (hf 0 h0).1 hsz;simpa [px] using this
   ·have hjl:j<len * sz:=by
     have:=(List.getElem?_eq_some_iff.1 hj).1
     rwa [length_flatten hrs,hlr] at this
    have hi:j / sz<len:=Nat.div_lt_of_lt_mul (by rw[Nat.mul_comm];exact hjl);have ho:j % sz<sz:=Nat.mod_lt _ hsz;have hdm:j / sz * sz+j % sz=j:=by rw[Nat.mul_comm];exact Nat.div_add_mod j sz
    have h1:=mQ hrs (hgr _ hi) ho;rw[hdm,hj] at h1;have h2:=(World.cells?_some (hf _ hi).1).2.2 _ ho;rw[Sl.add_add,hdm,←h1] at h2;exact h2
  ·have hi:i<len:=by have:=(List.getElem?_eq_some_iff.1 hx).1;simpa using this
   rw[hgr i hi] at hx;rw[hgx i hi] at hy
   injection hx with hx
   injection hy with hy
   subst hx;subst hy;exact(hf i hi).2.1
  ·rw[hlx];refine Nat.le_trans (Nat.mul_le_mul_right _ ?_) hb;omega
  ·obtain⟨i,hi,rfl⟩:=List.mem_map.1 hy;exact(hf i (List.mem_range.1 hi)).2.2
theorem aK{Z:Nat→Prop}{w:World}{x:F}{u:Value}{l:List F}{us:List Value}(h:F.rep Z w x u)(k:F.ah Z w l us):F.ah Z w (x :: l) (u :: us):=by
 unfold F.ah;exact⟨u,us,rfl,h,k⟩
theorem fE{Z:Nat→Prop}{w:World}:F.ah Z w [] []:=by unfold F.ah;rfl
theorem cR{Z:Nat→Prop}{w:World}(v:Value):F.rep Z w (.vl v) v:=by unfold F.rep;rfl
theorem Cv{Z:Nat→Prop}{w:World}{l:List F}{vs:List Value}(h:F.ah Z w l vs):F.rep Z w (.ag l) (.agg vs.toArray):=by unfold F.rep;exact⟨vs,rfl,h⟩
theorem CX{Z:Nat→Prop}{w:World}{α:Type}{c:α→List F}:∀{xs:List α} {rows:List (List Value)},rows.length=xs.length→(∀(i:Nat) a b,rows[i]?=some a→xs[i]?=some b→F.ah Z w (c b) a)→F.aG Z w (xs.map c) rows
 | [],[],_,_=>by unfold F.aG;rfl
 | [],_ :: _,h,_=>by simp at h
 | _ :: _,[],h,_=>by simp at h
 | x :: xs,r :: rows,h,k=>by
  rw[List.map_cons];unfold F.aG;exact⟨r,rows,rfl,k 0 r x rfl rfl,CX (by simpa using h) fun i a b ha hb=>k (i+1) a b (by simpa using ha) (by simpa using hb)⟩
theorem p9{Z:Nat→Prop}{w:World}{α:Type}{c:α→List F}{xs:List α}{A:Option Addr}{k sz:Nat}{rows:List (List Value)}(hk:xs.length≤k)(hA:Arr sz Z w A xs.length rows)(hR:rows.length=xs.length∧∀(i:Nat) a b,rows[i]?=some a→xs[i]?=some b→F.ah Z w (c b) a)(h1:∀x,(c x).all F.one=true):F.rep Z w (.sl (xs.map c)) (.slice A xs.length k):=by
 unfold F.rep;refine⟨A,k,rows,sz,by rw[List.length_map],by rw[List.length_map];exact hk,by rw[List.length_map];exact hA,fun r hr=>?_,CX hR.1 hR.2⟩;obtain⟨i,hi,rfl⟩:=List.getElem_of_mem hr;exact F.eQ (hR.2 i _ (xs[i]'(by rw[←hR.1];exact hi)) (List.getElem?_eq_getElem hi) (List.getElem?_eq_getElem _)) (h1 _)
instance:Inhabited Nod:=⟨.zero⟩
instance:Inhabited Dfn:=⟨⟨⟨#[]⟩,.zero⟩⟩
end
end Go.Km
namespace Go.Proofs.YtoklkjkmbfebjaaGreatDoor
open Go Go.Sl Go.RowKit Go.Vc Go.Km Go.aa
variable {H:Type} {enc:TypeId×Value→H} {w:World}
abbrev ko(w:World):Nat→Prop:=fun b=>b<w.heap.size
theorem Js:Tryz.prog.cellsOf 3=1:=by kernel_rfl
theorem M1:Tryz.prog.cellsOf 54=9:=by kernel_rfl
theorem M6:Tryz.prog.cellsOf 40=2:=by kernel_rfl
theorem NS:Tryz.prog.cellsOf 52=4:=by kernel_rfl
theorem NG:Tryz.prog.cellsOf 50=1:=by kernel_rfl
theorem Nf:Tryz.prog.cellsOf 5=1:=by kernel_rfl
theorem MZ:Tryz.prog.cellsOf 9=1:=by kernel_rfl
theorem MG:Tryz.prog.cellsOf 25=1:=by kernel_rfl
theorem MK:Tryz.prog.cellsOf 38=1:=by kernel_rfl
theorem NN:Tryz.prog.bytesOf 3=8:=by kernel_rfl
theorem NY:Tryz.prog.bytesOf 54=96:=by kernel_rfl
theorem MJ:Tryz.prog.cellsOf 49=3:=by kernel_rfl
theorem Mv:Tryz.prog.cellsOf 22=1:=by kernel_rfl
theorem NL:Tryz.prog.cellsOf 24=1:=by kernel_rfl
theorem NZ:Tryz.prog.bytesOf 49=48:=by kernel_rfl
theorem Gw{fuel:Nat}{cs:List Value}{x:DataW H×List MemPlace}(h:DataW.trod enc Tryz.prog w 0 (fun _=>true) true fuel 25 cs=some x)(hs:eO Tryz.prog 25 x.1):∃xs:List Int,∃u,cs=[u]∧F.rep (ko w) w (isF xs) u∧Au xs:=by
 obtain⟨xs,A,c,rows,h1,h2,h3,h4,h5,h6⟩:=xy (R:=fun cs (a:Int)=>F.ah (ko w) w (ikF a) cs) (F:=fun a=>I64 a) Tryz.underlying25 Js (by decide) (fun n cs y hy _=>by
  obtain⟨k,e1,e2,e3⟩:=DataW.trod_int Tryz.underlying3 hy;subst e1;exact⟨k,aK (cR _) fE,mi e3⟩) h hs
 rw[NN] at h5;refine⟨xs,_,h1,p9 h4 h2 h3 (fun _=>rfl),?_,h6⟩;rw[kD] at h5;unfold dS;omega
set_option maxRecDepth 100000 in
theorem KV{fuel:Nat}{cs:List Value}{x:DataW H×List MemPlace}(h:DataW.trod enc Tryz.prog w 0 (fun _=>true) true fuel 54 cs=some x)(hs:eO Tryz.prog 54 x.1):∃n:Nod,F.ah (ko w) w (aU n) cs∧n.wf:=by
 obtain⟨xs,m,_,rfl,hl,hlen,hf⟩:=DataW.trod_struct Tryz.underlying54 h;have hl:=hl.trans M1
 match cs,hl with
 | [c0,c1,c2,c3,c4,c5,c6,c7,c8],_=>
  match xs,hlen with
  | [y0,y1,y2,y3,y4,y5],_=>
   unfold eO at hs;simp only[DataW.weights,Tryz.underlying54] at hs;have hse:=ey hs;have f0:=hf 0 _ rfl;have f1:=hf 1 _ rfl;have f2:=hf 2 _ rfl;have f3:=hf 3 _ rfl;have f4:=hf 4 _ rfl;have f5:=hf 5 _ rfl;simp only[Nf,NS,MZ,Js,MG,List.drop_succ_cons,List.drop_zero,List.take_succ_cons,List.take_zero,List.getElem?_cons_zero,List.getElem?_cons_succ] at f0 f1 f2 f3 f4 f5;obtain⟨k0,e0,_,w0⟩:=DataW.trod_int Tryz.underlying5 f0;obtain⟨zs,m1,_,_,_,hzl,hz⟩:=DataW.trod_array Tryz.underlying52 f1;obtain⟨s,e2,rfl',_⟩:=DataW.trod_string Tryz.underlying9 f2;obtain⟨k3,e3,_,w3⟩:=DataW.trod_int Tryz.underlying3 f3;obtain⟨k4,e4,_,w4⟩:=DataW.trod_int Tryz.underlying3 f4;obtain⟨ks,u5,e5,hr5,hw5⟩:=Gw f5 (hse 5 _ _ rfl rfl)
   match zs,hzl with
   | [z0,z1,z2,z3],_=>
    have g0:=hz 0 (by decide);have g1:=hz 1 (by decide);have g2:=hz 2 (by decide);have g3:=hz 3 (by decide);simp only[NG,Nat.zero_mul,Nat.one_mul,Nat.mul_one,List.drop_succ_cons,List.drop_zero,List.take_succ_cons,List.take_zero,List.getElem?_cons_zero,List.getElem?_cons_succ] at g0 g1 g2 g3;obtain⟨b0,q0,_,u0⟩:=DataW.trod_int Tryz.underlying50 g0;obtain⟨b1,q1,_,u1⟩:=DataW.trod_int Tryz.underlying50 g1;obtain⟨b2,q2,_,u2⟩:=DataW.trod_int Tryz.underlying50 g2;obtain⟨b3,q3,_,u3⟩:=DataW.trod_int Tryz.underlying50 g3;have hst:=hse 2 _ _ rfl rfl;have htx:s.size≤reachBytes:=by
     have e:y2.1=.lit (.string s.data.toList):=by rw[rfl']
     simp only[List.map_cons,List.getElem?_cons_zero,List.getElem?_cons_succ] at hst;rw[e] at hst;have:=hst s.data.toList.length (by simp[DataW.weights]);simpa using this
    obtain⟨rfl,_⟩:=List.cons.inj e0;obtain⟨rfl,_⟩:=List.cons.inj e2;obtain⟨rfl,_⟩:=List.cons.inj e3;obtain⟨rfl,_⟩:=List.cons.inj e4;obtain⟨rfl,_⟩:=List.cons.inj e5;obtain⟨rfl,_⟩:=List.cons.inj q0;obtain⟨rfl,_⟩:=List.cons.inj q1;obtain⟨rfl,_⟩:=List.cons.inj q2;obtain⟨rfl,_⟩:=List.cons.inj q3;refine⟨⟨k0,⟨b0,b1,b2,b3⟩,s,k3,k4,ks⟩,aK (cR _) (aK (cR _) (aK (cR _) (aK (cR _) (aK (cR _) (aK (cR _) (aK (cR _) (aK (cR _) (aK hr5 fE)))))))),Bx w0,⟨rG u0,rG u1,rG u2,rG u3⟩,?_,mi w3,mi w4,hw5⟩;show s.size≤140737488355328
    rw[kD] at htx;omega
theorem IZ{fuel:Nat}{cs:List Value}{x:DataW H×List MemPlace}(h:DataW.trod enc Tryz.prog w 0 (fun _=>true) true fuel 38 cs=some x)(hs:eO Tryz.prog 38 x.1):∃ns:List Nod,∃u,cs=[u]∧F.rep (ko w) w (.sl (ns.map aU)) u∧ns.length≤ca∧∀n∈ns,n.wf:=by
 obtain⟨ns,A,c,rows,h1,h2,h3,h4,h5,h6⟩:=xy (R:=fun cs (n:Nod)=>F.ah (ko w) w (aU n) cs) (F:=Nod.wf) Tryz.underlying38 M1 (by decide) (fun n cs y hy hys=>KV hy hys) h hs;rw[NY] at h5;refine⟨ns,_,h1,p9 h4 h2 h3 (fun _=>rfl),?_,h6⟩;rw[kD] at h5;unfold ca;omega
set_option maxRecDepth 100000 in
theorem Lu{fuel:Nat}{cs:List Value}{x:DataW H×List MemPlace}(h:DataW.trod enc Tryz.prog w 0 (fun _=>true) true fuel 40 cs=some x)(hs:eO Tryz.prog 40 x.1):∃t:Tre,F.ah (ko w) w (fO t) cs∧t.wf:=by
 obtain⟨xs,m,_,rfl,hl,hlen,hf⟩:=DataW.trod_struct Tryz.underlying40 h;have hl:=hl.trans M6
 match cs,hl with
 | [c0,c1],_=>
  match xs,hlen with
  | [y0,y1],_=>
   unfold eO at hs;simp only[DataW.weights,Tryz.underlying40] at hs;have hse:=ey hs;have f0:=hf 0 _ rfl;have f1:=hf 1 _ rfl;simp only[MK,Js,List.drop_succ_cons,List.drop_zero,List.take_succ_cons,List.take_zero,List.getElem?_cons_zero,List.getElem?_cons_succ] at f0 f1;obtain⟨ns,u0,e0,hr,hnl,hw⟩:=IZ f0 (hse 0 _ _ rfl rfl);obtain⟨k1,e1,_,w1⟩:=DataW.trod_int Tryz.underlying3 f1;obtain⟨rfl,_⟩:=List.cons.inj e0;obtain⟨rfl,_⟩:=List.cons.inj e1;exact⟨⟨ns,k1⟩,aK hr (aK (cR _) fE),hnl,hw,mi w1⟩
set_option maxRecDepth 100000 in
theorem MW{fuel:Nat}{cs:List Value}{x:DataW H×List MemPlace}(h:DataW.trod enc Tryz.prog w 0 (fun _=>true) true fuel 49 cs=some x)(hs:eO Tryz.prog 49 x.1):∃d:Dfn,F.ah (ko w) w (sN d) cs∧d.wf:=by
 obtain⟨xs,m,_,rfl,hl,hlen,hf⟩:=DataW.trod_struct Tryz.underlying49 h;have hl:=hl.trans MJ
 match cs,hl with
 | [c0,c1,c2],_=>
  match xs,hlen with
  | [y0,y1],_=>
   unfold eO at hs;simp only[DataW.weights,Tryz.underlying49] at hs;have hse:=ey hs;have f0:=hf 0 _ rfl;have f1:=hf 1 _ rfl;simp only[MZ,M6,List.drop_succ_cons,List.drop_zero,List.take_succ_cons,List.take_zero,List.getElem?_cons_zero,List.getElem?_cons_succ] at f0 f1;obtain⟨s,e0,rfl',_⟩:=DataW.trod_string Tryz.underlying9 f0;obtain⟨t,ht,hw⟩:=Lu f1 (hse 1 _ _ rfl rfl);have hst:=hse 0 _ _ rfl rfl;have htx:s.size≤reachBytes:=by
    have e:y0.1=.lit (.string s.data.toList):=by rw[rfl']
    simp only[List.map_cons,List.getElem?_cons_zero,List.getElem?_cons_succ] at hst;rw[e] at hst;have:=hst s.data.toList.length (by simp[DataW.weights]);simpa using this
   obtain⟨rfl,_⟩:=List.cons.inj e0;refine⟨⟨s,t⟩,aK (cR _) ht,?_,hw⟩;show s.size≤_
   rw[kD] at htx;omega
theorem L2{fuel:Nat}{cs:List Value}{x:DataW H×List MemPlace}(h:DataW.trod enc Tryz.prog w 0 (fun _=>true) true fuel 22 cs=some x)(hs:eO Tryz.prog 22 x.1):∃l:List Dfn,∃u,cs=[u]∧F.rep (ko w) w (.sl (l.map sN)) u∧l.length≤dS∧∀d∈l,d.wf:=by
 obtain⟨l,A,c,rows,h1,h2,h3,h4,h5,h6⟩:=xy (R:=fun cs (d:Dfn)=>F.ah (ko w) w (sN d) cs) (F:=Dfn.wf) Tryz.underlying22 MJ (by decide) (fun n cs y hy hys=>MW hy hys) h hs;rw[NZ] at h5;refine⟨l,_,h1,p9 h4 h2 h3 (fun _=>rfl),?_,h6⟩;rw[kD] at h5;unfold dS;omega
set_option maxRecDepth 100000 in
theorem EA{fuel:Nat}{cs:List Value}{x:DataW H×List MemPlace}(h:DataW.trod enc Tryz.prog w 0 (fun _=>true) true fuel 24 cs=some x)(hs:eO Tryz.prog 24 x.1):∃g:List Dfn,F.rep (ko w) w (bC g) (.agg cs.toArray)∧g.length≤dS∧∀d∈g,d.wf:=by
 obtain⟨xs,m,_,rfl,hl,hlen,hf⟩:=DataW.trod_struct Tryz.underlying24 h;have hl:=hl.trans NL
 match cs,hl with
 | [c0],_=>
  match xs,hlen with
  | [y0],_=>
   unfold eO at hs;simp only[DataW.weights,Tryz.underlying24] at hs;have hse:=ey hs;have f0:=hf 0 _ rfl;simp only[Mv,List.drop_succ_cons,List.drop_zero,List.take_succ_cons,List.take_zero,List.getElem?_cons_zero,List.getElem?_cons_succ] at f0;obtain⟨l,u0,e0,hr,hnl,hw⟩:=L2 f0 (hse 0 _ _ rfl rfl);obtain⟨rfl,_⟩:=List.cons.inj e0;exact⟨l,Cv (aK hr fE),hnl,hw⟩
set_option maxRecDepth 100000 in
theorem LB{fuel:Nat}{cs:List Value}{x:DataW H×List MemPlace}(h:DataW.trod enc Tryz.prog w 0 (fun _=>true) true fuel 27 cs=some x)(hs:eO Tryz.prog 27 x.1):∃(pass way r:Int) (p:List Int) (at_:Int),F.rep (ko w) w (.ag [byF pass,byF way,inF r,isF p,inF at_]) (.agg cs.toArray)∧(0≤pass∧pass≤255)∧(0≤way∧way≤255)∧I64 r∧Au p∧I64 at_:=by
 obtain⟨xs,m,_,rfl,hl,hlen,hf⟩:=DataW.trod_struct Tryz.underlying27 h;have hl:=hl.trans (show Tryz.prog.cellsOf 27=5 by kernel_rfl)
 match cs,hl with
 | [c0,c1,c2,c3,c4],_=>
  match xs,hlen with
  | [y0,y1,y2,y3,y4],_=>
   unfold eO at hs;simp only[DataW.weights,Tryz.underlying27] at hs;have hse:=ey hs;have f0:=hf 0 _ rfl;have f1:=hf 1 _ rfl;have f2:=hf 2 _ rfl;have f3:=hf 3 _ rfl;have f4:=hf 4 _ rfl;simp only[Nf,Js,MG,List.drop_succ_cons,List.drop_zero,List.take_succ_cons,List.take_zero,List.getElem?_cons_zero,List.getElem?_cons_succ] at f0 f1 f2 f3 f4;obtain⟨k0,e0,_,w0⟩:=DataW.trod_int Tryz.underlying5 f0;obtain⟨k1,e1,_,w1⟩:=DataW.trod_int Tryz.underlying5 f1;obtain⟨k2,e2,_,w2⟩:=DataW.trod_int Tryz.underlying3 f2;obtain⟨ks,u3,e3,hr3,hw3⟩:=Gw f3 (hse 3 _ _ rfl rfl);obtain⟨k4,e4,_,w4⟩:=DataW.trod_int Tryz.underlying3 f4;obtain⟨rfl,_⟩:=List.cons.inj e0;obtain⟨rfl,_⟩:=List.cons.inj e1;obtain⟨rfl,_⟩:=List.cons.inj e2;obtain⟨rfl,_⟩:=List.cons.inj e3;obtain⟨rfl,_⟩:=List.cons.inj e4;exact⟨k0,k1,k2,ks,k4,Cv (aK (cR _) (aK (cR _) (aK (cR _) (aK hr3 (aK (cR _) fE))))),Bx w0,Bx w1,mi w2,hw3,mi w4⟩
end Go.Proofs.YtoklkjkmbfebjaaGreatDoor
end
section
namespace Go.Km
open Go Go.Sl Go.RowKit Go.Vc
mutual
def flD{H:Type}:DataW H→Option (List Value)
 | .lit (.int k n)=>some [.int k n]
 | .lit (.string b)=>some [.string ⟨b.toArray⟩]
 | .agg ds=>Hq ds
 | _=>none
def Hq{H:Type}:List (DataW H)→Option (List Value)
 | []=>some []
 | d :: ds=>match flD d,Hq ds with
  | some a,some b=>some (a++b)
  | _,_=>none
end
def FlT(H:Type)(P:Program)(w:World)(t:TypeId):Prop:=∀(enc:TypeId×Value→H) (base:Nat) (spare:Nat→Bool) (held:Bool) (m:Nat) (cs:List Value) (y:DataW H×List MemPlace),DataW.trod enc P w base spare held m t cs=some y→∀vs,flD y.1=some vs→cs=vs
section
variable {H:Type} {P:Program} {w:World} {t:TypeId}
theorem AH{k:IntKind}(ht:P.underlying t=some (.int k)):FlT H P w t:=fun enc base spare held m cs y h vs hv=>by
 obtain⟨n,rfl,rfl,_⟩:=DataW.trod_int ht h;rw[flD] at hv;exact Option.some.inj hv
theorem LZ(ht:P.underlying t=some .string):FlT H P w t:=fun enc base spare held m cs y h vs hv=>by
 obtain⟨s,rfl,rfl,_⟩:=DataW.trod_string ht h;rw[flD] at hv;have:=Option.some.inj hv;rw[←this]
theorem chunks{sz:Nat}:∀(l:List (List Value)) (cs:List Value),cs.length=l.length * sz→(∀(i:Nat) (h:i<l.length),(cs.drop (i * sz)).take sz=l[i])→cs=l.flatten
 | [],cs,h,_=>by
  simp at h;rw[h];rfl
 | x :: l,cs,h,k=>by
  have h0:=k 0 (by simp);simp only[Nat.zero_mul,List.drop_zero,List.getElem_cons_zero] at h0;have ih:=chunks (sz:=sz) l (cs.drop sz) (by rw[List.length_drop,h,List.length_cons,Nat.add_mul];omega) fun i hi=>by
   have:=k (i+1) (by simpa using hi);rw[List.getElem_cons_succ] at this;rw[←this,List.drop_drop,Nat.add_mul,Nat.one_mul,Nat.add_comm]
  rw[List.flatten_cons,←ih,←h0,List.take_append_drop]
theorem xi:∀(ds:List (DataW H)) (vs:List Value),Hq ds=some vs→∃l:List (List Value),vs=l.flatten∧l.length=ds.length∧∀(i:Nat) (d:DataW H) (r:List Value),ds[i]?=some d→l[i]?=some r→flD d=some r
 | [],vs,h=>⟨[],by rw[Hq] at h;rw[←Option.some.inj h];rfl,rfl,fun i d r h=>by simp at h⟩
 | d :: ds,vs,h=>by
  rw[Hq] at h
  split at h
  ·rename_i a b ha hb;obtain⟨l,h1,h2,h3⟩:=xi ds b hb;refine⟨a :: l,by rw[←Option.some.inj h,h1];rfl,by simp[h2],fun i d' r hd hr=>?_⟩
   cases i with
   | zero=>
    simp only[List.getElem?_cons_zero,Option.some.injEq] at hd hr;rw[←hd,←hr];exact ha
   | succ i=>exact h3 i d' r (by simpa using hd) (by simpa using hr)
  ·cases h
theorem nA{n e sz:Nat}(ht:P.underlying t=some (.array n e))(hc:P.cellsOf t=n * sz)(hs:P.cellsOf e=sz)(he:FlT H P w e):FlT H P w t:=fun enc base spare held m cs y h vs hv=>by
 obtain⟨xs,m1,_,rfl,hl,hn,hf⟩:=DataW.trod_array ht h;simp only[flD] at hv;obtain⟨l,h1,h2,h3⟩:=xi _ _ hv;rw[List.length_map] at h2;rw[h1];refine chunks (sz:=sz) l cs (by rw[hl,hc,h2,hn]) fun i hi=>?_
 have hi2:i<xs.length:=by omega
 have h4:=hf i (by omega);rw[hs,List.getElem?_eq_getElem hi2] at h4;exact he enc base spare held m1 _ _ h4 _ (h3 i xs[i].1 l[i] (by rw[List.getElem?_map,List.getElem?_eq_getElem hi2];rfl) (List.getElem?_eq_getElem hi))
theorem HI{fs:Array Field}{a b c:Field}(ht:P.underlying t=some (.struct fs))(hfs:fs=#[a,b,c])(hc:P.cellsOf t=3)(oa:a.offset=0∧P.cellsOf a.type=1)(ob:b.offset=1∧P.cellsOf b.type=1)(oc:c.offset=2∧P.cellsOf c.type=1)(ha:FlT H P w a.type)(hb:FlT H P w b.type)(hcc:FlT H P w c.type):FlT H P w t:=fun enc base spare held m cs y h vs hv=>by
 subst hfs;obtain⟨xs,m1,_,rfl,hl,hn,hf⟩:=DataW.trod_struct ht h;have hl:=hl.trans hc
 match cs,hl with
 | [c0,c1,c2],_=>
  match xs,hn with
  | [x0,x1,x2],_=>
   have f0:=hf 0 a rfl;have f1:=hf 1 b rfl;have f2:=hf 2 c rfl;rw[oa.1,oa.2] at f0;rw[ob.1,ob.2] at f1;rw[oc.1,oc.2] at f2;simp only[List.drop_succ_cons,List.drop_zero,List.take_succ_cons,List.take_zero,List.getElem?_cons_zero,List.getElem?_cons_succ] at f0 f1 f2;simp only[flD,List.map_cons,List.map_nil] at hv;obtain⟨l,h1,h2,h3⟩:=xi _ _ hv
   match l,h2 with
   | [r0,r1,r2],_=>
    have e0:=ha enc base spare held m1 _ _ f0 r0 (h3 0 _ _ rfl rfl);have e1:=hb enc base spare held m1 _ _ f1 r1 (h3 1 _ _ rfl rfl);have e2:=hcc enc base spare held m1 _ _ f2 r2 (h3 2 _ _ rfl rfl);rw[h1,←e0,←e1,←e2];rfl
theorem xN{Z:Nat→Prop}:∀vs:List Value,F.ah Z w (vs.map .vl) vs
 | []=>fE
 | v :: vs=>aK (cR v) (xN vs)
theorem My{n:String}{g:Nat}{cs:Array Value}{vs:List Value}(hg:P.globalNamed n=some g)(hv:w.var? P n=some cs)(e:cs.toList=vs)(h1:bZ vs=true)(h0:0<vs.length):F.rep (fun b=>b<w.heap.size) w (.pt vs.length [vs.map .vl] 0 0) (.pointer (some ⟨g,0,none⟩)):=by
 have hcell:=World.var?_cell hg hv;have hsz:g<w.heap.size:=by
  simp only[World.var?,hg,Option.bind_some] at hv
  split at hv
  ·rename_i hh;exact(Array.getElem?_eq_some_iff.1 hh).1
  ·cases hv
 unfold F.rep;refine⟨⟨g,0,none⟩,[vs],by simp[Addr.add],⟨rfl,by simp,fun _=>⟨⟨g,0,none⟩,rfl,hsz,fun j v hj=>?_⟩⟩,by simpa using h1,?_⟩
 ·simp only[List.flatten_cons,List.flatten_nil,List.append_nil] at hj;rw[add_lit,Nat.zero_add,hcell j,←Array.getElem?_toList,e];exact hj
 ·unfold F.aG;refine⟨vs,[],rfl,xN vs,?_⟩;unfold F.aG;rfl
end
end Go.Km
namespace Go.Proofs.YtoklkjkmbfebjaaGreatDoor
open Go Go.Sl Go.RowKit Go.Vc Go.Km Go.aa
open Go.ChangeShapes Go.WideShapes Go.ChangeAt
set_option maxRecDepth 100000
theorem NM:ownKnob Tryz.prog.godebug=none:=by kernel_rfl
theorem zk:laidOutB Tryz.prog=true:=by kernel_rfl
def gy:List (String×DataW Unit):=[("math/bits.deBruijn32tab",Rows.laid_math_bits_deBruijn32tab),("math/bits.deBruijn64tab",Rows.laid_math_bits_deBruijn64tab),("internal/strconv.uint64pow10",Rows.laid_internal_strconv_uint64pow10),("bonsai/tree.counts",Rows.laid_bonsai_tree_counts),("bonsai/print.counts",Rows.laid_bonsai_print_counts),("bonsai/print.signs",Rows.laid_bonsai_print_signs)]
theorem EX(os:Os)(args:Array Value):laidMetH Tryz.prog gy ((World.doorLaid Tryz.prog 400 os).forCall (fun _ _=>0) ⟨#[],args,[]⟩).memory:=
 laidMetH_of_parts3 (fuel:=8) (laidMet_of_run' 8 (by kernel_rfl) (by kernel_rfl)) (by kernel_rfl) (by kernel_rfl)
variable {H:Type} {W:World}
theorem GM:FlT H Tryz.prog W 3:=AH Tryz.underlying3
theorem C9:FlT H Tryz.prog W 9:=LZ Tryz.underlying9
theorem NC:FlT H Tryz.prog W 5:=AH Tryz.underlying5
theorem Nm:FlT H Tryz.prog W 50:=AH Tryz.underlying50
theorem flA:FlT H Tryz.prog W 136:=nA (sz:=2) Tryz.underlying136 (by kernel_rfl) (by kernel_rfl) (nA (sz:=1) Tryz.underlying135 (by kernel_rfl) (by kernel_rfl) GM)
theorem flB:FlT H Tryz.prog W 232:=nA (sz:=1) Tryz.underlying232 (by kernel_rfl) (by kernel_rfl) NC
theorem flC:FlT H Tryz.prog W 245:=nA (sz:=1) Tryz.underlying245 (by kernel_rfl) (by kernel_rfl) NC
theorem flE:FlT H Tryz.prog W 240:=nA (sz:=1) Tryz.underlying240 (by kernel_rfl) (by kernel_rfl) Nm
theorem flS:FlT H Tryz.prog W 210:=nA (sz:=3) Tryz.underlying210 (by kernel_rfl) (by kernel_rfl) (HI Tryz.underlying209 rfl (by kernel_rfl) ⟨rfl,by kernel_rfl⟩ ⟨rfl,by kernel_rfl⟩ ⟨rfl,by kernel_rfl⟩ C9 C9 C9)
theorem flN:FlT H Tryz.prog W 222:=nA (sz:=3) Tryz.underlying222 (by kernel_rfl) (by kernel_rfl) (HI Tryz.underlying221 rfl (by kernel_rfl) ⟨rfl,by kernel_rfl⟩ ⟨rfl,by kernel_rfl⟩ ⟨rfl,by kernel_rfl⟩ GM GM C9)
theorem Eh{W:World}(h:laidMetH Tryz.prog gy W):∀(n:String) (d:DataW Unit),(n,d)∈gy→∃g t cs fuel p,Tryz.prog.globalNamed n=some g∧(Tryz.prog.globals[g]?).map (·.type)=some t∧W.var? Tryz.prog n=some cs∧DataW.trod (fun _=>()) Tryz.prog W 0 (fun _=>true) false fuel t cs.toList=some (d,p):=by
 rw[MakeChecks.laidMetH_plain _ _ _ (by kernel_rfl)] at h;obtain⟨ps,hl,_⟩:=h;have key:∀(l:List (String×DataW Unit)) (ps:List MemPlace),DataW.LaidVars Tryz.prog W l ps→∀n d,(n,d)∈l→∃g t cs fuel p,Tryz.prog.globalNamed n=some g∧(Tryz.prog.globals[g]?).map (·.type)=some t∧W.var? Tryz.prog n=some cs∧DataW.trod (fun _=>()) Tryz.prog W 0 (fun _=>true) false fuel t cs.toList=some (d,p):=by
  intro l
  induction l with
  | nil=>intro ps _ n d hm;cases hm
  | cons x l ih=>
   intro ps hx n d hm;obtain⟨n0,d0⟩:=x;obtain⟨g,t,cs,f,p,q,h1,h2,h3,h4,h5,h6⟩:=hx;rcases List.mem_cons.1 hm with e|hm
   ·cases e;exact⟨g,t,cs,f,p,h1,h2,h3,h4⟩
   ·exact ih _ h5 n d hm
 exact key gy ps hl
theorem MB{W:World}(h:laidMetH Tryz.prog gy W):∀g cs,X1.Γ g=some cs→F.rep (ko W) W (.pt cs.length [cs] 0 0) (.pointer (some ⟨g,0,none⟩)):=by
 have hv:=Eh h;have one:∀(n:String) (d:DataW Unit) (g t:Nat) (vs:List Value),(n,d)∈gy→Tryz.prog.globalNamed n=some g→(Tryz.prog.globals[g]?).map (·.type)=some t→FlT Unit Tryz.prog W t→flD d=some vs→bZ vs=true→0<vs.length→F.rep (ko W) W (.pt vs.length [vs.map .vl] 0 0) (.pointer (some ⟨g,0,none⟩)):=fun n d g t vs hm hg ht hf hd h1 h0=>by
  obtain⟨g',t',cs,fuel,p,q1,q2,q3,q4⟩:=hv n d hm;obtain rfl:=Option.some.inj (hg.symm.trans q1);obtain rfl:=Option.some.inj (ht.symm.trans q2);exact My hg q3 (hf _ _ _ _ _ _ _ q4 vs hd) h1 h0
 have a0:=one "bonsai/tree.counts" Rows.laid_bonsai_tree_counts 0 136 _ (by simp[gy]) (by kernel_rfl) (by kernel_rfl) flA rfl (by kernel_rfl) (Nat.le_of_ble_eq_true rfl);have a1:=one "bonsai/print.signs" Rows.laid_bonsai_print_signs 1 210 _ (by simp[gy]) (by kernel_rfl) (by kernel_rfl) flS rfl (by kernel_rfl) (Nat.le_of_ble_eq_true rfl);have a2:=one "bonsai/print.counts" Rows.laid_bonsai_print_counts 2 222 _ (by simp[gy]) (by kernel_rfl) (by kernel_rfl) flN rfl (by kernel_rfl) (Nat.le_of_ble_eq_true rfl);have a3:=one "math/bits.deBruijn64tab" Rows.laid_math_bits_deBruijn64tab 3 232 _ (by simp[gy]) (by kernel_rfl) (by kernel_rfl) flB rfl (by kernel_rfl) (Nat.le_of_ble_eq_true rfl);have a5:=one "internal/strconv.uint64pow10" Rows.laid_internal_strconv_uint64pow10 5 240 _ (by simp[gy]) (by kernel_rfl) (by kernel_rfl) flE rfl (by kernel_rfl) (Nat.le_of_ble_eq_true rfl);have a6:=one "math/bits.deBruijn32tab" Rows.laid_math_bits_deBruijn32tab 6 245 _ (by simp[gy]) (by kernel_rfl) (by kernel_rfl) flC rfl (by kernel_rfl) (Nat.le_of_ble_eq_true rfl);intro g cs hg;have key:∀(l:List (Nat×List F)),(∀x∈l,F.rep (ko W) W (.pt x.2.length [x.2] 0 0) (.pointer (some ⟨x.1,0,none⟩)))→Vc.lk l g=some cs→F.rep (ko W) W (.pt cs.length [cs] 0 0) (.pointer (some ⟨g,0,none⟩)):=by
  intro l
  induction l with
  | nil=>intro _ h;cases h
  | cons x l ih=>
   intro hx h;obtain⟨k,v⟩:=x;unfold Vc.lk at h
   cases hk:Nat.beq k g with
   | true=>
    rw[hk,cond_true] at h;have e:=Nat.eq_of_beq_eq_true hk;have e2:=Option.some.inj h;subst e e2;exact hx (_,_) (List.mem_cons_self ..)
   | false=>
    rw[hk,cond_false] at h;exact ih (fun y hy=>hx y (by simp[hy])) h
 exact key Kx (by
  intro x hx;simp only[Kx,List.mem_cons,List.not_mem_nil,or_false] at hx;rcases hx with rfl|rfl|rfl|rfl|rfl|rfl
  ·exact a0
  ·exact a1
  ·exact a2
  ·exact a3
  ·exact a5
  ·exact a6) hg
theorem HS{H:Type}{P:Program}{ts:List TypeId}{ds:List (DataW H)}(h:(DataW.weightsEach P ts ds).all (·≤reachBytes)=true):∀(i:Nat) t d,ts[i]?=some t→ds[i]?=some d→eO P t d:=by
 refine ey fun k hk=>?_;have:=List.all_eq_true.1 h k hk;simpa using this
end Go.Proofs.YtoklkjkmbfebjaaGreatDoor
end
section
namespace Go.Proofs.YtoklkjkmbfebjaaGreatDoor
open Go Go.Sl Go.RowKit Go.Vc Go.Km Go.aa
open Go.ChangeShapes Go.WideShapes Go.ChangeAt
theorem zB (W:World) (v1 v2:Value) (g:List Dfn) (pass way r:Int) (p:List Int) (at_:Int) (h1:F.rep (ko W) W (bC g) v1) (h2:F.rep (ko W) W (.ag [byF pass,byF way,inF r,isF p,inF at_]) v2) (hL:laidMetH Tryz.prog gy W)
  (hn:g.length≤dS) (hw:∀d∈g,d.wf) (hw0:0≤way) (hw1:way≤255) (hp:p.length≤dS) :
  Calls Tryz.prog 3 #[v1,v2] W (fun e W'=>e=.returned (.bool true)∧Below W.heap.size W W'):=by
 have hr:=(D4 g pass way r p at_ hn hw hw0 hw1 hp).run (ko W) W [v1,v2] (fun _ h=>h) (MB hL) (aK h1 (aK h2 fE));refine hr.mono fun e W' ⟨v,he,hb,hv⟩=>?_
 unfold F.rep at hv;subst hv;exact⟨he,hb⟩
set_option maxRecDepth 100000 in
theorem tg(os:Os)(started:os.Started)(H:Type)(enc:TypeId×Value→H) :
  ReturnsInHanded {} Tryz.checked os 3 .any (fun w args=>(Rows.fuseRowSpec.pre enc Tryz.prog Tryz.f3 [] false w args∧laidMetH Tryz.prog gy w)∧sizedMet enc Tryz.prog Tryz.f3 (OpenSpec.ofChange Rows.fuseRowSpec) false w args)
   (Rows.fuseRowSpec.post enc Tryz.prog Tryz.f3 false true false false):=by
 refine returnsInHanded_of_change_and (C:=Tryz.checked) (X:=fun w _=>laidMetH Tryz.prog gy w) (fun _ _ _ hh h=>h.of_heap hh) NM started (by kernel_rfl) Tryz.func3
  (ChangeSpec.witness_shaped (enc:=enc) (C:=Tryz.checked) (os:=os) (X:=fun w _=>laidMetH Tryz.prog gy w) false (World.doorLaid Tryz.prog 400 os) #[.agg #[.slice none 0 0],.agg #[.int .u8 0,.int .u8 0,.int .i64 0,.slice none 0 0,.int .i64 0]] 8 rfl (World.shaped_of_RefB (by kernel_rfl) (by kernel_rfl)) (by kernel_rfl) (by kernel_rfl) (by kernel_rfl) (EX os _)) ?_
 intro W base args ds gs before hval0 hW _ hsz0 hL _;have hsz:=HS hsz0;have hlt:∀x∈before,x.block<W.heap.size:=fun x hx=>by simpa using hW.lt x hx
 have hW':=hW;obtain⟨p,q,hA0,hV,rfl,hfz,hnd⟩:=hW;have hA:DataW.TrodAll enc Tryz.prog W 0 (fun _=>true) true Tryz.f3.params.toList args.toList ds p:=hA0;rw[Tryz.params3] at hA hsz hval0;obtain⟨v1,v2,d1,d2,p1,p2,rfl,rfl,rfl,h1,h2⟩:=trodAll_two hA;obtain⟨rfl,rfl⟩:=trodVars_none hV;have h1':=h1;obtain⟨a1,rfl,_⟩:=okWide_struct Tryz.underlying24 (hval0 0 _ _ rfl rfl);obtain⟨_,h1⟩:=h1;obtain⟨x1,hr1,hlr1,hw1⟩:=EA h1 (hsz 0 _ _ rfl rfl);have h2':=h2;obtain⟨a2,rfl,_⟩:=okWide_struct Tryz.underlying27 (hval0 1 _ _ rfl rfl);obtain⟨_,h2⟩:=h2;obtain⟨pass,way,r,ps,at_,hr2,hb1,hb2,hb3,hb4,hb5⟩:=LB h2 (hsz 1 _ _ rfl rfl);simp only[List.append_nil] at hW' hlt;have hb1':∀x∈p1,x.block<W.heap.size:=fun x hx=>hlt x (by simp[hx])
 have hb2':∀x∈p2,x.block<W.heap.size:=fun x hx=>hlt x (by simp[hx])
 have hxGrammar:∀W':World,Below W.heap.size W W'→∀(v d p),DataW.Trod enc Tryz.prog W 0 (fun _=>true) true 24 v d p→(∀x∈p,x.block<W.heap.size)→DataW.Trod enc Tryz.prog W' 0 (fun b=>decide (b<W.heap.size)) true 24 v d p:=
  fun W' hb v d p h hp=>Below.trod zk (by kernel_rfl) (of_decide_eq_true (by kernel_rfl)) h hb hp
 have hxStep:∀W':World,Below W.heap.size W W'→∀(v d p),DataW.Trod enc Tryz.prog W 0 (fun _=>true) true 27 v d p→(∀x∈p,x.block<W.heap.size)→DataW.Trod enc Tryz.prog W' 0 (fun b=>decide (b<W.heap.size)) true 27 v d p:=
  fun W' hb v d p h hp=>Below.trod zk (by kernel_rfl) (of_decide_eq_true (by kernel_rfl)) h hb hp
 refine(zB W _ _ x1 pass way r ps at_ hr1 hr2 hL hlr1 hw1 hb2.1 hb2.2 hb4.1).mono fun e W' ⟨he,hb⟩=>?_;subst he
 try simp only[List.append_assoc] at hW'
 exact⟨_,rfl,_,_,_,[],p1++p2,[],hW',trodAll_mk1 (shut_bool Tryz.underlying4 _),trodAll_mk2 (hxGrammar W' hb _ _ _ h1' hb1') (hxStep W' hb _ _ _ h2' hb2'),rfl,hb.frame _,fun h=>by cases h⟩
set_option maxRecDepth 100000 in
theorem uC:Rows.FuseRowSaid:=
 OpenClaim.holds_of_wide 3 Tryz.f3 rfl rfl rfl rfl rfl rfl rfl ⟨rfl,rfl,rfl,rfl,rfl⟩ rfl rfl rfl rfl rfl (by kernel_rfl) Tryz.func3 (by kernel_rfl)
  (of_decide_eq_true (by kernel_rfl)) (by unfold Func.isWrapper;first|(rw[if_pos (by decide +kernel)];kernel_rfl)|(rw[if_neg (by decide +kernel)];exact⟨rfl,rfl⟩))
  (fun os started H enc _=>tg os started H enc)
set_option maxRecDepth 100000 in
theorem fuseRow_card_holds:Rows.FuseRowCardSaid:=
 Claim7.holds_tied_plain_at .later [] [.data,.data,.data,.data,.data,.data] true (true,"6d8382996c6101af6494f63bf0efe1eeb7593645525c370a0023bec41ed4c103") false
  uC (fun _ h=>by cases h) (by kernel_rfl) (fun _ h=>by cases h) fuseRow_row_tie rfl ⟨rfl,rfl⟩ (by kernel_rfl) rfl
  (fun f fn hf hfn=>by
   obtain rfl:f=3:=Option.some.inj ((show Tryz.prog.funcNamed "bonsai/bonsailaw24.FuseRow"=some 3 by kernel_rfl).symm.trans hf) |>.symm;obtain rfl:fn=Tryz.f3:=(Option.some.inj (Tryz.func3.symm.trans hfn)).symm;exact⟨by kernel_rfl,fun j t ht=>by
    rw[Tryz.params3] at ht;have hm:t∈[24,27]:=by simpa using Array.mem_of_getElem? ht
    have hall:([24,27].all fun u=>!Tryz.prog.wantsStandIn u)=true:=by kernel_rfl
    exact(show Tryz.prog.wantsStandIn t=false by simpa using List.all_eq_true.1 hall t hm)⟩)
  (by kernel_rfl)
#print axioms fuseRow_card_holds
end Go.Proofs.YtoklkjkmbfebjaaGreatDoor
end
