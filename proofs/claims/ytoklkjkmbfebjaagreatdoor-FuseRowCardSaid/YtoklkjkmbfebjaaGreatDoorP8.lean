/- The texts that the card needs, part 9. -/
import Derived.Test.YtoklkjkmbfebjaaGreatDoorP7
set_option linter.all false
section
namespace Go.Sl
open Go
theorem Ev.MO {P:Program} {n:FD} {s:Sg} {M:World→Prop} {ty:TypeId} {f:FuncId} {e:Array Value→Sem Value} {xs:List Operand} {vs:List Value} {tys:Array TypeId} {v:Value}
  (hf':∀args w,(callFunc f args).run P w=((e args).run P w).andThen fun v w'=>.ok (.value v) w') (hxs:evs s xs=some vs) (hv:∀w,(e vs.toArray).run P w=.ok v w) :
  Ev P n s M (.call { callee:=.value (.func f),args:=xs.toArray,argTypes:=tys }) ty v:=by
 refine⟨fun a w o ho ht hf hm=>?_⟩;have h1:=sJ hf hxs;have h2:=hv w;simp[execOp,ho,resolve,Deferred.ofValue,Act.eval,invoke,hf' _ w,h1,h2]
end Go.Sl
namespace Go.Sl
open Go
section
variable {P:Program} {n:FD} {s:Sg} {M:World→Prop} {ty:TypeId}
theorem Ev.Dg{x y:Operand}{t te u:TypeId}{a:Option Addr}(hp:P.underlying t=some (.pointer te))(hx:ev s x=some (.pointer a))(hy:ev s y=some (.pointer none)):Ev P n s M (.binOp .eql t x y u) ty (.bool a.isNone):=by
 refine⟨fun ac w o ho ht hf hm=>?_⟩;have h:(Op.equal t (.pointer a) (.pointer none)).run P w=.ok a.isNone w:=by
  show(Op.equalIn (9999+1) t (.pointer a) (.pointer none)).run P w=_
  rw[Op.equalIn]
  cases a<;>simp[run_underlying hp]
 simp[execOp,ho,hf.ev hx,hf.ev hy,eqGuard,binOp,h]
theorem Ev.Il{x y:Operand}{t te u:TypeId}{j:TypeInfo}{a:Addr}(hp:P.underlying t=some (.pointer te))(hj:P.info? te=some j)(hx:ev s x=some (.pointer (some a)))(hy:ev s y=some (.pointer (some a))):Ev P n s M (.binOp .neq t x y u) ty (.bool false):=by
 refine⟨fun ac w o ho ht hf hm=>?_⟩;have h:=Lib.run_neq_ptr_same w a hp hj;simp[execOp,ho,hf.ev hx,hf.ev hy,eqGuard,h]
theorem Ev.DC{x:Operand}{src dst t e:TypeId}{j:TypeInfo}{cells:Nat}{a:Addr}(hs:P.underlying src=some (.pointer t))(hd:P.underlying dst=some .unsafePointer)(ht:P.info? t=some j)(hj:j.size≠0)(hx:ev s x=some (.pointer (some a)))(hsh:∀w,M w→w.shape? a.block=some (e,cells))(hoff:a.off<cells) :
  Ev P n s M (.convert src dst x) ty (.pointer (some a)):=by
 refine⟨fun ac w o ho ht' hf hm=>?_⟩;have h:=Lib.run_to_unsafe w a hs hd ht hj (hsh w hm) hoff;simp[execOp,ho,hf.ev hx,h]
theorem Ev.ze{x:Operand}{src dst u e:TypeId}{j:TypeInfo}{cells:Nat}{a:Addr}(hs:P.underlying src=some .unsafePointer)(hd:P.underlying dst=some (.pointer u))(hu:P.info? u=some j)(hx:ev s x=some (.pointer (some a)))(hsh:∀w,M w→w.shape? a.block=some (e,cells))(hl:liesAt P P.depth e (cells / P.cellsOf e) a.off u 1=true) :
  Ev P n s M (.convert src dst x) ty (.pointer (some a)):=by
 refine⟨fun ac w o ho ht' hf hm=>?_⟩;have h:=Lib.run_from_unsafe w a hs hd hu (hsh w hm) hl;simp[execOp,ho,hf.ev hx,h]
theorem St.vO{w0 w:World}{L:List HP}{b t:Nat}{cs:List Value}(h:St w0 L w)(ha:At L (blk b cs t)):w.shape? b=some (t,cs.length):=by
 have:=h.z8 ha;simp[World.shape?,this]
end
end Go.Sl
namespace Go.Proofs.YtoklkjkmbfebjaaGreatDoor
open Go Go.Sl Go.RowKit
theorem Ic:(Tryz.prog.info? 187).map (·.size)=some 2:=by kernel_rfl
theorem Fz:liesAt Tryz.prog Tryz.prog.depth 187 (2 / Tryz.prog.cellsOf 187) 0 187 1=true:=by kernel_rfl
theorem yD(args:Array Value)(w:World):(callFunc 145 args).run Tryz.prog w=((Extern.AbiNoEscape.same args).run Tryz.prog w).andThen fun v w'=>.ok (.value v) w':=
 run_callFunc_extern Tryz.func145 (by kernel_rfl) (by kernel_rfl) (by kernel_rfl) (by kernel_rfl) args w
abbrev xr(b:Nat)(ad:Option Addr)(p:Option Addr×Nat)(n:Nat):HP:=blk b [.pointer ad,.slice p.1 n p.2] 187
set_option maxRecDepth 20000 in
theorem uh{w0:World}{L0:List HP}(b:Nat)(ad:Option Addr)(p:Option Addr×Nat)(n:Nat)(w:World)(had:ad=none∨ad=some ⟨b,0,none⟩)(hw:St w0 (xr b ad p n :: L0) w) :
  Calls Tryz.prog 138 #[.pointer (some ⟨b,0,none⟩)] w (fun e w'=>∃x:Unit,e=.returned (.tuple #[])∧St w0 (xr b (some ⟨b,0,none⟩) p n :: L0) w'):=by
 obtain⟨j,hj,hjs⟩:=Option.map_eq_some_iff.1 Ic;refine TC.calls (l:=[.pointer (some ⟨b,0,none⟩)]) (M:=St w0 (xr b ad p n :: L0)) Tryz.func138 rfl Tryz.ntmps138 rfl hw ?_;have hne:j.size≠0:=by rw[hjs];decide
 have u1:Tryz.prog.underlying 184=some (.pointer 187):=Tryz.underlying184;have u2:Tryz.prog.underlying 212=some .unsafePointer:=Tryz.underlying212;have hl:=Fz;rcases had with rfl|rfl
 ·repeat' (first|((apply T.ev_;exact rfl;apply Ev.Dg u1;exact rfl;exact rfl))|((apply T.ev_;exact rfl;apply Ev.DC u1 u2 hj hne;exact rfl;exact(fun w hw=>St.vO (b:=b) hw .here);exact Nat.zero_lt_succ 1))|((apply T.ev_;exact rfl;apply Ev.MO (vs:=[.pointer (some ⟨b,0,none⟩)]) yD;exact rfl;exact(fun w=>Lib.run_noEscape w _)))|((apply T.ev_;exact rfl;apply Ev.ze u2 u1 hj;exact rfl;exact(fun w hw=>St.vO (b:=b) hw .here);exact hl))|(refine W1 ?_)|(refine W2 (fun hc=>?_) (fun hc=>?_))|(intro _))
  exact TX.Nx rfl (fun w' hw=>⟨(),rfl,hw⟩)
 ·repeat' (first|((apply T.ev_;exact rfl;apply Ev.Dg u1;exact rfl;exact rfl))|((apply T.ev_;exact rfl;apply Ev.Il u1 hj;exact rfl;exact rfl))|(refine W1 ?_)|(refine W2 (fun hc=>?_) (fun hc=>?_))|(intro _))
  exact TX.Nx rfl (fun w' hw=>⟨(),rfl,hw⟩)
def z4(l:List UInt8):List (List Value):=l.map fun x=>[.int .u8 (x.toNat:Int)]
abbrev IT(p:Option Addr×Nat)(n:Nat)(l:List UInt8):HP:=own 5 1 p.1 n p.2 (z4 l)
end Go.Proofs.YtoklkjkmbfebjaaGreatDoor
namespace Go.Sl
open Go Go.RowKit Go.Lib
section
variable {P:Program} {n:FD} {s:Sg} {ty:TypeId} {w0:World} {L:List HP} {M:World→Prop}
theorem Chg.freeze{w:World}{g:Nat}{S1:Nat→Prop}(hg:S1 g)(k:Nat):Chg w (w.freeze ⟨g,0,none⟩ k) S1:=by
 unfold World.freeze
 split
 ·exact Chg.refl
 ·exact⟨rfl,rfl,rfl,by simp,fun b hb hn=>by
   simp only[Array.getElem?_modify];rw[if_neg (fun e=>hn (by rw[←e];exact hg))]⟩
def hAt(g:Nat):HP:=⟨fun S _=>S g,fun h hh=>h _ hh,fun _ h=>h⟩
theorem HM(l:List Value):(l.map fun v=>[v]).flatten=l:=by
 induction l with
 | nil=>rfl
 | cons v l ih=>simp only[List.map_cons,List.flatten_cons,ih];rfl
theorem Ac.NP {x y:Operand} {pt it e c g:Nat} {l:List UInt8} {L0:List HP} (hp:P.underlying pt=some (.pointer e)) (hc:P.cellsOf e=1) (h0:l≠[]) (hl:l.length≤1000000000) (hx:ev s x=some (.pointer (some ⟨g,0,none⟩))) (hy:ev s y=some (.int .i64 (l.length:Int)))
  (hdl:Del L (own e 1 (some ⟨g,0,none⟩) l.length c ((l.map fun b=>Value.int .u8 (b.toNat:Int)).map fun v=>[v])) L0):Ac P n s (St w0 L) (.call { callee:=.builtin .unsafeString,args:=#[x,y],argTypes:=#[pt,it] }) ty (ι:=Unit) (fun _=>.string ⟨l.toArray⟩) (fun _=>St w0 (hAt g :: L0)):=by
 refine⟨fun a w o ho ht' hf hm=>?_⟩;obtain⟨S1,g1,g2,g3⟩:=(hm.del hdl).upd (H':=hAt g) Upd.here;have hS:S1 g:=g2.2.2.2 g rfl;have hcell:∀j x,l[j]?=some x→w.cell? ((⟨g,0,none⟩:Addr).add j)=some (.int .u8 x.toNat):=fun j x hj=>by
  refine g2.1.cells (g:=g) rfl j _ ?_;rw[HM,List.getElem?_map,hj];rfl
 have hrow:∃cur:Array Value,w.heap[g]?=some (.cells cur e (0,0))∧l.length≤cur.size:=by
  rcases g2.1.2 with ⟨hv,_⟩|⟨g',cap,cur,hv,_,hg,hnc,_,hcs,_⟩
  ·injection hv with a1;cases a1
  ·injection hv with a1 a2 a3
   injection a1 with a1
   injection a1 with a1
   subst a1;exact⟨cur,hg,by omega⟩
 obtain⟨cur,hg,hcur⟩:=hrow;have hr:=run_unsafeString_row (P:=P) w pt it ty e hp hc g cur.size (by simp[World.shape?,hg]) l h0 hcur (by omega) hcell;refine⟨(),w.freeze ⟨g,0,none⟩ l.length,?_,(g3 S1 (w.freeze ⟨g,0,none⟩ l.length) (Chg.freeze hS l.length) (fun b hb=>.inl hb) hS)⟩;simp[execOp,ho,resolve,hf.ev hx,hf.ev hy,invoke,builtin,ht',hr]
theorem Ev.AX{x:Operand}{t:TypeId}{a:Addr}{k c:Nat}(hx:ev s x=some (.slice (some a) k c))(hc:c≠0):Ev P n s M (.call { callee:=.builtin .unsafeSliceData,args:=#[x],argTypes:=#[t] }) ty (.pointer (some a)):=by
 refine⟨fun ac w o ho ht' hf hm=>?_⟩;have h:=run_unsafeSliceData_row (P:=P) w #[t] ty a k c hc;simp[execOp,ho,resolve,hf.ev hx,invoke,builtin,ht',h]
theorem Ac.Nh{op:Op}{v:Value}(h:Ev P n s M op ty v):Ac P n s M op ty (ι:=Unit) (fun _=>v) (fun _=>M):=⟨fun a w o ho ht hf hm=>⟨(),w,h.go a w o ho ht hf hm,hm⟩⟩
end
end Go.Sl
namespace Go.Proofs.YtoklkjkmbfebjaaGreatDoor
open Go Go.Sl Go.RowKit Go.Lib
theorem Eu:Tryz.prog.cellsOf 5=1:=by kernel_rfl
set_option maxRecDepth 20000 in
theorem Fp{w0:World}{L0:List HP}(b:Nat)(ad:Option Addr)(p:Option Addr×Nat)(l:List UInt8)(w:World)(h0:l≠[])(hl:l.length≤1000000000)(hw:St w0 (xr b ad p l.length :: IT p l.length l :: L0) w) :
  Calls Tryz.prog 132 #[.pointer (some ⟨b,0,none⟩)] w (fun e w'=>∃x:Nat,e=.returned (.string ⟨l.toArray⟩)∧(∃a,p.1=some a∧a.block=x)∧St w0 (hAt x :: xr b ad p l.length :: L0) w'):=by
 have hpos:0<l.length:=by cases l with
  | nil=>exact absurd rfl h0
  | cons _ _=>simp
 obtain⟨A,c⟩:=p;have hon:=hw.sT (H:=IT (A,c) l.length l) (.there .here);have hAg:∃g,A=some ⟨g,0,none⟩∧c≠0:=by
  rcases hon.1.2 with ⟨hv,h⟩|⟨g,cap,cur,hv,_,_,hnc,_⟩
  ·omega
  ·injection hv with a1 a2 a3
   exact⟨g,a1,by omega⟩
 obtain⟨g,rfl,hc⟩:=hAg;refine TC.calls (l:=[.pointer (some ⟨b,0,none⟩)]) (M:=St w0 (xr b ad (some ⟨g,0,none⟩,c) l.length :: IT (some ⟨g,0,none⟩,c) l.length l :: L0)) Tryz.func132 rfl Tryz.ntmps132 rfl hw ?_
 repeat' (first|((refine TC.NI [(4,.b4)] (.seg [0,1,2,3,5,6,7,8,9,4,10,11] .fin) mixed (by kernel_rfl) (TT.seg rfl ?_)))|((apply TL.b4 (d:=7);exact rfl;exact rfl;exact(fun _ h=>h);exact Ac.Nh (Ev.AX rfl hc);exact(fun _ _ h=>h)))|(refine W1 ?_)|(refine W2 (fun hc=>?_) (fun hc=>?_))|(intro _))
 refine TL.uw rfl rfl (Ac.NP Tryz.underlying199 Eu h0 hl rfl rfl (L0:=xr b ad (some ⟨g,0,none⟩,c) l.length :: L0) (by
  have e:z4 l=(l.map fun b=>Value.int .u8 (b.toNat:Int)).map fun v=>[v]:=by unfold z4;rw[List.map_map];rfl
  rw[←e];exact .there .here)) (fun _=>?_)
 repeat' (first|((apply TX.tree))|((apply TT.fin))|(refine W1 ?_)|(refine W2 (fun hc=>?_) (fun hc=>?_))|(intro _))
 exact TX.wZ rfl rfl (fun w' hw=>⟨g,rfl,⟨_,rfl,rfl⟩,hw⟩)
end Go.Proofs.YtoklkjkmbfebjaaGreatDoor
namespace Go.Km
open Go Go.RowKit Go.Vc Go.Proofs Go.Proofs.YtoklkjkmbfebjaaGreatDoor
open Go.Sl hiding lk
def hFr(W:World)(B:Nat→Prop):HP:=⟨fun S w=>∀g,B g→S g∧w.heap[g]?=W.heap[g]?,fun h hh g hg=>⟨h _ (hh g hg).1,(hh g hg).2⟩,fun h hh g hg=>⟨(hh g hg).1,(h g (hh g hg).1).trans (hh g hg).2⟩⟩
def xu(w:World):World:={ w with heap:=#[] }
abbrev iO:Nat:=187
theorem KO{η:Env}{b v:Nat}{ad sl:D}(h1:η b=some (.va v iO [ad,sl]))(had:ad=.fr (.vl (.pointer none))∨ad=.ptr b v 0)(hsl:sl=uo∨∃b2 v2,sl=.own b2 v2)(Γ:Nat→Option (List F)) :
  dp Tryz.prog Γ η 138 [.ptr b v 0] (.tp []) [b] [(b,.va v iO [.ptr b v 0,sl])]:=by
 refine⟨fun η' hη W c O w vs hΓ hp ho hvs=>⟨inferInstance,?_⟩⟩;have hb:η' b=some (.va v iO [ad,sl]):=(hη b (by simp)).trans h1;obtain⟨g,us,k1,k2,k3,k4,k5⟩:=hp.pc b _ hb;unfold D.ah at k2;obtain⟨u0,us1,rfl,m1,k2⟩:=k2;unfold D.ah at k2;obtain⟨u1,us2,rfl,m2,k2⟩:=k2;unfold D.ah at k2;subst k2;unfold D.ah at hvs;obtain⟨y,ys,rfl,n1,n2⟩:=hvs;unfold D.ah at n2;subst n2;unfold D.rep at n1;obtain⟨g',n3,rfl⟩:=n1;rw[k1] at n3
 cases n3;have hu1:∃p:Option Addr×Nat,∃n,u1=.slice p.1 n p.2:=by
  rcases hsl with rfl|⟨b2,v2,rfl⟩
  ·unfold D.rep F.rep at m2;exact⟨(none,0),0,m2⟩
  ·unfold D.rep at m2;obtain⟨A,m,k,_,e⟩:=m2;exact⟨(A,k),m,e⟩
 have hu0:∃ad':Option Addr,u0=.pointer ad'∧(ad'=none∨ad'=some ⟨g,0,none⟩):=by
  rcases had with rfl|rfl
  ·unfold D.rep F.rep at m1;exact⟨none,m1,.inl rfl⟩
  ·unfold D.rep at m1;obtain⟨g',n3,e⟩:=m1;rw[k1] at n3
   cases n3;exact⟨_,e,.inr rfl⟩
 obtain⟨p,n,rfl⟩:=hu1;obtain⟨ad',rfl,had'⟩:=hu0;have hlt:g<w.heap.size:=hp.lt b g k4;have hst:St (xu w) [xr g ad' p n,hFr w fun x=>x<w.heap.size∧x≠g] w:=
  ⟨⟨rfl,rfl,rfl,by simp[xu],fun x hx=>absurd hx (Nat.not_lt_zero _)⟩,fun x=>x=g,fun x hx=>⟨Nat.zero_le _,by subst hx;exact hlt⟩,⟨rfl,k5⟩,fun x=>x<w.heap.size∧x≠g,fun x hx=>⟨⟨Nat.zero_le _,hx.1⟩,hx.2⟩,fun x hx=>⟨hx,rfl⟩,trivial⟩
 refine(uh g ad' p n w had' hst).mono fun e w' ⟨_,he,hst'⟩=>⟨.tuple #[],he,?_⟩;obtain⟨hbl,S1,hS1,⟨hb1,hb2⟩,S2,hS2,hfr,_⟩:=hst';have hsz:w.heap.size≤w'.heap.size:=by
  by_cases hm:w.heap.size - 1=g
  ·have:=(hS1 g hb1).2;omega
  ·have:=(hS2 _ (hfr (w.heap.size - 1) ⟨by omega,hm⟩).1).1.2;omega
 have hch:Chg w w' (O b):=⟨hbl.os,hbl.tape,hbl.output,hsz,fun x hx hn=>(hfr x ⟨hx,fun e=>hn (by rw[e];exact k4)⟩).2⟩
 refine⟨_,_,_,c,_,⟨rfl,rfl,rfl⟩,Cf.le.refl c,by unfold D.rep;exact⟨[],rfl,by unfold D.ah;rfl⟩,hp.upd (S':=O b) hch (fun x hx=>.inl hx) (Cf.le.refl c) rfl rfl (hp.cq hb rfl) ⟨g,[.pointer (some ⟨g,0,none⟩),.slice p.1 n p.2],k1,?_,rfl,k4,hb2⟩,ho.upd hch (fun x hx=>.inl hx) rfl rfl⟩;unfold D.ah;refine⟨_,_,rfl,by unfold D.rep;exact⟨g,k1,rfl⟩,?_⟩;unfold D.ah;exact⟨_,_,rfl,m2,by unfold D.ah;rfl⟩
theorem CK{Z:Nat→Prop}{w:World}:∀{l:List UInt8} {vr:List (List Value)},F.aG Z w (l.map byR) vr→vr=z4 l
 | [],vr,h=>by simpa [F.aG,z4] using h
 | x :: l,vr,h=>by
  rw[List.map_cons] at h;unfold F.aG at h;obtain⟨u,us,rfl,h1,h2⟩:=h;unfold byR F.ah at h1;obtain⟨a,b,rfl,h3,h4⟩:=h1;unfold F.rep at h3;unfold F.ah at h4;rw[h3,h4,CK h2];rfl
theorem Ky{η:Env}{b v b2 v2:Nat}{l:List UInt8}(h1:η b=some (.va v iO [.ptr b v 0,.own b2 v2]))(h2:η b2=some (.ro v2 5 1 (l.map byR)))(h0:l≠[])(hl:l.length≤1000000000)(Γ:Nat→Option (List F)) :
  dp Tryz.prog Γ η 132 [.ptr b v 0] (.fr (.vl (.string ⟨l.toArray⟩))) [b,b2] [(b,.gone v),(b2,.gone v2)]:=by
 refine⟨fun η' hη W c O w vs hΓ hp ho hvs=>⟨inferInstance,?_⟩⟩;have hb:η' b=some (.va v iO [.ptr b v 0,.own b2 v2]):=(hη b (by simp)).trans h1;have hb2:η' b2=some (.ro v2 5 1 (l.map byR)):=(hη b2 (by simp)).trans h2;have hne:b≠b2:=fun e=>by rw[e,hb2] at hb;cases hb
 have hpos:0<l.length:=by cases l with
  | nil=>exact absurd rfl h0
  | cons _ _=>simp
 obtain⟨g,us,k1,k2,k3,k4,k5⟩:=hp.pc b _ hb;obtain⟨A,k,vr,j1,j2,j3,j4⟩:=hp.pc b2 _ hb2;have:=CK j2;subst this;rw[List.length_map] at j1 j4;unfold D.ah at k2;obtain⟨u0,us1,rfl,m1,k2⟩:=k2;unfold D.ah at k2;obtain⟨u1,us2,rfl,m2,k2⟩:=k2;unfold D.ah at k2;subst k2;unfold D.ah at hvs;obtain⟨y,ys,rfl,n1,n2⟩:=hvs;unfold D.ah at n2;subst n2;unfold D.rep at n1 m1 m2;obtain⟨g',n3,rfl⟩:=n1;rw[k1] at n3
 cases n3;obtain⟨g',n3,rfl⟩:=m1;rw[k1] at n3
 cases n3;obtain⟨A',m',k',n3,rfl⟩:=m2;rw[j1] at n3
 cases n3;obtain⟨gb,hA⟩:∃gb,A=some ⟨gb,0,none⟩:=by
  rcases j4.1.2 with ⟨hv,h⟩|⟨g,cap,cur,hv,_⟩
  ·omega
  ·injection hv with a1
   exact⟨g,a1⟩
 subst hA;have hOb:O b2 gb:=j4.2.2.2 gb rfl;have hgb:g≠gb:=fun e=>hne (hp.apart _ _ _ k4 (by rw[e];exact hOb))
 have hlt:g<w.heap.size:=hp.lt b g k4;have hltb:gb<w.heap.size:=hp.lt b2 gb hOb;have hst:St (xu w) [xr g (some ⟨g,0,none⟩) (some ⟨gb,0,none⟩,k) l.length,IT (some ⟨gb,0,none⟩,k) l.length l,hFr w fun x=>x<w.heap.size∧x≠g∧x≠gb] w:=
  ⟨⟨rfl,rfl,rfl,by simp[xu],fun x hx=>absurd hx (Nat.not_lt_zero _)⟩,fun x=>x=g,fun x hx=>⟨Nat.zero_le _,by subst hx;exact hlt⟩,⟨rfl,k5⟩,fun x=>x=gb,fun x hx=>⟨⟨Nat.zero_le _,by subst hx;exact hltb⟩,by subst hx;exact fun e=>hgb e.symm⟩,⟨j4.1,j4.2.1,j4.2.2.1,fun x hx=>by simp only[Value.ownBlock,Option.some.injEq] at hx;exact hx.symm⟩,fun x=>x<w.heap.size∧x≠g∧x≠gb,fun x hx=>⟨⟨⟨Nat.zero_le _,hx.1⟩,hx.2.1⟩,hx.2.2⟩,fun x hx=>⟨hx,rfl⟩,trivial⟩
 refine(Fp g (some ⟨g,0,none⟩) (some ⟨gb,0,none⟩,k) l w h0 hl hst).mono fun e w' ⟨x,he,⟨a,ha,hax⟩,hst'⟩=>⟨.string ⟨l.toArray⟩,he,?_⟩
 cases ha
 cases hax;obtain⟨hbl,S0,hS0,hb0,S1,hS1,⟨hb1,hb2'⟩,S2,hS2,hfr,_⟩:=hst';have hsz:w.heap.size≤w'.heap.size:=by
  by_cases hm:w.heap.size - 1=gb
  ·have:=(hS0 gb hb0).2;omega
  ·by_cases hm2:w.heap.size - 1=g
   ·have:=(hS1 g hb1).1.2;omega
   ·have:=(hS2 _ (hfr (w.heap.size - 1) ⟨by omega,hm2,hm⟩).1).1.1.2;omega
 have hch:Chg w w' (O b2):=⟨hbl.os,hbl.tape,hbl.output,hsz,fun x hx hn=>by
  by_cases e:x=g
  ·rw[e,hb2',k5]
  ·exact(hfr x ⟨hx,e,fun e2=>hn (by rw[e2];exact hOb)⟩).2⟩
 have hp1:=hp.upd (S':=O b2) (x':=.gone v2) hch (fun x hx=>.inl hx) (Cf.le.refl c) rfl rfl (hp.cq hb2 rfl) trivial;have ho1:=ho.upd (b:=b2) (S':=O b2) hch (fun x hx=>.inl hx) rfl rfl;have hbx:up η' b2 (.gone v2) b=some (.va v iO [.ptr b v 0,.own b2 v2]):=by rw[aF (Ne.symm hne)];exact hb
 have hp2:=hp1.upd (b:=b) (S':=upO O b2 (O b2) b) (x':=.gone v) Chg.refl (fun x hx=>.inl hx) (Cf.le.refl c) rfl rfl (hp1.cq hbx rfl) trivial;exact⟨_,_,_,c,_,⟨rfl,rfl,rfl⟩,Cf.le.refl c,by unfold D.rep F.rep;rfl,hp2,ho1.upd Chg.refl (fun x hx=>.inl hx) rfl rfl⟩
section
variable {P:Program}
theorem wv {X:Tx} (hX:j5 P X) {f:FuncId} {fi:Fi} (hf:X.fi f=some fi) {tc e sz:Nat} {rows rows':List (List F)} {l:List F} {r:F} (hN:Nat.ble (l.length+1) fi.N=true)
  (hrun:∀vs,Sn P X f (⟨r.toD,[(0,.va 0 tc [.ptr 0 0 0,.own 1 0]),(1,.ro 0 e sz rows'),(2,.gh 0 vs (.ptr 0 0 0 :: l.map F.toD))]⟩:sf) ⟨⟨f,fi.N,mD 0 (.ptr 0 0 0 :: l.map F.toD),[.code fi.body],[],none⟩,[],[(2,.gh 0 vs (.ptr 0 0 0 :: l.map F.toD)),(0,.va 0 tc [.ptr 0 0 0,.own 1 0]),(1,.ro 0 e sz rows)],3⟩)
  {η:Env} {b v b2 v2:Nat} (h1:η b=some (.va v tc [.ptr b v 0,.own b2 v2])) (h2:η b2=some (.ro v2 e sz rows)) :
  dp P X.Γ η f (.ptr b v 0 :: l.map F.toD) r.toD [b,b2] [(b,.va v tc [.ptr b v 0,.own b2 (nv η b2)]),(b2,.ro (nv η b2) e sz rows')]:=by
 have hne:Nat.beq b b2=false:=by
  rw[←Bool.not_eq_true];intro h;have:=Nat.eq_of_beq_eq_true h;subst this;rw[h1] at h2
  cases h2
 have hne':Nat.beq b2 b=false:=by rw[←Bool.not_eq_true];intro h;rw[Nat.eq_of_beq_eq_true h,Nat.beq_refl] at hne;cases hne
 have hlk:∀{x y:B} {i:Nat} {z:B},lk [(b,x),(b2,y)] i=some z→(i=b∧z=x)∨(i=b2∧z=y):=by
  intro x y i z h;simp only[lk] at h
  cases e1:Nat.beq b i with
  | true=>rw[e1] at h;cases h;exact .inl ⟨(Nat.eq_of_beq_eq_true e1).symm,rfl⟩
  | false=>
   rw[e1] at h
   cases e2:Nat.beq b2 i with
   | true=>rw[e2] at h;cases h;exact .inr ⟨(Nat.eq_of_beq_eq_true e2).symm,rfl⟩
   | false=>rw[e2] at h;cases h
 have l1:∀{x y:B},lk [(b,x),(b2,y)] b=some x:=by intro x y;simp[lk]
 have l2:∀{x y:B},lk [(b,x),(b2,y)] b2=some y:=by intro x y;simp[lk,hne]
 have ho:∀{u u2:Nat},b8 [(b,u),(b2,u2)]=true:=by intro u u2;simp[b8,hne']
 have hp:∀{u u2:Nat},cj [(b,u),(b2,u2)] b u 0=some 0:=by intro u u2;simp[cj]
 have hp2:∀{u u2:Nat},cj [(b,u),(b2,u2)] b2 u2 0=some 1:=by intro u u2;simp[cj,hne']
 refine jw hX hf (x:=[]) (x0:=[]) (l:=.ptr b v 0 :: l.map F.toD) (l0:=.ptr 0 0 0 :: l.map F.toD) (m0:=[(b,v),(b2,v2)]) (μ:=[(b,v),(b2,nv η b2)]) (hb:=[(b,.va v tc [.ptr b v 0,.own b2 v2]),(b2,.ro v2 e sz rows)]) (h0:=[(0,.va 0 tc [.ptr 0 0 0,.own 1 0]),(1,.ro 0 e sz rows)]) (d':=r.toD) (ds':=.ptr 0 0 0 :: l.map F.toD) (h'':=[(0,.va 0 tc [.ptr 0 0 0,.own 1 0]),(1,.ro 0 e sz rows')]) ⟨ho,ho,?_,?_,?_,?_,?_,?_⟩ ?_ ?_ rfl (fun _ _ _ _ _ _=>⟨[],by simp[D.ah]⟩) ?_ (jf _ _) ?_ (fun vs=>by rw[List.append_nil];exact hrun vs)
 ·intro i x h;rcases hlk h with ⟨rfl,rfl⟩|⟨rfl,rfl⟩
  ·exact⟨h1,List.mem_cons_self ..⟩
  ·exact⟨h2,List.mem_cons_of_mem _ (List.mem_cons_self ..)⟩
 ·intro i u h;simp only[List.mem_cons,List.not_mem_nil,or_false,Prod.mk.injEq] at h;rcases h with ⟨rfl,rfl⟩|⟨rfl,rfl⟩
  ·exact⟨_,l1⟩
  ·exact⟨_,l2⟩
 ·intro i x h;rcases hlk h with ⟨rfl,rfl⟩|⟨rfl,rfl⟩
  ·exact List.mem_cons_self ..
  ·exact List.mem_cons_of_mem _ (List.mem_cons_self ..)
 ·intro i x h;rcases hlk h with ⟨rfl,rfl⟩|⟨rfl,rfl⟩
  ·exact⟨rfl,.inl ⟨0,rfl⟩⟩
  ·exact⟨rfl,.inl ⟨1,rfl⟩⟩
 ·intro i x y h hy;rcases hlk h with ⟨rfl,rfl⟩|⟨rfl,rfl⟩
  ·rw[h1] at hy
   cases hy;exact Nat.le_refl _
  ·rw[h2] at hy
   cases hy;show v2≤nv η i
   unfold nv;rw[h2];exact Nat.le_succ _
 ·intro i j u h
  match i,h with
  | 0,h=>cases h;exact .inr (.inl ⟨0,0,rfl,rfl⟩)
  | 1,h=>cases h;exact .inl rfl
 ·simp only[dq,l1,l2,B.ver,Nat.beq_refl,cond_true,eI,aN,bu,hp,hp2]
 ·simp only[aN,bu,hp,eH]
 ·rw[List.length_cons,List.length_map];exact hN
 ·simp only[dq,l1,l2,B.ver,Nat.beq_refl,cond_true,eI,aN,bu,hp,hp2]
theorem xA {X:Tx} (hX:j5 P X) {f:FuncId} {fi:Fi} (hf:X.fi f=some fi) {tc e sz:Nat} {rows':List (List F)} {l:List F} {r:F} (hN:Nat.ble (l.length+1) fi.N=true)
  (hrun:∀vs,Sn P X f (⟨r.toD,[(0,.va 0 tc [.ptr 0 0 0,.own 1 0]),(1,.ro 0 e sz rows'),(2,.gh 0 vs (.ptr 0 0 0 :: l.map F.toD))]⟩:sf) ⟨⟨f,fi.N,mD 0 (.ptr 0 0 0 :: l.map F.toD),[.code fi.body],[],none⟩,[],[(1,.gh 0 vs (.ptr 0 0 0 :: l.map F.toD)),(0,.va 0 tc [.fr (.vl (.pointer none)),.fr (.vl (.slice none 0 0))])],2⟩)
  {η:Env} {b v b2:Nat} (h1:η b=some (.va v tc [.fr (.vl (.pointer none)),.fr (.vl (.slice none 0 0))])) (h2:η b2=none) :
  dp P X.Γ η f (.ptr b v 0 :: l.map F.toD) r.toD [b,b2] [(b,.va v tc [.ptr b v 0,.own b2 (nv η b2)]),(b2,.ro (nv η b2) e sz rows')]:=by
 have hne:Nat.beq b b2=false:=by
  rw[←Bool.not_eq_true];intro h;have:=Nat.eq_of_beq_eq_true h;subst this;rw[h1] at h2
  cases h2
 have hne':Nat.beq b2 b=false:=by rw[←Bool.not_eq_true];intro h;rw[Nat.eq_of_beq_eq_true h,Nat.beq_refl] at hne;cases hne
 have hlk:∀{x y:B} {i:Nat} {z:B},lk [(b,x),(b2,y)] i=some z→(i=b∧z=x)∨(i=b2∧z=y):=by
  intro x y i z h;simp only[lk] at h
  cases e1:Nat.beq b i with
  | true=>rw[e1] at h;cases h;exact .inl ⟨(Nat.eq_of_beq_eq_true e1).symm,rfl⟩
  | false=>
   rw[e1] at h
   cases e2:Nat.beq b2 i with
   | true=>rw[e2] at h;cases h;exact .inr ⟨(Nat.eq_of_beq_eq_true e2).symm,rfl⟩
   | false=>rw[e2] at h;cases h
 have l1:∀{x y:B},lk [(b,x),(b2,y)] b=some x:=by intro x y;simp[lk]
 have l2:∀{x y:B},lk [(b,x),(b2,y)] b2=some y:=by intro x y;simp[lk,hne]
 have ho:∀{u u2:Nat},b8 [(b,u),(b2,u2)]=true:=by intro u u2;simp[b8,hne']
 have hp:∀{u u2:Nat},cj [(b,u),(b2,u2)] b u 0=some 0:=by intro u u2;simp[cj]
 have hp2:∀{u u2:Nat},cj [(b,u),(b2,u2)] b2 u2 0=some 1:=by intro u u2;simp[cj,hne']
 refine jw hX hf (x:=[]) (x0:=[]) (l:=.ptr b v 0 :: l.map F.toD) (l0:=.ptr 0 0 0 :: l.map F.toD) (m0:=[(b,v)]) (μ:=[(b,v),(b2,nv η b2)]) (hb:=[(b,.va v tc [.fr (.vl (.pointer none)),.fr (.vl (.slice none 0 0))])]) (h0:=[(0,.va 0 tc [.fr (.vl (.pointer none)),.fr (.vl (.slice none 0 0))])]) (d':=r.toD) (ds':=.ptr 0 0 0 :: l.map F.toD) (h'':=[(0,.va 0 tc [.ptr 0 0 0,.own 1 0]),(1,.ro 0 e sz rows')]) ⟨rfl,ho,?_,?_,?_,?_,?_,?_⟩ ?_ ?_ rfl (fun _ _ _ _ _ _=>⟨[],by simp[D.ah]⟩) ?_ (jf _ _) ?_ (fun vs=>by rw[List.append_nil];exact hrun vs)
 ·intro i x h;simp only[lk] at h
  cases e1:Nat.beq b i with
  | true=>
   rw[e1] at h
   cases h
   cases Nat.eq_of_beq_eq_true e1;exact⟨h1,List.mem_cons_self ..⟩
  | false=>rw[e1] at h;cases h
 ·intro i u h;simp only[List.mem_cons,List.not_mem_nil,or_false,Prod.mk.injEq] at h;obtain⟨rfl,rfl⟩:=h;exact⟨_,l1⟩
 ·intro i x h;rcases hlk h with ⟨rfl,rfl⟩|⟨rfl,rfl⟩
  ·exact List.mem_cons_self ..
  ·exact List.mem_cons_of_mem _ (List.mem_cons_self ..)
 ·intro i x h;rcases hlk h with ⟨rfl,rfl⟩|⟨rfl,rfl⟩
  ·exact⟨rfl,.inl ⟨0,rfl⟩⟩
  ·exact⟨rfl,.inl ⟨1,rfl⟩⟩
 ·intro i x y h hy;rcases hlk h with ⟨rfl,rfl⟩|⟨rfl,rfl⟩
  ·rw[h1] at hy
   cases hy;exact Nat.le_refl _
  ·rw[h2] at hy
   cases hy
 ·intro i j u h
  match i,h with
  | 0,h=>cases h;exact .inr (.inl ⟨0,0,rfl,rfl⟩)
  | 1,h=>cases h;exact .inl rfl
 ·simp only[dq,lk,B.ver,Nat.beq_refl,cond_true,eI,aN,bu]
 ·simp only[aN,bu,cj,Nat.beq_refl,cond_true,eH]
 ·rw[List.length_cons,List.length_map];exact hN
 ·simp only[dq,l1,l2,B.ver,Nat.beq_refl,cond_true,eI,aN,bu,hp,hp2]
end
structure BwP(Γ:Nat→Option (List F))(f:FuncId)(l:List UInt8)(a:List F)(r:F)(l':List UInt8):Prop where
 own:∀(η:Env) (b v b2 v2:Nat),η b=some (.va v iO [.ptr b v 0,.own b2 v2])→η b2=some (.ro v2 5 1 (l.map byR))→dp Tryz.prog Γ η f (.ptr b v 0 :: a.map F.toD) r.toD [b,b2] [(b,.va v iO [.ptr b v 0,.own b2 (nv η b2)]),(b2,.ro (nv η b2) 5 1 (l'.map byR))]
 new:l=[]→∀(η:Env) (b v t:Nat),η b=some (.va v iO [.fr (.vl (.pointer none)),uo])→η t=none→dp Tryz.prog Γ η f (.ptr b v 0 :: a.map F.toD) r.toD [b,t] [(b,.va v iO [.ptr b v 0,.own t (nv η t)]),(t,.ro (nv η t) 5 1 (l'.map byR))]
class HB(Γ:Nat→Option (List F))(f:Nat)(l:List UInt8)(a:List F)(r:outParam F)(l':outParam (List UInt8))(pre:outParam Prop):Prop where
 h:pre→BwP Γ f l a r l'
structure bwK(Γ:Nat→Option (List F))(f:Nat)(rows:List (List F))(a:List F)(k:F→List UInt8→Prop):Prop where
 h:∃l r l',rows=l.map byR∧BwP Γ f l a r l'∧k r l'
instance{Γ:Nat→Option (List F)}{f:Nat}{l l':List UInt8}{a:List F}{r:F}{pre:Prop}{k:F→List UInt8→Prop}[hc:HB Γ f l a r l' pre]:Arm (bwK Γ f (l.map byR) a k) (SdA pre (k r l')):=⟨fun ⟨h,hk⟩=>⟨l,r,l',rfl,hc.h h,hk⟩⟩
instance{Γ:Nat→Option (List F)}{f:Nat}{l':List UInt8}{a:List F}{r:F}{pre:Prop}{k:F→List UInt8→Prop}[hc:HB Γ f [] a r l' pre]:Arm (bwK Γ f [] a k) (SdA pre (k r l')):=⟨fun ⟨h,hk⟩=>⟨[],r,l',rfl,hc.h h,hk⟩⟩
class Jr(f:Nat):Prop where
 h:True
def bwE(Γ:Nat→Option (List F))(t:Nat)(η:Env)(f:Nat)(l:List D)(k:Kr Prop):Prop:=match l with
 | .ptr b v 0 :: ds=>(match η b,cz (D.toF η 6) ds with
  | some (.va v' tc [.ptr b0 v0 0,.own b2 v2]),some (fl,is)=>(match η b2 with
   | some (.ro v2' e 1 rows)=>bif Nat.beq v v'&&Nat.beq b b0&&Nat.beq v v0&&Nat.beq tc iO&&Nat.beq e 5&&Nat.beq v2 v2' && !is.elem b && !is.elem b2 then F.fos fl fun fl=>bwK Γ f rows fl fun r l'=>k r.toD (b :: b2 :: is) ((b,.va v iO [.ptr b v 0,.own b2 (nv η b2)]) :: (b2,.ro (nv η b2) 5 1 (l'.map byR)) :: aS η is) else False
   | _=>False)
  | some (.va v' tc [.fr (.vl (.pointer none)),.fr (.vl (.slice none 0 0))]),some (fl,is)=>(match η t with
   | none=>bif Nat.beq v v'&&Nat.beq tc iO && !is.elem b && !is.elem t then F.fos fl fun fl=>bwK Γ f [] fl fun r l'=>k r.toD (b :: t :: is) ((b,.va v iO [.ptr b v 0,.own t (nv η t)]) :: (t,.ro (nv η t) 5 1 (l'.map byR)) :: aS η is) else False
   | some _=>False)
  | _,_=>False)
 | _=>False
theorem zS{l:List UInt8}(h:[]=l.map byR):l=[]:=by cases l with
 | nil=>rfl
 | cons a l=>cases h
theorem K6{Γ:Nat→Option (List F)}{t:Nat}{η:Env}{f:Nat}{l:List D}{k:Kr Prop}(h:bwE Γ t η f l k):dR Tryz.prog Γ t η f l k:=by
 unfold bwE at h
 split at h
 ·rename_i b v ds
  split at h
  ·rename_i v' tc b0 v0 b2 v2 fl is hb hm
   split at h
   ·rename_i v2' e rows hb2
    cases hc:(Nat.beq v v'&&Nat.beq b b0&&Nat.beq v v0&&Nat.beq tc iO&&Nat.beq e 5&&Nat.beq v2 v2' && !is.elem b && !is.elem b2) with
    | false=>rw[hc] at h;exact h.elim
    | true=>
     rw[hc,cond_true,F.cn] at h;simp only[Bool.and_eq_true,Bool.not_eq_true',List.elem_eq_contains,List.contains_eq_mem,decide_eq_false_iff_not] at hc;obtain⟨⟨⟨⟨⟨⟨⟨c1,c5⟩,c6⟩,c7⟩,c8⟩,c2⟩,c3⟩,c4⟩:=hc
     cases Nat.eq_of_beq_eq_true c1
     cases Nat.eq_of_beq_eq_true c5
     cases Nat.eq_of_beq_eq_true c6
     cases Nat.eq_of_beq_eq_true c7
     cases Nat.eq_of_beq_eq_true c8
     cases Nat.eq_of_beq_eq_true c2;obtain⟨l,r,l',rfl,hp,hk⟩:=h.h;have q1:=((aY η η is b).1 c3).trans hb;have q2:=((aY η η is b2).1 c4).trans hb2;have:=dp.fz (l1:=[.ptr b v 0]) hm (hp.own _ b v b2 v2 q1 q2);rw[kN is c4] at this;exact⟨_,_,_,this,hk⟩
   ·exact h.elim
  ·rename_i v' tc fl is hb hm
   split at h
   ·rename_i ht
    cases hc:(Nat.beq v v'&&Nat.beq tc iO && !is.elem b && !is.elem t) with
    | false=>rw[hc] at h;exact h.elim
    | true=>
     rw[hc,cond_true,F.cn] at h;simp only[Bool.and_eq_true,Bool.not_eq_true',List.elem_eq_contains,List.contains_eq_mem,decide_eq_false_iff_not] at hc;obtain⟨⟨⟨c1,c2⟩,c3⟩,c4⟩:=hc
     cases Nat.eq_of_beq_eq_true c1
     cases Nat.eq_of_beq_eq_true c2;obtain⟨l,r,l',e,hp,hk⟩:=h.h;have:=zS e;subst this;have q1:=((aY η η is b).1 c3).trans hb;have q2:=((aY η η is t).1 c4).trans ht;have:=dp.fz (l1:=[.ptr b v 0]) hm (hp.new rfl _ b v t q1 q2);rw[kN is c4] at this;exact⟨_,_,_,this,hk⟩
   ·exact h.elim
  ·exact h.elim
 ·exact h.elim
instance{Γ:Nat→Option (List F)}{t:Nat}{η:Env}{f:Nat}{l:List D}{k:Kr Prop}[Jr f]:Arm (dR Tryz.prog Γ t η f l k) (bwE Γ t η f l k):=⟨K6⟩
def Mf(b v:Nat):D→Bool
 | .fr (.vl (.pointer none))=>true
 | .ptr b0 v0 0=>Nat.beq b b0&&Nat.beq v v0
 | _=>false
def Ly:D→Bool
 | .fr (.vl (.slice none 0 0))=>true
 | .own _ _=>true
 | _=>false
def ccE(η:Env)(l:List D)(k:Kr Prop):Prop:=match l with
 | [.ptr b v 0]=>(match η b with
  | some (.va v' tc [ad,sl])=>bif Nat.beq v v'&&Nat.beq tc iO&&Mf b v ad&&Ly sl then k (.tp []) [b] [(b,.va v iO [.ptr b v 0,sl])] else False
  | _=>False)
 | _=>False
theorem L3{Γ:Nat→Option (List F)}{t:Nat}{η:Env}{l:List D}{k:Kr Prop}(h:ccE η l k):dR Tryz.prog Γ t η 138 l k:=by
 unfold ccE at h
 split at h
 ·rename_i b v
  split at h
  ·rename_i v' tc ad sl hb
   cases hc:(Nat.beq v v'&&Nat.beq tc iO&&Mf b v ad&&Ly sl) with
   | false=>rw[hc] at h;exact h.elim
   | true=>
    rw[hc] at h;simp only[Bool.and_eq_true] at hc;obtain⟨⟨⟨c1,c2⟩,hx⟩,hy⟩:=hc
    cases Nat.eq_of_beq_eq_true c1
    cases Nat.eq_of_beq_eq_true c2;unfold Mf at hx;unfold Ly at hy;refine⟨_,_,_,KO hb ?_ ?_ Γ,h⟩
    ·split at hx
     ·exact .inl rfl
     ·rw[Bool.and_eq_true] at hx;obtain⟨h1,h2⟩:=hx
      cases Nat.eq_of_beq_eq_true h1
      cases Nat.eq_of_beq_eq_true h2;exact .inr rfl
     ·cases hx
    ·split at hy
     ·exact .inl rfl
     ·exact .inr ⟨_,_,rfl⟩
     ·cases hy
  ·exact h.elim
 ·exact h.elim
instance{Γ:Nat→Option (List F)}{t:Nat}{η:Env}{l:List D}{k:Kr Prop}:Arm (dR Tryz.prog Γ t η 138 l k) (ccE η l k):=⟨L3⟩
structure stK(rows:List (List F))(k:List UInt8→Prop):Prop where
 h:∃l,rows=l.map byR∧l≠[]∧l.length≤1000000000∧k l
instance{l:List UInt8}{k:List UInt8→Prop}:Arm (stK (l.map byR) k) (SdA (l≠[]∧l.length≤1000000000) (k l)):=⟨fun ⟨h,hk⟩=>⟨l,rfl,h.1,h.2,hk⟩⟩
def stE(η:Env)(l:List D)(k:Kr Prop):Prop:=match l with
 | [.ptr b v 0]=>(match η b with
  | some (.va v' tc [.ptr b0 v0 0,.own b2 v2])=>(match η b2 with
   | some (.ro v2' e 1 rows)=>bif Nat.beq v v'&&Nat.beq b b0&&Nat.beq v v0&&Nat.beq tc iO&&Nat.beq e 5&&Nat.beq v2 v2' then stK rows fun l=>k (.fr (.vl (.string ⟨l.toArray⟩))) [b,b2] [(b,.gone v),(b2,.gone v2)] else False
   | _=>False)
  | _=>False)
 | _=>False
theorem L5{Γ:Nat→Option (List F)}{t:Nat}{η:Env}{l:List D}{k:Kr Prop}(h:stE η l k):dR Tryz.prog Γ t η 132 l k:=by
 unfold stE at h
 split at h
 ·rename_i b v
  split at h
  ·rename_i v' tc b0 v0 b2 v2 hb
   split at h
   ·rename_i v2' e rows hb2
    cases hc:(Nat.beq v v'&&Nat.beq b b0&&Nat.beq v v0&&Nat.beq tc iO&&Nat.beq e 5&&Nat.beq v2 v2') with
    | false=>rw[hc] at h;exact h.elim
    | true=>
     rw[hc,cond_true] at h;simp only[Bool.and_eq_true] at hc;obtain⟨⟨⟨⟨⟨c1,c5⟩,c6⟩,c7⟩,c8⟩,c2⟩:=hc
     cases Nat.eq_of_beq_eq_true c1
     cases Nat.eq_of_beq_eq_true c5
     cases Nat.eq_of_beq_eq_true c6
     cases Nat.eq_of_beq_eq_true c7
     cases Nat.eq_of_beq_eq_true c8
     cases Nat.eq_of_beq_eq_true c2;obtain⟨l,rfl,h0,hl,hk⟩:=h.h;exact⟨_,_,_,Ky hb hb2 h0 hl Γ,hk⟩
   ·exact h.elim
  ·exact h.elim
 ·exact h.elim
instance{Γ:Nat→Option (List F)}{t:Nat}{η:Env}{l:List D}{k:Kr Prop}:Arm (dR Tryz.prog Γ t η 132 l k) (stE η l k):=⟨L5⟩
end Go.Km
end
section
namespace Go.Km
open Go Go.Vc Go.Proofs Go.aa Go.Proofs.YtoklkjkmbfebjaaGreatDoor
set_option maxRecDepth 100000
set_option maxHeartbeats 0
instance:Jr 141:=⟨trivial⟩
instance:Jr 131:=⟨trivial⟩
theorem CQ{n:Int}(h:0≤n∧n≤255):byR (UInt8.ofNat n.toNat)=[byF n]:=by
 unfold byR;rw[UInt8.toNat_ofNat_of_lt' (by show n.toNat<256;omega),Int.toNat_of_nonneg h.1]
instance(l:List UInt8)(n:Int):HB X1.Γ 141 l [byF n] (.vl .nilIface) (l++[UInt8.ofNat n.toNat]) (0≤n∧n≤255∧l.length≤1000000000):=⟨fun h=>by
 obtain⟨h1,h2,h3⟩:=h;refine⟨fun η b_ v_ b2_ v2_ h1_ h2_=>?_,fun e η b_ v_ t_ h1_ h2_=>?_⟩
 ·refine wv dZ rfl rfl ?_ h1_ h2_;intro vs_;repeat' first|exact k9|refine k2 ?_|apply kA|apply kI;intro hc|refine k8 ?_|apply kL;intro hl
  exact cQ.i rfl (by rw[List.map_append,List.map_singleton,CQ ⟨h1,h2⟩];rfl)
 ·subst e;refine xA dZ rfl rfl ?_ h1_ h2_;intro vs_;repeat' first|exact k9|refine k2 ?_|apply kA|apply kI;intro hc|refine k8 ?_|apply kL;intro hl
  exact cQ.i rfl (by rw[List.nil_append,List.map_singleton,CQ ⟨h1,h2⟩];rfl)⟩
instance(l:List UInt8)(s:ByteArray):HB X1.Γ 131 l [stF s] (.tp [inF s.size,.vl .nilIface]) (l++s.data.toList) (s.size≤1000000000∧l.length≤1000000000):=⟨fun h=>by
 obtain⟨h1,h2⟩:=h;refine⟨fun η b_ v_ b2_ v2_ h1_ h2_=>?_,fun e η b_ v_ t_ h1_ h2_=>?_⟩
 ·refine wv dZ rfl rfl ?_ h1_ h2_;intro vs_;repeat' first|exact k9|refine k2 ?_|apply kA|apply kI;intro hc|refine k8 ?_|apply kL;intro hl
  exact cQ.i rfl (by rw[List.map_append];rfl)
 ·subst e;refine xA dZ rfl rfl ?_ h1_ h2_;intro vs_;repeat' first|exact k9|refine k2 ?_|apply kA|apply kI;intro hc|refine k8 ?_|apply kL;intro hl
  exact cQ.i rfl (by rw[List.nil_append];rfl)⟩
end Go.Km
namespace Go.Proofs.YtoklkjkmbfebjaaGreatDoor
open Go Go.Sl Go.RowKit
theorem Gd(args:Array Value)(w:World):(callFunc 162 args).run Tryz.prog w=((Extern.BytealgIndexByte.indexByte args).run Tryz.prog w).andThen fun v w'=>.ok (.value v) w':=
 run_callFunc_extern Tryz.func162 (by kernel_rfl) (by kernel_rfl) (by kernel_rfl) (by kernel_rfl) args w
theorem Aq(s:ByteArray)(c:Int)(w:World):Calls Tryz.prog 158 #[.string s,.int .u8 c] w (mS w (.int .i64 (Lib.indexByte s.data.toList c.toNat.toUInt8))):=by
 refine TC.calls (l:=[.string s,.int .u8 c]) Tryz.func158 rfl Tryz.ntmps158 rfl (St.start w) ?_
 repeat' (first|((apply T.ev_;exact rfl;exact Ev.MO (vs:=[.string s,.int .u8 c]) Gd rfl (fun w=>Lib.run_indexByteString s c w)))|(refine W1 ?_)|(refine W2 (fun hc=>?_) (fun hc=>?_))|(intro _))
 exact TX.wZ rfl rfl (fun w' hw=>mS.eq hw rfl)
end Go.Proofs.YtoklkjkmbfebjaaGreatDoor
namespace Go.aa
open Go
def xR(n:Nat):UInt8:=if n<10 then (48+n).toUInt8 else (87+n).toUInt8
def AJ(left:ByteArray)(b:Int):Bool:=decide (32≤b)&&decide (b≤126) && !decide (b=92)&&decide (Lib.indexByte left.data.toList b.toNat.toUInt8<0)
def cB(left:ByteArray)(c:UInt8):List UInt8:=
 if AJ left (c.toNat:Int)=true then [c] else if c.toNat=10 then [92,110] else if c.toNat=13 then [92,114] else if c.toNat=9 then [92,116]
 else if c.toNat=92∨0≤Lib.indexByte left.data.toList ((c.toNat:Int).toNat.toUInt8) then [92,c] else [92,120,xR (c.toNat / 16),xR (c.toNat % 16)]
end Go.aa
namespace Go.Km
open Go Go.Vc Go.Proofs Go.aa Go.Proofs.YtoklkjkmbfebjaaGreatDoor
set_option maxRecDepth 100000
set_option maxHeartbeats 0
instance(s:ByteArray)(c:Int):C 158 [stF s,byF c] (inF (Lib.indexByte s.data.toList c.toNat.toUInt8)) true True:=⟨fun _=>Pure.ofV (l:=[.string s,.int .u8 c]) fun w=>Aq s c w⟩
instance(s:ByteArray)(c:Int):C 154 [stF s,byF c] (inF (Lib.indexByte s.data.toList c.toNat.toUInt8)) true True:=⟨fun h=>by
 refine kf rfl rfl ?_;repeat' (first|exact k9|refine k2 ?_|apply kA|apply kI;intro hc|refine k8 ?_|apply kL;intro hl)⟩
instance(b:Int)(left:ByteArray):C 153 [byF b,stF left] (boF (AJ left b)) true True:=⟨fun h=>by
 refine kf rfl rfl ?_;repeat' first|exact k9|refine k2 ?_|apply kA|apply kI;intro hc|refine k8 ?_|apply kL;intro hl
 all_goals (refine ao.b ?_ rfl;unfold AJ;simp_all [kM])
 all_goals omega⟩
abbrev M0:ByteArray:=⟨#[48,49,50,51,52,53,54,55,56,57,97,98,99,100,101,102]⟩
theorem L4:∀a:Nat,a<256→M0.data.toList[((a:Int).fdiv (2 ^ min (Int.toNat 4) IntKind.u8.bits)).toNat]?=some (xR (a / 16)):=by decide +kernel
theorem Ls:∀a:Nat,a<256→M0.data.toList[(BitVec.ofInt IntKind.u8.bits (a:Int) &&& BitVec.ofInt IntKind.u8.bits 15).toNat % ((2:Int) ^ IntKind.u8.bits).natAbs]?=some (xR (a % 16)):=by decide +kernel
theorem Ho:∀a:Nat,a<256→0≤(a:Int).fdiv (2 ^ min (Int.toNat 4) IntKind.u8.bits):=by decide +kernel
theorem Bb(l:List UInt8)(u:UInt8)(left:ByteArray)(hl:l.length≤900000000):BwP X1.Γ 149 l [byF (u.toNat:Int),stF left] (.tp []) (l++cB left u):=by
 have hu:u.toNat<256:=u.toNat_lt;have hx1:=L4 u.toNat hu;have hx2:=Ls u.toNat hu;have hx3:=Ho u.toNat hu;have hu2:UInt8.ofNat ((u.toNat:Int)).toNat=u:=by simp
 have hof:∀x:UInt8,UInt8.ofNat ((x.toNat:Int)).toNat=x:=fun x=>by simp
 have hb:∀(x:UInt8) (m:List UInt8),m.length≤1000000000→0≤(x.toNat:Int)∧(x.toNat:Int)≤255∧m.length≤1000000000:=fun x m h=>⟨by omega,by have:=x.toNat_lt;omega,h⟩
 have h2:∀x y:UInt8,(⟨#[x,y]⟩:ByteArray).size≤1000000000∧l.length≤1000000000:=fun _ _=>⟨(by show(2:Nat)≤1000000000;omega),by omega⟩
 refine⟨fun η b_ v_ b2_ v2_ h1_ h2_=>?_,fun e η b_ v_ t_ h1_ h2_=>?_⟩
 ·refine wv dZ rfl rfl ?_ h1_ h2_;intro vs_;repeat' first|exact k9|refine k2 ?_|apply kA|apply kI;intro hc|apply kL;intro hl|(((apply SdA.m;exact⟨h2 _ _⟩))<;>conv=>whnf)|(((apply SdA.m;exact⟨hb _ _ (by simp only[List.length_append,List.length_cons,List.length_nil,Array.length_toList];omega)⟩))<;>conv=>whnf)|refine k8 ?_|fail
  ·refine cQ.i rfl ?_;rw[hu2,show cB left u=[u] from by rw[cB,if_pos hc]];rfl
  ·rename_i h0;refine cQ.i rfl ?_;rw[show cB left u=[92,110] from by rw[cB,if_neg (by rw[h0];decide),if_pos (by omega)]];rfl
  ·rename_i h0 ha;refine cQ.i rfl ?_;rw[show cB left u=[92,114] from by rw[cB,if_neg (by rw[h0];decide),if_neg (by omega),if_pos (by omega)]];rfl
  ·rename_i h0 ha hb';refine cQ.i rfl ?_;rw[show cB left u=[92,116] from by rw[cB,if_neg (by rw[h0];decide),if_neg (by omega),if_neg (by omega),if_pos (by omega)]];rfl
  ·rename_i h0 ha hb' hc';refine cQ.i rfl ?_;rw[hu2,show cB left u=[92,u] from by rw[cB,if_neg (by rw[h0];decide),if_neg (by omega),if_neg (by omega),if_neg (by omega),if_pos (.inl (by omega))],List.append_assoc];rfl
  ·rename_i h0 ha hb' hc' hd';refine cQ.i rfl ?_;rw[hu2,show cB left u=[92,u] from by rw[cB,if_neg (by rw[h0];decide),if_neg (by omega),if_neg (by omega),if_neg (by omega),if_pos (.inr hc)],List.append_assoc];rfl
  ·rename_i h0 ha hb' hc' hd';refine cQ.i rfl ?_;rw[hof,hof,show cB left u=[92,120,xR (u.toNat / 16),xR (u.toNat % 16)] from by rw[cB,if_neg (by rw[h0];decide),if_neg (by omega),if_neg (by omega),if_neg (by omega),if_neg (fun h=>h.elim (fun h=>hd' (by omega)) (fun h=>by omega))],List.append_assoc,List.append_assoc];rfl
 ·subst e;refine xA dZ rfl rfl ?_ h1_ h2_;intro vs_;repeat' first|exact k9|refine k2 ?_|apply kA|apply kI;intro hc|apply kL;intro hl|(((apply SdA.m;exact⟨h2 _ _⟩))<;>conv=>whnf)|(((apply SdA.m;exact⟨hb _ _ (by simp only[List.length_append,List.length_cons,List.length_nil,Array.length_toList];omega)⟩))<;>conv=>whnf)|refine k8 ?_|fail
  ·refine cQ.i rfl ?_;rw[hu2,show cB left u=[u] from by rw[cB,if_pos hc]];rfl
  ·rename_i h0;refine cQ.i rfl ?_;rw[show cB left u=[92,110] from by rw[cB,if_neg (by rw[h0];decide),if_pos (by omega)]];rfl
  ·rename_i h0 ha;refine cQ.i rfl ?_;rw[show cB left u=[92,114] from by rw[cB,if_neg (by rw[h0];decide),if_neg (by omega),if_pos (by omega)]];rfl
  ·rename_i h0 ha hb';refine cQ.i rfl ?_;rw[show cB left u=[92,116] from by rw[cB,if_neg (by rw[h0];decide),if_neg (by omega),if_neg (by omega),if_pos (by omega)]];rfl
  ·rename_i h0 ha hb' hc';refine cQ.i rfl ?_;rw[hu2,show cB left u=[92,u] from by rw[cB,if_neg (by rw[h0];decide),if_neg (by omega),if_neg (by omega),if_neg (by omega),if_pos (.inl (by omega))],List.append_assoc];rfl
  ·rename_i h0 ha hb' hc' hd';refine cQ.i rfl ?_;rw[hu2,show cB left u=[92,u] from by rw[cB,if_neg (by rw[h0];decide),if_neg (by omega),if_neg (by omega),if_neg (by omega),if_pos (.inr hc)],List.append_assoc];rfl
  ·rename_i h0 ha hb' hc' hd';refine cQ.i rfl ?_;rw[hof,hof,show cB left u=[92,120,xR (u.toNat / 16),xR (u.toNat % 16)] from by rw[cB,if_neg (by rw[h0];decide),if_neg (by omega),if_neg (by omega),if_neg (by omega),if_neg (fun h=>h.elim (fun h=>hd' (by omega)) (fun h=>by omega))],List.append_assoc,List.append_assoc];rfl
instance:Jr 149:=⟨trivial⟩
instance(l:List UInt8)(u:UInt8)(left:ByteArray):HB X1.Γ 149 l [byF (u.toNat:Int),stF left] (.tp []) (l++cB left u) (l.length≤900000000):=⟨Bb l u left⟩
end Go.Km
end
section
namespace Go.Sl
open Go Go.RowKit
section
variable {P:Program} {n:FD} {s:Sg} {M:World→Prop} {ty:TypeId}
theorem u64_in{a:Nat}(h:a<18446744073709551616):IntKind.u64.wrap (a:Int)=(a:Int):=by rw[IntKind.wrap_u64];omega
theorem Ev.M4{x y:Operand}{t u:TypeId}{a b:Nat}(hx:ev s x=some (.int .u64 (a:Int)))(hy:ev s y=some (.int .u64 (b:Int)))(ha:a<18446744073709551616)(hb:b<18446744073709551616):Ev P n s M (.binOp .and t x y u) ty (.int .u64 ((a &&& b:Nat):Int)):=by
 refine⟨fun ac w o ho ht hf hm=>?_⟩;have hl:a &&& b<2 ^ 64:=Nat.and_lt_two_pow _ (by omega);have h1:(BitVec.ofInt 64 (a:Int)).toNat=a:=by
  rw[BitVec.ofInt_natCast,BitVec.toNat_ofNat];exact Nat.mod_eq_of_lt (by omega)
 have h2:(BitVec.ofInt 64 (b:Int)).toNat=b:=by
  rw[BitVec.ofInt_natCast,BitVec.toNat_ofNat];exact Nat.mod_eq_of_lt (by omega)
 have h3:IntKind.u64.wrap ((BitVec.ofInt 64 (a:Int) &&& BitVec.ofInt 64 (b:Int)).toNat:Int)=((a &&& b:Nat):Int):=by
  rw[BitVec.toNat_and,h1,h2];exact u64_in hl
 have h:(Op.intBits .and .u64 (a:Int) (b:Int)).run P w=.ok (.int .u64 ((a &&& b:Nat):Int)) w:=by
  rw[←h3];rfl
 simp[execOp,ho,hf.ev hx,hf.ev hy,eqGuard,binOp,h]
theorem Ev.Mk{x:Operand}{t:TypeId}{a:Nat}(hx:ev s x=some (.int .u64 (a:Int)))(ha:a<18446744073709551616):Ev P n s M (.unOp .xor t x) ty (.int .u64 ((18446744073709551615 - a:Nat):Int)):=by
 refine⟨fun ac w o ho ht hf hm=>?_⟩;have h1:(BitVec.ofInt 64 (a:Int))=BitVec.ofNat 64 a:=by rw[BitVec.ofInt_natCast]
 have h2:(BitVec.ofInt 64 18446744073709551615)=BitVec.allOnes 64:=by decide
 have h3:IntKind.u64.wrap ((BitVec.ofInt 64 18446744073709551615 ^^^ BitVec.ofInt 64 (a:Int)).toNat:Int)=((18446744073709551615 - a:Nat):Int):=by
  rw[h1,h2,BitVec.xor_comm,BitVec.xor_allOnes,BitVec.toNat_not,BitVec.toNat_ofNat,Nat.mod_eq_of_lt (by omega)];exact u64_in (by omega)
 have h:(Op.unary .xor (.int .u64 (a:Int))).run P w=.ok (.int .u64 ((18446744073709551615 - a:Nat):Int)) w:=by
  rw[←h3];rfl
 simp[execOp,ho,hf.ev hx,h]
theorem Ev.NF{x:Operand}{t:TypeId}{a:Nat}(hx:ev s x=some (.int .u64 (a:Int)))(h0:a≠0)(ha:a<18446744073709551616):Ev P n s M (.unOp .neg t x) ty (.int .u64 ((18446744073709551616 - a:Nat):Int)):=by
 refine⟨fun ac w o ho ht hf hm=>?_⟩;have h:IntKind.u64.wrap (0 - (a:Int))=((18446744073709551616 - a:Nat):Int):=by rw[IntKind.wrap_u64];omega
 have h':IntKind.u64.wrap (-(a:Int))=((18446744073709551616 - a:Nat):Int):=by rw[IntKind.wrap_u64];omega
 simp[execOp,ho,hf.ev hx,Op.unary,Op.intArith,h']
theorem Ev.Nc{x y:Operand}{t u:TypeId}{a b:Nat}(hx:ev s x=some (.int .u64 (a:Int)))(hy:ev s y=some (.int .u64 (b:Int))):Ev P n s M (.binOp .mul t x y u) ty (.int .u64 ((a * b % 18446744073709551616:Nat):Int)):=by
 refine⟨fun ac w o ho ht hf hm=>?_⟩;have h:IntKind.u64.wrap ((a:Int) * (b:Int))=((a * b % 18446744073709551616:Nat):Int):=by rw[IntKind.wrap_u64,←Int.natCast_mul];omega
 simp[execOp,ho,hf.ev hx,hf.ev hy,eqGuard,binOp,Op.intArith,h]
theorem Ev.Ms{x y:Operand}{t u:TypeId}{a:Nat}(hx:ev s x=some (.int .u64 (a:Int)))(hy:ev s y=some (.int .u64 58)):Ev P n s M (.binOp .shr t x y u) ty (.int .u64 ((a / 288230376151711744:Nat):Int)):=by
 refine⟨fun ac w o ho ht hf hm=>?_⟩;have h1:(a:Int).fdiv (2 ^ 58)=((a / 288230376151711744:Nat):Int):=by
  rw[Int.fdiv_eq_ediv_of_nonneg _ (by omega)];rfl
 have h:(Op.shift .shr .u64 (a:Int) .u64 58).run P w=.ok (.int .u64 ((a / 288230376151711744:Nat):Int)) w:=by
  rw[←h1];rfl
 simp[execOp,ho,hf.ev hx,hf.ev hy,eqGuard,binOp,h]
class AE(P:Program)(t:Nat)(len:outParam Nat):Prop where
 run:∀(cs:Array Value) (v:Value) (i:Nat) (k:IntKind) (w:World),i<len→cs[i]?=some v→(Instr.index t (.agg cs) (.int k (i:Int))).run P w=.ok v w
theorem AE.of{t len e:Nat}{d:TypeDesc}(hu:P.underlying t=some (.array len e))(hs:(P.info? e).map (·.size)=some 1)(hd:P.underlying e=some d)(hd':(match d with | .struct _ | .array _ _=>true|_=>false)=false):AE P t len:=by
 refine⟨fun cs v i k w hi hv=>?_⟩;obtain⟨⟨inf,h1,h2⟩⟩:=SZ.of hs
 cases d<;>simp at hd'<;>simp[Instr.index,asIntOf,run_underlying hu,hi,sizeOf,typeInfo,h1,h2,part,isAgg,run_underlying hd,hv]
theorem Ev.El{x y:Operand}{t len i:Nat}{k:IntKind}{cs:Array Value}{v:Value}[h:AE P t len](hx:ev s x=some (.agg cs))(hy:ev s y=some (.int k (i:Int)))(hi:i<len)(hv:cs[i]?=some v):Ev P n s M (.index t x y) ty v:=by
 refine⟨fun ac w o ho ht hf hm=>?_⟩;simp[execOp,ho,hf.ev hx,hf.ev hy,h.run cs v i k w hi hv]
theorem Ev.Lh{x y:Operand}{t u:TypeId}{a b r:Nat}(e:a &&& b=r)(hx:ev s x=some (.int .u64 (a:Int)))(hy:ev s y=some (.int .u64 (b:Int)))(ha:a<18446744073709551616)(hb:b<18446744073709551616):Ev P n s M (.binOp .and t x y u) ty (.int .u64 (r:Int)):=e▸Ev.M4 hx hy ha hb
theorem Ev.K3{x y:Operand}{t u:TypeId}{a b r:Nat}(e:a * b % 18446744073709551616=r)(hx:ev s x=some (.int .u64 (a:Int)))(hy:ev s y=some (.int .u64 (b:Int))):Ev P n s M (.binOp .mul t x y u) ty (.int .u64 (r:Int)):=e▸Ev.Nc hx hy
theorem Ev.LC{x y:Operand}{t u:TypeId}{a r:Nat}(e:a / 288230376151711744=r)(hx:ev s x=some (.int .u64 (a:Int)))(hy:ev s y=some (.int .u64 58)):Ev P n s M (.binOp .shr t x y u) ty (.int .u64 (r:Int)):=e▸Ev.Ms hx hy
end
end Go.Sl
namespace Go.aa
open Go
def gR(x:Nat):List Nat:=(List.range 64).filter fun i=>x.testBit i
theorem Bp:gR 0=[]:=by simp[gR]
theorem wP{p:Nat→Bool}{n k:Nat}(hk:k<n)(hp:p k=true)(hl:∀i,i<k→p i=false):(List.range n).filter p=k :: (List.range n).filter (fun i=>p i && !decide (i=k)):=by
 obtain⟨d,rfl⟩:∃d,n=k+(d+1):=⟨n - k - 1,by omega⟩
 have e:List.range (k+(d+1))=List.range k++k :: (List.range' (k+1) d):=by
  rw[List.range_eq_range',List.range_eq_range',←List.range'_append_1];simp[List.range'_succ]
 have h1:(List.range k).filter p=[]:=List.filter_eq_nil_iff.2 (fun i hi=>by rw[hl i (List.mem_range.1 hi)];simp);have h2:(List.range k).filter (fun i=>p i && !decide (i=k))=[]:=List.filter_eq_nil_iff.2 (fun i hi=>by rw[hl i (List.mem_range.1 hi)];simp);have h3:(List.range' (k+1) d).filter p=(List.range' (k+1) d).filter (fun i=>p i && !decide (i=k)):=List.filter_congr (fun i hi=>by
  have:=(List.mem_range'_1.1 hi).1;have hne:i≠k:=by omega
  simp[hne])
 rw[e,List.filter_append,List.filter_append,List.filter_cons,List.filter_cons,h1,h2,h3];simp[hp]
theorem FY{x k m:Nat}(hx:x=2 ^ k * (2 * m+1))(i:Nat):(x &&& (x - 1)).testBit i=(x.testBit i && !decide (i=k)):=by
 have hpos:0<2 ^ k:=Nat.two_pow_pos k;have e1:x=2 ^ k * (2 * m+1)+0:=by omega
 have e2:x - 1=2 ^ k * (2 * m)+(2 ^ k - 1):=by rw[hx,Nat.mul_add];omega
 rw[Nat.testBit_and,e2,e1,Nat.testBit_two_pow_mul_add _ hpos,Nat.testBit_two_pow_mul_add _ (by omega)]
 by_cases h:i<k
 ·simp[h]
 ·rw[if_neg h,if_neg h]
  by_cases he:i=k
  ·subst he;simp
  ·obtain⟨j,hj⟩:∃j,i - k=j+1:=⟨i - k - 1,by omega⟩
   rw[hj,Nat.testBit_succ,Nat.testBit_succ];have d1:(2 * m+1) / 2=m:=by omega
   have d2:2 * m / 2=m:=by omega
   rw[d1,d2];simp[he]
theorem AA{x:Nat}(h0:x≠0)(h:x<18446744073709551616):gR x=Lib.ctz 64 x :: gR (x &&& (x - 1))∧Lib.ctz 64 x<64:=by
 obtain⟨m,hm,hk⟩:=Lib.ctzFrom_spec 64 x (by omega) h;have e:Lib.ctz 64 x=Lib.ctzFrom 64 x:=by simp[Lib.ctz,h0]
 rw[e];generalize Lib.ctzFrom 64 x=k at *;refine⟨?_,hk⟩;have hb:∀i,x.testBit i=if i<k then false else (2 * m+1).testBit (i - k):=fun i=>by
  have e1:x=2 ^ k * (2 * m+1)+0:=by omega
  rw[e1,Nat.testBit_two_pow_mul_add _ (Nat.two_pow_pos k)];simp
 unfold gR;rw[wP (p:=fun i=>x.testBit i) hk (by rw[hb];simp) (fun i hi=>by rw[hb,if_pos hi])]
 congr 1
 exact List.filter_congr (fun i _=>(FY hm i).symm)
theorem xZ{x:Nat}(h0:x≠0):x &&& (x - 1)<x:=by
 have:x &&& (x - 1)≤x - 1:=Nat.and_le_right;omega
theorem H7{x b:Nat}(h:b∈gR x):b<64:=List.mem_range.1 (List.mem_filter.1 h).1
theorem vf(x:Nat):(gR x).length≤64:=by
 have:=List.length_filter_le (fun i=>x.testBit i) (List.range 64);rw[List.length_range] at this;exact this
def Bts.ws(s:Bts):List Nat:=[s.a.toNat,s.b.toNat,s.c.toNat,s.d.toNat]
def bY:Nat→List Nat→List Nat
 | _,[]=>[]
 | i,x :: l=>(gR x).map (fun b=>i * 64+b)++bY (i+1) l
def kO(s:Bts):List Nat:=bY 0 s.ws
theorem vp:∀(l:List Nat) (i:Nat),∀b∈bY i l,b<(i+l.length) * 64
 | [],_,b,h=>by cases h
 | x :: l,i,b,h=>by
  rw[List.length_cons];rcases List.mem_append.1 h with h|h
  ·obtain⟨c,hc,rfl⟩:=List.mem_map.1 h;have:=H7 hc;have e:(i+(l.length+1)) * 64=i * 64+l.length * 64+64:=by rw[Nat.add_mul,Nat.add_mul];omega
   omega
  ·have:=vp l (i+1) b h;have e:i+1+l.length=i+(l.length+1):=by omega
   rwa [e] at this
theorem qw{s:Bts}{b:Nat}(h:b∈kO s):b<256:=by
 have:=vp s.ws 0 b h;simpa [Bts.ws] using this
theorem nE:∀(l:List Nat) (i:Nat),(bY i l).length≤64 * l.length
 | [],_=>by simp[bY]
 | x :: l,i=>by
  have h1:=vf x;have h2:=nE l (i+1);simp only[bY,List.length_append,List.length_map,List.length_cons];omega
theorem Bv(s:Bts):(kO s).length≤256:=nE s.ws 0
def cu(l:List (Nat×Nat))(b:Nat):List (Nat×Nat):=match l.getLast? with
 | some r=>if r.2+1=b then l.dropLast++[(r.1,b)] else l++[(b,b)]
 | none=>[(b,b)]
def kC(s:Bts):List (Nat×Nat):=(kO s).foldl cu []
theorem dB(l:List (Nat×Nat))(r:Nat×Nat)(b:Nat):cu (l++[r]) b=if r.2+1=b then l++[(r.1,b)] else l++[r]++[(b,b)]:=by
 unfold cu;rw[List.getLast?_concat,List.dropLast_concat]
theorem nH(b:Nat):cu [] b=[(b,b)]:=rfl
theorem nh(l:List (Nat×Nat))(b:Nat):(cu l b).length≤l.length+1:=by
 rcases bm l with rfl|⟨l',r,rfl⟩
 ·simp[nH]
 ·rw[dB]
  split<;>simp
def qD(l:List (Nat×Nat)):Prop:=∀r∈l,r.1≤r.2∧r.2<256
theorem vS{l:List (Nat×Nat)}{b:Nat}(h:qD l)(hb:b<256):qD (cu l b):=by
 rcases bm l with rfl|⟨l',r,rfl⟩
 ·intro x hx;simp[nH] at hx;subst hx;exact⟨Nat.le_refl _,hb⟩
 ·rw[dB];have hr:=h r (by simp)
  split
  ·intro x hx;rcases List.mem_append.1 hx with hx|hx
   ·exact h x (by simp[hx])
   ·simp at hx;subst hx;exact⟨by simp only;omega,hb⟩
  ·intro x hx;rcases List.mem_append.1 hx with hx|hx
   ·exact h x hx
   ·simp at hx;subst hx;exact⟨Nat.le_refl _,hb⟩
theorem lO:∀(bs:List Nat) (l:List (Nat×Nat)),qD l→(∀b∈bs,b<256)→qD (bs.foldl cu l)∧(bs.foldl cu l).length≤l.length+bs.length
 | [],l,h,_=>⟨h,by simp⟩
 | b :: bs,l,h,hb=>by
  obtain⟨h1,h2⟩:=lO bs (cu l b) (vS h (hb b (by simp))) (fun x hx=>hb x (by simp[hx]));have:=nh l b;exact⟨h1,by simp only[List.foldl_cons,List.length_cons];omega⟩
theorem zE(s:Bts):qD (kC s)∧(kC s).length≤256:=by
 obtain⟨h1,h2⟩:=lO (kO s) [] (fun r hr=>by cases hr) (fun b hb=>qw hb);have:=Bv s;exact⟨h1,by simp only[List.length_nil] at h2;unfold kC;omega⟩
theorem nN:∀(l:List Nat) (i k:Nat),bY i l=bY i (l.take k)++bY (i+k) (l.drop k)
 | [],i,k=>by simp[bY]
 | x :: l,i,0=>by simp[bY]
 | x :: l,i,k+1=>by
  rw[List.take_succ_cons,List.drop_succ_cons,bY,bY,nN l (i+1) k,List.append_assoc,show i+1+k=i+(k+1) by omega]
end Go.aa
namespace Go.Proofs.YtoklkjkmbfebjaaGreatDoor
open Go Go.Sl Go.RowKit Go.aa
instance:AE Tryz.prog 52 4:=AE.of Tryz.underlying52 (by kernel_rfl) Tryz.underlying50 rfl
def NX:Nat→List Value
 | 0=>[.int .u64 0,.int .u64 0,.int .u64 0,.int .u64 0]
 | 1=>[.int .u64 18446744073709551615,.int .u64 0,.int .u64 0,.int .u64 0]
 | 2=>[.int .u64 18446744073709551615,.int .u64 18446744073709551615,.int .u64 0,.int .u64 0]
 | 3=>[.int .u64 18446744073709551615,.int .u64 18446744073709551615,.int .u64 18446744073709551615,.int .u64 0]
 | _=>[.int .u64 18446744073709551615,.int .u64 18446744073709551615,.int .u64 18446744073709551615,.int .u64 18446744073709551615]
theorem Ev.sH{P:Program}{n:FD}{s:Sg}{M:World→Prop}{ty:TypeId}{x:Operand}{t:TypeId}(hx:ev s x=some (.int .u64 0)):Ev P n s M (.unOp .xor t x) ty (.int .u64 18446744073709551615):=Ev.Mk (a:=0) hx (by decide)
set_option maxRecDepth 20000 in
theorem FO(w:World):Calls Tryz.prog 155 #[.agg #[.int .u64 0,.int .u64 0,.int .u64 0,.int .u64 0]] w (mS w (.agg #[.int .u64 18446744073709551615,.int .u64 18446744073709551615,.int .u64 18446744073709551615,.int .u64 18446744073709551615])):=by
 refine TC.calls (l:=[.agg #[.int .u64 0,.int .u64 0,.int .u64 0,.int .u64 0]]) Tryz.func155 rfl Tryz.ntmps155 rfl (St.start w) ?_
 repeat' (first|(refine W1 ?_)|(refine W2 (fun hc=>?_) (fun hc=>?_))|(intro _))
 rename_i b1 b2;refine TC.MC (ι:=Nat) 0 (fun i r=>(6,.int .i64 i) :: r) (fun i=>St w [blk b2 [.int .u64 0,.int .u64 0,.int .u64 0,.int .u64 0] 52,blk b1 (NX i) 52]) (fun i=>i≤4) (fun i=>4 - i) KpA FZ (fun _ h=>h) (Nat.zero_le _) ?_;intro i hi
 by_cases hlt:i<4
 ·have e:i=0∨i=1∨i=2∨i=3:=by omega
  rcases e with rfl|rfl|rfl|rfl
  all_goals
   repeat' (first|((apply T.ev_;exact rfl;apply Ev.El;exact rfl;exact rfl;exact hlt;exact rfl))|((apply T.ev_;exact rfl;apply Ev.sH;exact rfl))|((apply T.ev_;exact rfl;apply Ev.wu;exact rfl;exact rfl;exact hlt))|(refine W1 ?_)|(refine W2 (fun hc=>?_) (fun hc=>?_))|(intro _))
  ·exact TX.round 1 (by decide) (by decide) FZ (fun w' hw=>hw)
  ·exact TX.round 2 (by decide) (by decide) FZ (fun w' hw=>hw)
  ·exact TX.round 3 (by decide) (by decide) FZ (fun w' hw=>hw)
  ·exact TX.round 4 (by decide) (by decide) FZ (fun w' hw=>hw)
 ·have hck:decide ((i:Int)<4)=false:=decide_eq_false (by omega);obtain rfl:i=4:=by omega
  repeat' (first|(refine W1 ?_)|(refine W2 (fun hc=>?_) (fun hc=>?_))|(intro _))
  exact TX.Cj (rs:=[.cell 2 52]) (vs:=[.agg #[.int .u64 18446744073709551615,.int .u64 18446744073709551615,.int .u64 18446744073709551615,.int .u64 18446744073709551615]]) rfl (.cell rfl (C8 (cs:=[.int .u64 18446744073709551615,.int .u64 18446744073709551615,.int .u64 18446744073709551615,.int .u64 18446744073709551615]) AtA rfl) .nil) (fun w' hw=>mS.eq hw rfl)
theorem Jc(w:World):Calls Tryz.prog 150 #[] w (mS w (.agg #[.int .u64 18446744073709551615,.int .u64 18446744073709551615,.int .u64 18446744073709551615,.int .u64 18446744073709551615])):=by
 refine TC.calls (l:=[]) Tryz.func150 rfl Tryz.ntmps150 rfl (St.start w) ?_
 repeat' (first|((apply T.C2 (f:=155);exact rfl;exact rfl;exact fun w' _=>FO w'))|(refine W1 ?_)|(refine W2 (fun hc=>?_) (fun hc=>?_))|(intro _))
 exact TX.Cj (rs:=[.cell 0 52]) (vs:=[.agg #[.int .u64 18446744073709551615,.int .u64 18446744073709551615,.int .u64 18446744073709551615,.int .u64 18446744073709551615]]) rfl (.cell rfl (C8 (cs:=[.int .u64 18446744073709551615,.int .u64 18446744073709551615,.int .u64 18446744073709551615,.int .u64 18446744073709551615]) AtA rfl) .nil) (fun w' hw=>mS.eq hw rfl)
def E3(w:World):Prop:=∀i,i<64→w.cell? ⟨3,i,none⟩=some (.int .u8 ((Lib.deBruijn64tab.getD i 0:Nat):Int))
theorem E3.st{w0 w:World}{L:List HP}(h:E3 w0)(hs:St w0 L w):E3 w:=fun i hi=>hs.Gc (h i hi)
theorem KQ(x:Nat)(w:World)(h0:x≠0)(hx:x<18446744073709551616)(hT:E3 w):Calls Tryz.prog 160 #[.int .u64 (x:Int)] w (mS w (.int .i64 ((Lib.ctz 64 x:Nat):Int))):=by
 refine TC.calls (l:=[.int .u64 (x:Int)]) Tryz.func160 rfl Tryz.ntmps160 rfl (St.start w) ?_;obtain⟨hlow,hk⟩:=Lib.lowest_bit 64 x h0 hx;obtain⟨hi,htab⟩:=Lib.deBruijn64_at _ hk;generalize Lib.ctz 64 x=k at *;have hp:2 ^ k<18446744073709551616:=Nat.pow_lt_pow_right (by decide) hk;obtain⟨a,ha⟩:=exEq (2 ^ k);have hlow':x &&& (18446744073709551616 - x)=a:=by rw[ha];exact hlow
 rw[←ha] at hi htab hp;obtain⟨m,hm⟩:∃m,a * 285870213051353865 % 18446744073709551616=m:=⟨_,rfl⟩
 rw[hm] at hi htab;obtain⟨j,hj⟩:∃j,m / 288230376151711744=j:=⟨_,rfl⟩
 rw[hj] at hi htab;have hc:decide ((x:Int)=0)=false:=decide_eq_false (by omega);have ht:=fun w' (hw':St w [] w')=>(E3.st hT hw') j hi
 rw[htab] at ht;have hn:18446744073709551616 - x<18446744073709551616:=by omega
 repeat' (first|((apply T.ev_;exact rfl;apply Ev.NF;exact rfl;exact h0;exact hx))|((apply T.ev_;exact rfl;apply Ev.Lh hlow';exact rfl;exact rfl;exact hx;exact hn))|((apply T.ev_;exact rfl;apply Ev.K3 (b:=285870213051353865) hm;exact rfl;exact rfl))|((apply T.ev_;exact rfl;apply Ev.LC hj;exact rfl;exact rfl))|((apply T.ev_;exact rfl;apply Ev.wu (i:=j);exact rfl;exact rfl;exact hi))|((apply T.ev_;exact rfl;apply Ev.J9 (p:=⟨3,0+j * 1,none⟩);exact rfl;(intro w' hw';rw[Nat.mul_one,Nat.zero_add];exact ht w' hw')))|((apply T.ev_;exact rfl;apply Ev.CI;exact rfl;omega))|(refine W1 ?_)|(refine W2 (fun hc=>?_) (fun hc=>?_))|(intro _))
 exact TX.wZ rfl rfl (fun w' hw=>mS.eq hw rfl)
end Go.Proofs.YtoklkjkmbfebjaaGreatDoor
end
section
namespace Go.aa
open Go
def fu(left:ByteArray)(l:List UInt8):List UInt8:=l.flatMap (cB left)
def DY(s:ByteArray):List UInt8:=[34]++fu ⟨#[34]⟩ s.data.toList++[34]
theorem kK(left:ByteArray)(c:UInt8):(cB left c).length≤4:=by
 unfold cB
 repeat' split
 all_goals simp
theorem mV(left:ByteArray):∀l:List UInt8,(fu left l).length≤4 * l.length
 | []=>by simp[fu]
 | c :: l=>by
  have h1:=kK left c;have h2:=mV left l;simp only[fu,List.flatMap_cons,List.length_append,List.length_cons] at h2 ⊢;omega
theorem zo(left:ByteArray)(l:List UInt8)(c:UInt8):fu left (l++[c])=fu left l++cB left c:=by simp[fu]
def gW:ByteArray:=⟨#[93,45,94]⟩
def xl(r:Nat×Nat):List UInt8:=cB gW r.1.toUInt8++(if 1<r.2 - r.1 then [45] else [])++(if r.2≠r.1 then cB gW r.2.toUInt8 else [])
theorem Gi(r:Nat×Nat):(xl r).length≤9:=by
 have h1:=kK gW r.1.toUInt8;have h2:=kK gW r.2.toUInt8;unfold xl;simp only[List.length_append]
 split<;>split<;>simp only[List.length_nil,List.length_singleton]<;>omega
def dX(l:List (Nat×Nat)):List UInt8:=l.flatMap xl
theorem Ao(l:List (Nat×Nat))(r:Nat×Nat):dX (l++[r])=dX l++xl r:=by simp[dX]
theorem py:∀l:List (Nat×Nat),(dX l).length≤9 * l.length
 | []=>by simp[dX]
 | r :: l=>by
  have h1:=Gi r;have h2:=py l;simp only[dX,List.flatMap_cons,List.length_append,List.length_cons] at h2 ⊢;omega
def Bts.all:Bts:=⟨18446744073709551615,18446744073709551615,18446744073709551615,18446744073709551615⟩
def iP(s:Bts):List UInt8:=if s=.all then [46] else [91]++dX (kC s)++[93]
theorem Bt(s:Bts):(iP s).length≤3000:=by
 have h1:=py (kC s);have h2:=(zE s).2;unfold iP
 split
 ·simp
 ·simp only[List.length_append,List.length_singleton];omega
end Go.aa
namespace Go.Km
open Go Go.Vc Go.Proofs Go.aa Go.Proofs.YtoklkjkmbfebjaaGreatDoor
set_option maxRecDepth 100000
set_option maxHeartbeats 0
instance(s:ByteArray):C 146 [stF s] (stF ⟨(DY s).toArray⟩) true (s.size≤1000000):=⟨fun hs=>by
 have hsl:s.data.toList.length=s.size:=by rw[Array.length_toList];rfl
 refine kf rfl rfl ?_;repeat' first|exact k9|refine k2 ?_|apply kA|apply kI;intro hc|refine k8 ?_|apply kL;intro hl
 apply kCt [0,3,4] [];conv=>whnf
 refine Lp.ind (fun z:Nat=>s.size - z) (fun z=>z≤s.size) (fun z=>[(4,InD z)]) (fun z=>[(1,.ro 0 5 1 (([34]++fu ⟨#[34]⟩ (s.data.toList.take z)).map byR))]) (fun _=>_) 0 (by simp) rfl rfl rfl ?_
 rintro G i ih hi
 have hsl2:=mV ⟨#[34]⟩ (s.data.toList.take i);rw[List.length_take] at hsl2
 by_cases hx:i<s.size
 ·have hpre:([34]++fu ⟨#[34]⟩ (s.data.toList.take i)).length≤900000000:=by simp only[List.length_append,List.length_cons,List.length_nil];omega
  repeat' first|exact k9|refine k2 ?_|apply kA|apply kI;intro hc|refine k8 ?_|apply kL;intro hl
  apply kCt [0,3,4] [];conv=>whnf
  refine ih (i+1) _ _ _ (by omega) (by omega) rfl rfl ?_;rw[List.take_succ_eq_append_getElem (by omega),zo,←List.append_assoc];rfl
 ·have hpre:([34]++fu ⟨#[34]⟩ (s.data.toList.take i)).length≤1000000000:=by simp only[List.length_append,List.length_cons,List.length_nil];omega
  have hpre2:([34]++fu ⟨#[34]⟩ (s.data.toList.take i)++[34]).length≤1000000000:=by simp only[List.length_append,List.length_cons,List.length_nil];omega
  have e:DY s=[34]++fu ⟨#[34]⟩ (s.data.toList.take i)++[34]:=by rw[List.take_of_length_le (by omega)];rfl
  rw[e];generalize fu ⟨#[34]⟩ (s.data.toList.take i)=m at *
  repeat' first|exact k9|refine k2 ?_|apply kA|apply kI;intro hc|apply kL;intro hl|(((apply SdA.m;exact⟨⟨by simp,hpre2⟩⟩))<;>conv=>whnf)|refine k8 ?_|fail
  exact ao.s rfl rfl⟩
theorem Jg{Z:Nat→Prop}{w:World}(hG:∀g cs,X1.Γ g=some cs→F.rep Z w (.pt cs.length [cs] 0 0) (.pointer (some ⟨g,0,none⟩))):E3 w:=by
 have h0:X1.Γ 3=some (((List.range 64).map fun i=>Value.int .u8 ((Lib.deBruijn64tab.getD i 0:Nat):Int)).map F.vl):=by kernel_rfl
 have h:=hG _ _ h0;unfold F.rep at h;obtain⟨A,vr,hA,h1,h2,h3⟩:=h
 injection hA with hA
 injection hA with hA
 unfold F.aG at h3;obtain⟨u,us,rfl,h4,h5⟩:=h3;unfold F.aG at h5;subst h5;have:=nZ h4;subst this;have hA':A=⟨3,0,none⟩:=by rw[hA];simp[Addr.add]
 obtain⟨a,ha,_,hc⟩:=h1.2.2 (by simp)
 cases ha;intro i hi;have:=hc i (.int .u8 ((Lib.deBruijn64tab.getD i 0:Nat):Int)) (by simp[hi]);rw[hA',Sl.add_lit,Nat.zero_add] at this;exact this
instance(x:Nat):C 160 [.vl (.int .u64 (x:Int))] (inF ((Lib.ctz 64 x:Nat):Int)) true (x≠0∧x<18446744073709551616):=⟨fun h=>⟨inferInstance,fun Z w vs hZ hG hr=>by
 rw[nZ (l:=[.int .u64 (x:Int)]) hr];exact(KQ x w h.1 h.2 (Jg hG)).mono fun e w' ⟨h1,h2⟩=>⟨_,h1,h2,by unfold F.rep;rfl⟩⟩⟩
instance:C 150 [] (.ag (btF Bts.all)) true True:=⟨fun _=>⟨inferInstance,fun Z w vs hZ hG hr=>by
 rw[nZ (l:=[]) hr];exact(Jc w).mono fun e w' ⟨h1,h2⟩=>⟨_,h1,h2,by unfold F.rep;exact⟨_,rfl,F.FC [.int .u64 18446744073709551615,.int .u64 18446744073709551615,.int .u64 18446744073709551615,.int .u64 18446744073709551615]⟩⟩⟩⟩
theorem wsD{s:Bts}(h:s.wf){i:Nat}(hi:i<4):([D.fr (.vl (.int .u64 s.a)),D.fr (.vl (.int .u64 s.b)),D.fr (.vl (.int .u64 s.c)),D.fr (.vl (.int .u64 s.d))]:List D)[i * 1]?=some (D.fr (.vl (.int .u64 ((s.ws.getD i 0:Nat):Int)))):=by
 obtain⟨h1,h2,h3,h4⟩:=h;have e:i=0∨i=1∨i=2∨i=3:=by omega
 rcases e with rfl|rfl|rfl|rfl
 ·exact congrArg (fun z=>some (D.fr (.vl (.int .u64 z)))) (show s.a=((s.a.toNat:Nat):Int) by omega)
 ·exact congrArg (fun z=>some (D.fr (.vl (.int .u64 z)))) (show s.b=((s.b.toNat:Nat):Int) by omega)
 ·exact congrArg (fun z=>some (D.fr (.vl (.int .u64 z)))) (show s.c=((s.c.toNat:Nat):Int) by omega)
 ·exact congrArg (fun z=>some (D.fr (.vl (.int .u64 z)))) (show s.d=((s.d.toNat:Nat):Int) by omega)
theorem Mz{s:Bts}(h:s.wf){i:Nat}(hi:i<4):s.ws.getD i 0<18446744073709551616:=by
 obtain⟨h1,h2,h3,h4⟩:=h;have e:i=0∨i=1∨i=2∨i=3:=by omega
 rcases e with rfl|rfl|rfl|rfl
 ·show s.a.toNat<_;omega
 ·show s.b.toNat<_;omega
 ·show s.c.toNat<_;omega
 ·show s.d.toNat<_;omega
theorem zf{s:Bts}{i:Nat}(hi:i<4):bY 0 (s.ws.take (i+1))=bY 0 (s.ws.take i)++(gR (s.ws.getD i 0)).map (fun b=>i * 64+b):=by
 have e:i=0∨i=1∨i=2∨i=3:=by omega
 rcases e with rfl|rfl|rfl|rfl<;>simp[Bts.ws,bY]
theorem BT{x:Nat}(hx:x<18446744073709551616)(h0:x≠0):IntKind.u64.wrap ((BitVec.ofInt IntKind.u64.bits (x:Int) &&& BitVec.ofInt IntKind.u64.bits ((x:Int) - 1)).toNat:Int)=((x &&& (x - 1):Nat):Int):=by
 have h1:(BitVec.ofInt 64 (x:Int)).toNat=x:=by
  rw[BitVec.ofInt_natCast,BitVec.toNat_ofNat];exact Nat.mod_eq_of_lt (by omega)
 have h2:(BitVec.ofInt 64 ((x:Int) - 1)).toNat=x - 1:=by
  rw[show(x:Int) - 1=((x - 1:Nat):Int) by omega,BitVec.ofInt_natCast,BitVec.toNat_ofNat];exact Nat.mod_eq_of_lt (by omega)
 show IntKind.u64.wrap ((BitVec.ofInt 64 (x:Int) &&& BitVec.ofInt 64 ((x:Int) - 1)).toNat:Int)=_
 rw[BitVec.toNat_and,h1,h2];exact Sl.u64_in (Nat.lt_of_le_of_lt Nat.and_le_left hx)
abbrev oT(r:Nat×Nat):List F:=[byF (r.1:Int),byF (r.2:Int)]
instance(s:Bts):C 151 [.ag (btF s)] (.sl ((kC s).map oT)) true s.wf:=⟨fun hs=>by
 refine kf rfl rfl ?_;repeat' first|exact k9|refine k2 ?_|apply kA|apply kI;intro hc|refine k8 ?_|apply kL;intro hl
 apply Stp.By 2 218 220 2 rfl rfl;apply kCt [0,5,6] [3];conv=>whnf
 refine Lp.ind (fun z:Nat=>4 - z) (fun z=>z≤4) (fun z=>[(6,InD z)]) (fun z=>[(3,.ro 0 220 2 (((bY 0 (s.ws.take z)).foldl cu []).map oT))]) (fun _=>_) 0 (by omega) rfl rfl rfl ?_
 rintro G i ih hi
 by_cases hx:i<4
 ·have hv:(D.ag [D.fr (.vl (.int .u64 s.a)),D.fr (.vl (.int .u64 s.b)),D.fr (.vl (.int .u64 s.c)),D.fr (.vl (.int .u64 s.d))]).cells[i * 1]?=some (D.fr (.vl (.int .u64 ((s.ws.getD i 0:Nat):Int)))):=wsD hs hx;have hx64:=Mz hs hx;have hT:(bY 0 (s.ws.take (i+1))).foldl cu []=((gR (s.ws.getD i 0)).map (fun b=>i * 64+b)).foldl cu ((bY 0 (s.ws.take i)).foldl cu []):=by
   rw[←List.foldl_append,zf hx]
  have hok:qD ((bY 0 (s.ws.take i)).foldl cu []):=(lO _ [] (fun r hr=>by cases hr) fun b hb=>qw (s:=s) (by rw[kO,nN s.ws 0 i];simp[hb])).1;generalize s.ws.getD i 0=x0 at *;generalize hR0:(bY 0 (s.ws.take i)).foldl cu []=R0 at *
  repeat' first|exact k9|refine k2 ?_|apply kA|apply kI;intro hc|refine k8 ?_|apply kL;intro hl
  apply kCt [0,3,4,5,6] [3];conv=>whnf
  have hR0l:R0.length+(gR x0).length≤64 * (i+1):=by
   have h1:=(lO (bY 0 (s.ws.take i)) [] (fun r hr=>by cases hr) fun b hb=>qw (s:=s) (by rw[kO,nN s.ws 0 i];simp[hb])).2;have h2:=nE (s.ws.take i) 0;have h3:=vf x0;rw[hR0] at h1;rw[List.length_take] at h2;simp only[List.length_nil] at h1;omega
  refine Lp.ind (fun z:Nat×List (Nat×Nat)=>z.1) (fun z=>z.1<18446744073709551616∧qD z.2∧z.2.length+(gR z.1).length≤64 * (i+1)∧((gR z.1).map (fun b=>i * 64+b)).foldl cu z.2=(bY 0 (s.ws.take (i+1))).foldl cu []) (fun z=>[(4,.fr (.vl (.int .u64 (z.1:Int))))]) (fun z=>[(3,.ro 0 220 2 (z.2.map oT))]) (fun _=>_) (x0,R0) ⟨hx64,hok,hR0l,hT.symm⟩ rfl rfl rfl ?_
  rintro G' ⟨x,R⟩ ih' ⟨hxx,hRk,hRl,hRT⟩
  dsimp only at hxx hRk hRl hRT ih' ⊢
  by_cases h0:x=0
  ·subst h0;rw[Bp,List.map_nil,List.foldl_nil] at hRT;subst hRT
   repeat' first|exact k9|refine k2 ?_|apply kA|apply kI;intro hc|refine k8 ?_|apply kL;intro hl
   apply kCt [0,5,6] [3];conv=>whnf
   exact ih (i+1) _ _ _ (by omega) (by omega) rfl rfl rfl
  ·obtain⟨hb1,hb2⟩:=AA h0 hxx;have hlt:=xZ h0;rw[hb1,List.map_cons,List.foldl_cons] at hRT;rw[hb1,List.length_cons] at hRl;have hb0:(i:Int) * 64+((Lib.ctz 64 x:Nat):Int)=((i * 64+Lib.ctz 64 x:Nat):Int):=by omega
   have hb3:i * 64+Lib.ctz 64 x<256:=by omega
   have hnx:IntKind.u64.wrap ((BitVec.ofInt IntKind.u64.bits (x:Int) &&& BitVec.ofInt IntKind.u64.bits ((x:Int) - 1)).toNat:Int)=((x &&& (x - 1):Nat):Int):=BT hxx h0;have hRT':∀R',R'=cu R (i * 64+Lib.ctz 64 x)→qD R'∧R'.length≤R.length+1∧((gR (x &&& (x - 1))).map (fun b=>i * 64+b)).foldl cu R'=(bY 0 (s.ws.take (i+1))).foldl cu []:=fun R' e=>by
    subst e;exact⟨vS hRk hb3,nh _ _,hRT⟩
   have hx0:(x:Int)≠0:=by omega
   rcases bm R with rfl|⟨R,r,rfl⟩
   ·repeat' first|exact k9|refine k2 ?_|apply kA|apply kI;intro hc|refine k8 ?_|apply kL;intro hl
    apply kCt [0,3,4,5,6] [3];conv=>whnf
    obtain⟨c1,c2,c3⟩:=hRT' [(i * 64+Lib.ctz 64 x,i * 64+Lib.ctz 64 x)] rfl;refine ih' (x &&& (x - 1),[(i * 64+Lib.ctz 64 x,i * 64+Lib.ctz 64 x)]) _ _ _ hlt ⟨by dsimp only;omega,c1,by simp only[List.length_cons,List.length_nil] at hRl ⊢;omega,c3⟩ rfl ?_ ?_
    ·dsimp only;rw[←hnx];rfl
    ·dsimp only;rw[List.map_singleton,oT,←hb0];rfl
   ·have hlast:∀h,(R++[r])[((List.map oT (R++[r])).length - 1:Int).toNat]'h=r:=by
     intro h;simp[List.getElem_append]
    have hr2:=(hRk r (by simp))
    simp only[List.length_append,List.length_cons,List.length_nil] at hRl;have hwr:IntKind.i64.wrap (r.2:Int)=(r.2:Int):=wrap_i64 ⟨by omega,by omega⟩
    repeat' first|exact k9|refine k2 ?_|apply kA|apply kI;intro hc|apply kL;intro hl|((rw[hlast];rw[hwr])<;>conv=>whnf)|refine k8 ?_|fail
    ·skip
     have hcn:r.2+1=i * 64+Lib.ctz 64 x:=by omega
     apply kCt [0,3,4,5,6] [3];conv=>whnf
     obtain⟨c1,c2,c3⟩:=hRT' (R++[(r.1,i * 64+Lib.ctz 64 x)]) (by rw[dB,if_pos hcn]);refine ih' (x &&& (x - 1),R++[(r.1,i * 64+Lib.ctz 64 x)]) _ _ _ hlt ⟨by dsimp only;omega,c1,by simp only[List.length_append,List.length_cons,List.length_nil] at hRl ⊢;omega,c3⟩ rfl ?_ ?_
     ·dsimp only;rw[←hnx];rfl
     ·have hrow:∀h,(List.map oT (R++[r])).set (((List.map oT (R++[r])).length:Int) - 1).toNat (setAt (oT ((R++[r])[(((List.map oT (R++[r])).length:Int) - 1).toNat]'h)) 1 [F.vl (.int .u8 ((i:Int) * 64+((Lib.ctz 64 x:Nat):Int)))])=List.map oT (R++[(r.1,i * 64+Lib.ctz 64 x)]):=by
       intro h;rw[hlast h];have e:(((List.map oT (R++[r])).length:Int) - 1).toNat=(List.map oT R).length:=by simp
       rw[e,List.map_append,List.map_singleton,List.set_append_right _ _ (Nat.le_refl _),Nat.sub_self,List.map_append,List.map_singleton,hb0];rfl
      exact congrArg (fun z=>iW [(3,B.ro 0 220 2 z)] G'.h) (hrow _)
    ·skip
     have hcn:¬r.2+1=i * 64+Lib.ctz 64 x:=by omega
     apply kCt [0,3,4,5,6] [3];conv=>whnf
     obtain⟨c1,c2,c3⟩:=hRT' (R++[r]++[(i * 64+Lib.ctz 64 x,i * 64+Lib.ctz 64 x)]) (by rw[dB,if_neg hcn]);refine ih' (x &&& (x - 1),R++[r]++[(i * 64+Lib.ctz 64 x,i * 64+Lib.ctz 64 x)]) _ _ _ hlt ⟨by dsimp only;omega,c1,by simp only[List.length_append,List.length_cons,List.length_nil] at hRl ⊢;omega,c3⟩ rfl ?_ ?_
     ·dsimp only;rw[←hnx];rfl
     ·have hrow:List.map oT (R++[r])++[[F.vl (.int .u8 ((i:Int) * 64+((Lib.ctz 64 x:Nat):Int))),F.vl (.int .u8 ((i:Int) * 64+((Lib.ctz 64 x:Nat):Int)))]]=List.map oT (R++[r]++[(i * 64+Lib.ctz 64 x,i * 64+Lib.ctz 64 x)]):=by
       rw[List.map_append (l₁:=R++[r]),List.map_singleton,hb0]
      exact congrArg (fun z=>iW [(3,B.ro 0 220 2 z)] G'.h) hrow
 ·obtain rfl:i=4:=by omega
  repeat' first|exact k9|refine k2 ?_|apply kA|apply kI;intro hc|refine k8 ?_|apply kL;intro hl
  refine ao.j rfl ?_;simp only[cD,oL,lk,Nat.beq,cond_true];simp[F.flat,F.flat.lG]⟩
theorem Lb{s t:Bts}(h:[s.a,s.b,s.c,s.d]=[t.a,t.b,t.c,t.d]):s=t:=by
 obtain⟨a,b,c,d⟩:=s;obtain⟨a',b',c',d'⟩:=t;simp only[List.cons.injEq] at h;obtain⟨rfl,rfl,rfl,rfl,_⟩:=h;rfl
instance(l:List UInt8)(n:Nat)(left:ByteArray):HB X1.Γ 149 l [byF (n:Int),stF left] (.tp []) (l++cB left n.toUInt8) (n<256∧l.length≤900000000):=⟨fun h=>by
 have:=Bb l n.toUInt8 left h.2
 rwa [show n.toUInt8.toNat=n from Nat.mod_eq_of_lt h.1] at this⟩
theorem BR{l:List (Nat×Nat)}{i:Nat}(h:i<l.length):dX (l.take (i+1))=dX (l.take i)++xl (l[i]):=by
 rw[List.take_succ_eq_append_getElem h,Ao]
instance(s:Bts):C 147 [.ag (btF s)] (stF ⟨(iP s).toArray⟩) true s.wf:=⟨fun hs=>by
 have hrk:=zE s;refine kf rfl rfl ?_;repeat' first|exact k9|refine k2 ?_|apply kA|apply kI;intro hc|refine k8 ?_|apply kL;intro hl
 ·skip
  have e:iP s=[46]:=by rw[iP,if_pos (Lb hc)]
  rw[e];exact ao.s rfl rfl
 ·skip
  have e:iP s=[91]++dX (kC s)++[93]:=by rw[iP,if_neg fun h=>hc (by rw[h])]
  rw[e];generalize kC s=l at *;apply kCt [3,11,12,13] [];conv=>whnf
  refine Lp.ind (fun z:Nat=>l.length - z) (fun z=>z≤l.length) (fun z=>[(13,InD z)]) (fun z=>[(1,.ro 0 5 1 (([91]++dX (l.take z)).map byR))]) (fun _=>_) 0 (by omega) rfl rfl rfl ?_
  rintro G i ih hi
  have hsl2:=py (l.take i);rw[List.length_take] at hsl2
  by_cases hx:i<l.length
  ·have hpre:([91]++dX (l.take i)).length≤900000000:=by simp only[List.length_append,List.length_cons,List.length_nil];omega
   have hr:=hrk.1 l[i] (List.getElem_mem hx);have hm1:=kK gW l[i].1.toUInt8;have hm2:=kK gW l[i].2.toUInt8;rw[gW] at hm1 hm2;have hlx:∀m:List UInt8,m.length≤13→([91]++dX (l.take i)++m).length≤900000000:=fun m hm=>by rw[List.length_append,List.length_append];simp only[List.length_cons,List.length_nil];omega
   have hl1:=hlx (cB ⟨#[93,45,94]⟩ l[i].1.toUInt8) (by omega);have hl2:=hlx (cB ⟨#[93,45,94]⟩ l[i].1.toUInt8++[45]) (by simp only[List.length_append,List.length_cons,List.length_nil];omega);rw[←List.append_assoc] at hl2;have hl3:([91]++dX (l.take i)++cB ⟨#[93,45,94]⟩ l[i].1.toUInt8++[UInt8.ofNat (Int.toNat 45)]).length≤900000000:=hl2;have hrun:=BR hx;have hfin:∀m,m=xl l[i]→[91]++dX (l.take i)++m=[91]++dX (l.take (i+1)):=fun m e=>by rw[hrun,e,List.append_assoc]
   repeat' first|exact k9|refine k2 ?_|apply kA|apply kI;intro hc|refine k8 ?_|apply kL;intro hl
   ·apply kCt [3,11,12,13] [];conv=>whnf
    refine ih (i+1) _ _ _ (by omega) (by omega) rfl rfl ?_;rw[←hfin (cB ⟨#[93,45,94]⟩ l[i].1.toUInt8++[45]++cB ⟨#[93,45,94]⟩ l[i].2.toUInt8) (by rw[xl,if_pos (by omega),if_pos (by omega)];rfl),←List.append_assoc,←List.append_assoc];rfl
   ·apply kCt [3,11,12,13] [];conv=>whnf
    refine ih (i+1) _ _ _ (by omega) (by omega) rfl rfl ?_;rw[←hfin (cB ⟨#[93,45,94]⟩ l[i].1.toUInt8) (by rw[xl,if_neg (by omega),if_neg (by omega),List.append_nil,List.append_nil];rfl)];rfl
   ·apply kCt [3,11,12,13] [];conv=>whnf
    refine ih (i+1) _ _ _ (by omega) (by omega) rfl rfl ?_;rw[←hfin (cB ⟨#[93,45,94]⟩ l[i].1.toUInt8++cB ⟨#[93,45,94]⟩ l[i].2.toUInt8) (by rw[xl,if_neg (by omega),if_pos (by omega),List.append_nil];rfl),←List.append_assoc];rfl
  ·have hpre2:([91]++dX (l.take i)).length≤1000000000:=by simp only[List.length_append,List.length_cons,List.length_nil];omega
   have e:[91]++dX l++[93]=[91]++dX (l.take i)++[93]:=by rw[List.take_of_length_le (by omega)]
   have hpre3:([91]++dX (l.take i)++[93]).length≤1000000000:=by simp only[List.length_append,List.length_cons,List.length_nil];omega
   rw[e];generalize dX (l.take i)=m at *
   repeat' first|exact k9|refine k2 ?_|apply kA|apply kI;intro hc|apply kL;intro hl|(((apply SdA.m;exact⟨⟨by simp,hpre3⟩⟩))<;>conv=>whnf)|refine k8 ?_|fail
   exact ao.s rfl rfl⟩
end Go.Km
end
section
namespace Go.aa
open Go
def ed(n:Nat):List UInt8:=if n<10 then [UInt8.ofNat (48+n)] else [UInt8.ofNat (48+n / 10),UInt8.ofNat (48+n % 10)]
theorem lU(n:Nat):(ed n).length≤2:=by unfold ed;split<;>simp
def nL(a b:Int):List UInt8:=
 if ¬(0≤a∧a≤99∧(b=-1∨a≤b∧b≤99)) then []
 else if a=0∧b=1 then [63] else if a=0∧b=-1 then [42] else if a=1∧b=-1 then [43]
 else if a=b then [123]++ed a.toNat++[125] else if b=-1 then [123]++ed a.toNat++[44,125] else [123]++ed a.toNat++[44]++ed b.toNat++[125]
def bg(n:Nod):List UInt8:=
 if n.kind=0∨n.kind=2 then DY n.text else if n.kind=1 then iP n.set else if n.kind=3 then n.text.data.toList
 else if n.kind=9 then [60]++n.text.data.toList++[58,32] else if n.kind=7 then [38] else if n.kind=8 then [33] else []
def de(k:Int):List UInt8:=if k=4 then [32] else if k=5 then [32,47,32] else []
def bN(n:Nod):List UInt8:=if n.kind=6 then nL n.min n.max else if n.kind=9 then [62] else []
def cV(node kid:Int):Bool:=
 if node=5 then decide (kid=5) else if node=4∨node=7∨node=8 then decide (kid=4∨kid=5)
 else if node=6 then decide (kid=4∨kid=5∨kid=6∨kid=7∨kid=8) else false
end Go.aa
namespace Go.Km
open Go Go.Vc Go.Proofs Go.aa Go.Proofs.YtoklkjkmbfebjaaGreatDoor
set_option maxRecDepth 100000
set_option maxHeartbeats 0
theorem ov(a b:ByteArray):szS (uq a b)=szS a+szS b:=by simp[szS,uq]
theorem p8(l:List UInt8):szS ⟨l.toArray⟩=l.length:=by simp[szS]
theorem JY(l m:List UInt8):uq ⟨l.toArray⟩ ⟨m.toArray⟩=⟨(l++m).toArray⟩:=by simp[uq]
theorem Hc(C:ByteArray)(hC:∀m<10,lC C m (m+1)=⟨(ed m).toArray⟩){n:Int}(h0:0≤n)(h1:n<10):lC C n.toNat (n+1).toNat=⟨(ed n.toNat).toArray⟩:=by
 rw[show(n+1).toNat=n.toNat+1 by omega];exact hC _ (by omega)
theorem Fs(C:ByteArray)(hC:∀m<100,10≤m→lC C (m * 2) (m * 2+2)=⟨(ed m).toArray⟩){n:Int}(h0:10≤n)(h1:n≤99):lC C (n * 2).toNat (n * 2+2).toNat=⟨(ed n.toNat).toArray⟩:=by
 rw[show(n * 2).toNat=n.toNat * 2 by omega,show(n * 2+2).toNat=n.toNat * 2+2 by omega];exact hC _ (by omega) (by omega)
instance(n:Int):C 164 [inF n] (stF ⟨(ed n.toNat).toArray⟩) true (0≤n∧n≤99):=⟨fun h=>by
 refine kf rfl rfl ?_;repeat' first|exact k9|refine k2 ?_|apply kA|apply kI;intro hc|refine k8 ?_|apply kL;intro hl
 ·exact⟨Nat.le_trans (show _≤36 by omega) (by decide)⟩
 ·exact ao.s (Hc _ (by decide +kernel) h.1 (by assumption)) rfl
 ·exact⟨Nat.le_trans (show _≤200 by omega) (by decide +kernel)⟩
 ·exact ao.s (Fs _ (by decide +kernel) (by assumption) h.2) rfl
⟩
instance(n:Int):C 163 [inF n,inF 10] (stF ⟨(ed n.toNat).toArray⟩) true (0≤n∧n≤99):=⟨fun h=>by
 refine kf rfl rfl ?_;repeat' (first|exact k9|refine k2 ?_|apply kA|apply kI;intro hc|refine k8 ?_|apply kL;intro hl)⟩
instance(n:Int):C 161 [inF n] (stF ⟨(ed n.toNat).toArray⟩) true (0≤n∧n≤99):=⟨fun h=>by
 refine kf rfl rfl ?_;repeat' (first|exact k9|refine k2 ?_|apply kA|apply kI;intro hc|refine k8 ?_|apply kL;intro hl)⟩
instance(n:Int):C 157 [inF n] (stF ⟨(ed n.toNat).toArray⟩) true (0≤n∧n≤99):=⟨fun h=>by
 refine kf rfl rfl ?_;repeat' (first|exact k9|refine k2 ?_|apply kA|apply kI;intro hc|refine k8 ?_|apply kL;intro hl)⟩
instance(n:Int):C 152 [inF n] (stF ⟨(ed n.toNat).toArray⟩) true (0≤n∧n≤99):=⟨fun h=>by
 refine kf rfl rfl ?_;repeat' first|exact k9|refine k2 ?_|apply kA|apply kI;intro hc|refine k8 ?_|apply kL;intro hl
⟩
abbrev Gv(a b:Int):Nod:=⟨6,⟨0,0,0,0⟩,⟨#[]⟩,a,b,[]⟩
theorem yW(a b:Int):fits (Gv a b) 1=decide (0≤a∧a≤99∧(b=-1∨a≤b∧b≤99)):=by
 show(decide _&&decide _&&decide _&&decide _&&decide _&&(decide _||decide _&&decide _))=_
 by_cases h1:0≤a<;>by_cases h2:a≤99<;>by_cases h3:b=-1<;>by_cases h4:a≤b<;>by_cases h5:b≤99<;>simp[Bts.zero, *]
instance(a b:Int):C 148 [inF a,inF b] (stF ⟨(nL a b).toArray⟩) true (Gv a b).wf:=⟨fun h=>by
 refine kf rfl rfl ?_;repeat' first|exact k9|refine k2 ?_|apply kA|apply kI;intro hc|refine k8 ?_|apply kL;intro hl
 ·rw[yW,decide_eq_true_eq] at hc;have hab:nL a b=if a=0∧b=1 then [63] else if a=0∧b=-1 then [42] else if a=1∧b=-1 then [43] else if a=b then [123]++ed a.toNat++[125] else if b=-1 then [123]++ed a.toNat++[44,125] else [123]++ed a.toNat++[44]++ed b.toNat++[125]:=by rw[nL,if_neg (fun g=>g hc)]
  have ha:(ed a.toNat).length≤2:=lU _;have hb:(ed b.toNat).length≤2:=lU _;apply Stp.on
  repeat' first|exact k9|refine k2 ?_|apply kA|apply kI;intro hc|refine k8 ?_|apply kL;intro hl
  all_goals try apply Stp.on
  all_goals repeat' first|exact k9|refine k2 ?_|apply kA|apply kI;intro hc|refine k8 ?_|apply kL;intro hl
  all_goals try apply Stp.on
  all_goals repeat' first|exact k9|refine k2 ?_|apply kA|apply kI;intro hc|refine k8 ?_|apply kL;intro hl
  all_goals try apply Stp.on
  all_goals repeat' first|exact k9|refine k2 ?_|apply kA|apply kI;intro hc|refine k8 ?_|apply kL;intro hl
  all_goals first
   | exact⟨by simp only[ov,p8,List.length_cons,List.length_nil];omega⟩
   | (
     refine ao.s ?_ rfl
     try simp only[JY]
     rw[hab]
     repeat' first
      | rw[if_pos (by omega)]
      | rw[if_neg (by omega)])
 ·rw[yW,decide_eq_false_iff_not] at hc;refine ao.s ?_ rfl;rw[nL,if_pos hc]⟩
instance(a b:Int):C 143 [byF a,byF b] (boF (cV a b)) true True:=⟨fun h=>by
 refine kf rfl rfl ?_;repeat' first|exact k9|refine k2 ?_|apply kA|apply kI;intro hc|refine k8 ?_|apply kL;intro hl
 all_goals (refine ao.b ?_ rfl;simp[cV,dd, *])⟩
instance(n:Nod):C 142 [.ag (aU n)] (stF ⟨(bg n).toArray⟩) true ((0≤n.kind∧n.kind≤9)∧n.set.wf∧n.text.size≤1000000):=⟨fun h=>by
 obtain⟨h1,h2,h3⟩:=h;obtain⟨kind,set,text,lo,hi,kids⟩:=n;dsimp only at h1 h2 h3;have hk:kind=0∨kind=1∨kind=2∨kind=3∨kind=4∨kind=5∨kind=6∨kind=7∨kind=8∨kind=9:=by omega
 rcases hk with rfl|rfl|rfl|rfl|rfl|rfl|rfl|rfl|rfl|rfl
 all_goals refine kf rfl rfl ?_;repeat' first|exact k9|refine k2 ?_|apply kA|apply kI;intro hc|refine k8 ?_|apply kL;intro hl
 all_goals try exact ao.s rfl rfl
 all_goals exact⟨by have hsz:szS text≤1000000:=h3;simp only[ov,p8,List.length_cons,List.length_nil];omega⟩⟩
instance(n:Nod):C 144 [.ag (aU n)] (stF ⟨(bN n).toArray⟩) true ((0≤n.kind∧n.kind≤9)∧n.wf):=⟨fun h=>by
 obtain⟨h1,h2⟩:=h;have hr:(Gv n.min n.max).wf:=⟨⟨by show(0:Int)≤6;omega,by show(6:Int)≤255;omega⟩,by simp[Bts.wf],by show(0:Nat)≤_;omega,h2.min,h2.max,⟨by simp,by simp⟩⟩
 clear h2;obtain⟨kind,set,text,lo,hi,kids⟩:=n;dsimp only at h1 hr;have hk:kind=0∨kind=1∨kind=2∨kind=3∨kind=4∨kind=5∨kind=6∨kind=7∨kind=8∨kind=9:=by omega
 rcases hk with rfl|rfl|rfl|rfl|rfl|rfl|rfl|rfl|rfl|rfl
 all_goals refine kf rfl rfl ?_;repeat' first|exact k9|refine k2 ?_|apply kA|apply kI;intro hc|refine k8 ?_|apply kL;intro hl
 all_goals exact ao.s rfl rfl⟩
end Go.Km
end
section
namespace Go.aa
open Go
theorem nu{n:Nod}{c:Int}(h:fits n c=true):(0≤n.kind∧n.kind≤9)∧n.text.size≤255:=by
 have e0:n.text=⟨#[]⟩→n.text.size≤255:=fun e=>by rw[e];decide
 have em:gD n.text=true→n.text.size≤255:=fun e=>by
  simp only[gD,Bool.and_eq_true,decide_eq_true_eq] at e;omega
 unfold fits at h
 repeat' split at h
 all_goals try (cases h;done)
 all_goals simp only[Bool.and_eq_true,decide_eq_true_eq,Bool.not_eq_true'] at h
 all_goals refine⟨by omega,?_⟩
 all_goals first
  | exact e0 h.1
  | exact e0 h.1.2
  | exact e0 h.1.1.2
  | exact e0 h.1.1.1
  | exact e0 h.1.1.1.2
  | exact e0 h.1.1.1.1.2
  | exact e0 h.1.1.1.1.1.2
  | exact em h.2
  | omega
def Fo.txt:Int→Bool→Fo→List UInt8
 | _,_,.nil=>[]
 | par,fst,.cons n k r=>(if fst then [] else de par)++((if cV par n.kind then [40] else [])++(bg n++(k.txt n.kind true++(bN n++((if cV par n.kind then [41] else [])++r.txt par false)))))
def iB(t:Tre):List UInt8:=if au t=true then (foT t).txt (-1) true else []
theorem oz(k:Int):(de k).length≤3:=by
 unfold de
 repeat' split
 all_goals simp
theorem BL(a b:Int):(nL a b).length≤7:=by
 have h1:=lU a.toNat;have h2:=lU b.toNat;unfold nL
 repeat' split
 all_goals try simp only[List.length_append,List.length_cons,List.length_nil]
 all_goals omega
theorem lA(n:Nod):(bN n).length≤7:=by
 have h1:=BL n.min n.max;unfold bN
 repeat' split
 all_goals try simp only[List.length_cons,List.length_nil]
 all_goals omega
theorem Hi(s:ByteArray):(DY s).length≤4 * s.size+2:=by
 have h:=mV ⟨#[34]⟩ s.data.toList;have e:s.data.toList.length=s.size:=by rw[Array.length_toList];rfl
 rw[e] at h;simp only[DY,List.length_append,List.length_cons,List.length_nil];omega
theorem tR{n:Nod}(h:n.text.size≤255):(bg n).length≤3000:=by
 have h1:=Hi n.text;have h2:=Bt n.set;have h3:n.text.data.toList.length=n.text.size:=by rw[Array.length_toList];rfl
 unfold bg
 repeat' split
 all_goals try simp only[List.length_append,List.length_cons,List.length_nil]
 all_goals omega
theorem rE:∀(F:Fo) (par:Int) (fst:Bool),F.fit=true→(F.txt par fst).length≤3020 * F.size
 | .nil,_,_,_=>by simp[Fo.txt]
 | .cons n k r,par,fst,h=>by
  simp only[Fo.fit,Bool.and_eq_true] at h;have h1:=rE k n.kind true h.1.2;have h2:=rE r par false h.2;have h3:=tR (nu h.1.1).2;have h4:=lA n;have h5:=oz par;simp only[Fo.txt,List.length_append,Fo.size];have h6:(if fst=true then [] else de par).length≤3:=by
   split
   ·simp
   ·exact h5
  have h7:(if cV par n.kind=true then ([40]:List UInt8) else []).length≤1:=by split<;>simp
  have h8:(if cV par n.kind=true then ([41]:List UInt8) else []).length≤1:=by split<;>simp
  omega
theorem ML{s:ByteArray}(h:¬s=⟨#[]⟩):s.data.toList≠[]:=fun e=>h (by
 apply ByteArray.ext;apply Array.ext';exact e)
theorem Ef(s:Bts):iP s≠[]:=by
 unfold iP
 split<;>simp
theorem Hy:∀(F:Fo) (par:Int) (fst:Bool),F.fit=true→F≠.nil→F.txt par fst≠[]
 | .nil,_,_,_,h=>(h rfl).elim
 | .cons n k r,par,fst,h,_=>by
  simp only[Fo.fit,Bool.and_eq_true] at h;obtain⟨⟨h1,h2⟩,_⟩:=h;have hk:=(nu h1).1;have key:bg n≠[]∨k.txt n.kind true≠[]:=by
   by_cases h02:n.kind=0∨n.kind=2
   ·exact .inl (by rw[bg,if_pos h02];simp[DY])
   by_cases h01:n.kind=1
   ·exact .inl (by rw[bg,if_neg h02,if_pos h01];exact Ef _)
   by_cases h03:n.kind=3
   ·refine .inl ?_;rw[bg,if_neg h02,if_neg h01,if_pos h03];have e:gD n.text=true:=by
     unfold fits at h1;rw[if_neg (by omega),if_neg h01,if_neg (by omega),if_pos h03,Bool.and_eq_true] at h1;exact h1.2
    refine ML fun e0=>?_;rw[e0] at e
    revert e
    decide
   ·refine .inr (Hy k _ _ h2 fun e0=>?_);subst e0;unfold fits at h1;rw[if_neg (by omega),if_neg h01,if_neg (by omega),if_neg h03] at h1;simp[Fo.len] at h1
  intro e;simp only[Fo.txt,List.append_eq_nil_iff] at e;rcases key with h|h
  ·exact h e.2.2.1
  ·exact h e.2.2.2.1
abbrev Opn:=Int×Nat×Bool
abbrev mZ(ns:List Nod)(k:Int):Nod:=ns.getD k.toNat .zero
def wz(ns:List Nod)(o:Opn):List UInt8:=if o.2.1=0 then (if o.2.2 then [40] else [])++bg (mZ ns o.1) else []
def cO(ns:List Nod)(o:Opn):List UInt8:=
 wz ns o++((aE ns ns.length ((ae ns o.1).drop o.2.1)).txt (mZ ns o.1).kind (o.2.1==0)++(bN (mZ ns o.1)++(if o.2.2 then [41] else [])))
def o3(ns:List Nod)(l:List Opn):List UInt8:=l.reverse.flatMap (cO ns)
theorem mU(ns:List Nod)(l:List Opn)(o:Opn):o3 ns (l++[o])=cO ns o++o3 ns l:=by simp[o3]
theorem uZ{ns:List Nod}{o:Opn}(h:o.2.1=(ae ns o.1).length):cO ns o=wz ns o++(bN (mZ ns o.1)++(if o.2.2 then [41] else [])):=by
 rw[cO,h,List.drop_length,ay];rfl
theorem tN{ns:List Nod}(hk:KOk ns){o:Opn}(h0:0≤o.1)(h1:o.1<ns.length)(h:o.2.1<(ae ns o.1).length)(c:Int)(hc:(ae ns o.1)[o.2.1]=c) :
  cO ns o=wz ns o++((if o.2.1=0 then [] else de (mZ ns o.1).kind)++(cO ns (c,0,cV (mZ ns o.1).kind (mZ ns c).kind)++cO ns (o.1,o.2.1+1,o.2.2))):=by
 have hch:=hk.ae;have hcm:=hch o.1 c (by rw[←hc];exact List.getElem_mem h);have e1:(ae ns o.1).drop o.2.1=c :: (ae ns o.1).drop (o.2.1+1):=by rw[List.drop_eq_getElem_cons h,hc]
 obtain⟨N,hN⟩:∃N,ns.length=N+1:=⟨ns.length - 1,by omega⟩
 have e2:aE ns N (ae ns c)=aE ns (N+1) (ae ns c):=dQ hch N (N+1) _ (fun x hx=>⟨(hch c x hx).1,by have:=(hch c x hx).2;omega⟩) (fun x hx=>by have:=(hch c x hx).2;omega);have e3:∀x:List Opn,x=[]→(o.2.1+1==0)=false:=fun _ _=>by simp
 have e3:=e3 [] rfl;simp only[cO,e1,hN,aL,Fo.txt,e2,List.drop_zero,wz,e3];have d1:(dat ns c).kind=(mZ ns c).kind:=rfl;have d2:bg (dat ns c)=bg (mZ ns c):=rfl;have d3:bN (dat ns c)=bN (mZ ns c):=rfl;rw[d1,d2,d3]
 by_cases hz:o.2.1=0
 ·simp[hz]
 ·simp[hz]
def gu(ns:List Nod)(o:Opn):Nat:=2 * (aE ns ns.length ((ae ns o.1).drop o.2.1)).size+1
def gv(ns:List Nod)(l:List Opn):Nat:=(l.map (gu ns)).sum
theorem iu(ns:List Nod)(l:List Opn)(o:Opn):gv ns (l++[o])=gu ns o+gv ns l:=by simp[gv];omega
theorem BS{ns:List Nod}(hk:KOk ns){o:Opn}(h0:0≤o.1)(h1:o.1<ns.length)(h:o.2.1<(ae ns o.1).length)(c:Int)(hc:(ae ns o.1)[o.2.1]=c)(b:Bool) :
  gu ns (c,0,b)+gu ns (o.1,o.2.1+1,o.2.2)<gu ns o:=by
 have hch:=hk.ae;have hcm:=hch o.1 c (by rw[←hc];exact List.getElem_mem h);have e1:(ae ns o.1).drop o.2.1=c :: (ae ns o.1).drop (o.2.1+1):=by rw[List.drop_eq_getElem_cons h,hc]
 obtain⟨N,hN⟩:∃N,ns.length=N+1:=⟨ns.length - 1,by omega⟩
 have e2:aE ns N (ae ns c)=aE ns (N+1) (ae ns c):=dQ hch N (N+1) _ (fun x hx=>⟨(hch c x hx).1,by have:=(hch c x hx).2;omega⟩) (fun x hx=>by have:=(hch c x hx).2;omega);simp only[gu,e1,hN,aL,Fo.size,e2,List.drop_zero];omega
theorem ju{ns:List Nod}{k:Int}(h:k.toNat<ns.length):mZ ns k=ns[k.toNat]:=by
 rw[mZ,List.getD_eq_getElem?_getD,List.getElem?_eq_getElem h];rfl
theorem n7{ns:List Nod}{k:Int}(h0:0≤k)(h:k.toNat<ns.length):ae ns k=(ns[k.toNat]).kids:=by
 have:=aI (List.getElem?_eq_getElem h);rw[Int.toNat_of_nonneg h0] at this;exact this.symm
section
variable {ns:List Nod} (hk:KOk ns) {k:Int} (h0:0≤k) (h1:k.toNat<ns.length) {b:Bool} {j:Nat}
include hk h0 h1
theorem tl(hj:0<(ns[k.toNat]).kids.length){c:Int}(hc:(ns[k.toNat]).kids[0]=c)(hcl:c.toNat<ns.length) :
  cO ns (k,0,b)=(if b then [40] else [])++(bg (ns[k.toNat])++(cO ns (c,0,cV (ns[k.toNat]).kind (ns[c.toNat]).kind)++cO ns (k,1,b))):=by
 have e:=n7 h0 h1;rw[tN hk (o:=(k,0,b)) h0 (by dsimp only;omega) (by dsimp only;rw[e];exact hj) c (by simp only[e];exact hc)];simp only[wz,if_true,List.nil_append,ju h1,ju hcl,List.append_assoc,Nat.zero_add]
theorem AR(h:0<j)(hj:j<(ns[k.toNat]).kids.length){c:Int}(hc:(ns[k.toNat]).kids[j]=c)(hcl:c.toNat<ns.length) :
  cO ns (k,j,b)=de (ns[k.toNat]).kind++(cO ns (c,0,cV (ns[k.toNat]).kind (ns[c.toNat]).kind)++cO ns (k,j+1,b)):=by
 have e:=n7 h0 h1;have hne:¬j=0:=by omega
 rw[tN hk (o:=(k,j,b)) h0 (by dsimp only;omega) (by dsimp only;rw[e];exact hj) c (by simp only[e];exact hc)];simp only[wz,if_neg hne,List.nil_append,ju h1,ju hcl]
omit hk in
theorem vR(hj:(ns[k.toNat]).kids.length=0):cO ns (k,0,b)=(if b then [40] else [])++(bg (ns[k.toNat])++(bN (ns[k.toNat])++(if b then [41] else []))):=by
 have e:=n7 h0 h1;rw[uZ (by simp only[e,hj])];simp only[wz,if_true,ju h1,List.append_assoc]
omit hk in
theorem EO(h:0<j)(hj:(ns[k.toNat]).kids.length=j):cO ns (k,j,b)=bN (ns[k.toNat])++(if b then [41] else []):=by
 have e:=n7 h0 h1;have hne:¬j=0:=by omega
 rw[uZ (by simp only[e,hj])];simp only[wz,if_neg hne,ju h1,List.nil_append]
theorem u7(hj:j<(ns[k.toNat]).kids.length){c:Int}(hc:(ns[k.toNat]).kids[j]=c)(w:Bool):gu ns (c,0,w)+gu ns (k,j+1,b)<gu ns (k,j,b):=by
 have e:=n7 h0 h1;exact BS hk (o:=(k,j,b)) h0 (by dsimp only;omega) (by dsimp only;rw[e];exact hj) c (by simp only[e];exact hc) w
end
theorem z7(ns:List Nod)(o:Opn):0<gu ns o:=by unfold gu;omega
theorem Ek{t:Tre}(h:aC t):(foT t).txt (-1) true=cO t.nodes (t.root,0,false):=by
 obtain⟨h0,h1⟩:=h.root;have hch:=h.kok.ae;obtain⟨N,hN⟩:∃N,t.nodes.length=N+1:=⟨t.nodes.length - 1,by omega⟩
 have e2:aE t.nodes N (ae t.nodes t.root)=aE t.nodes (N+1) (ae t.nodes t.root):=dQ hch N (N+1) _ (fun x hx=>⟨(hch _ x hx).1,by have:=(hch _ x hx).2;omega⟩) (fun x hx=>by have:=(hch _ x hx).2;omega);have d1:(dat t.nodes t.root).kind=(mZ t.nodes t.root).kind:=rfl;have d2:bg (dat t.nodes t.root)=bg (mZ t.nodes t.root):=rfl;have d3:bN (dat t.nodes t.root)=bN (mZ t.nodes t.root):=rfl;have hw:∀x,cV (-1) x=false:=fun x=>by simp[cV]
 simp only[foT,hN,aL,ay,Fo.txt,cO,wz,e2,d1,d2,d3,hw,List.drop_zero,if_true,List.nil_append,List.append_nil];simp
theorem wk{t:Tre}(h:aC t):(foT t).fit=true:=by
 obtain⟨n,k,e,_,hf⟩:=fH h;rw[e];exact hf
theorem K4{t:Tre}(h:aC t):foT t≠.nil:=by
 obtain⟨n,k,e,_⟩:=fH h;rw[e];simp
theorem uG(ns:List Nod):∀l:List Opn,l.length≤gv ns l
 | []=>by simp
 | o :: l=>by
  have h1:=uG ns l;have h2:=z7 ns o;simp only[gv,List.map_cons,List.sum_cons,List.length_cons] at h1 ⊢;omega
theorem DQ{t:Tre}(h:aC t):gu t.nodes (t.root,0,false)<2 * t.nodes.length:=by
 obtain⟨h0,h1⟩:=h.root;have hch:=h.kok.ae;have hs:=gF h;obtain⟨N,hN⟩:∃N,t.nodes.length=N+1:=⟨t.nodes.length - 1,by omega⟩
 have e2:aE t.nodes N (ae t.nodes t.root)=aE t.nodes (N+1) (ae t.nodes t.root):=dQ hch N (N+1) _ (fun x hx=>⟨(hch _ x hx).1,by have:=(hch _ x hx).2;omega⟩) (fun x hx=>by have:=(hch _ x hx).2;omega);rw[foT,hN,aL,ay,e2] at hs;simp only[Fo.size] at hs;simp only[gu,List.drop_zero,hN];omega
end Go.aa
end
section
namespace Go.Km
open Go Go.Vc Go.Proofs Go.aa Go.Proofs.YtoklkjkmbfebjaaGreatDoor
set_option maxRecDepth 100000
set_option maxHeartbeats 0
def opR:Opn→List F
 | (k,j,b)=>[inF k,inF (j:Int),boF b]
instance(priority:=high){α:Type}{f:α→List F}{S:List α}{x:α}{k:List F→Prop}:Arm (zp ((S++[x]).map f)[((((S++[x]).map f).length:Int) - 1).toNat]? k) (k (f x)):=⟨fun h=>by
 have e:((S++[x]).map f)[((((S++[x]).map f).length:Int) - 1).toNat]?=some (f x):=by simp
 rw[e];exact h⟩
theorem K8{α:Type}(S:List α)(a b:α):S++[a,b]=S++[a]++[b]:=by simp
theorem bl2{h:List (Nat×B)}(bs:List (List F)){r1 r2:List (List F)}(e:r1=r2):iW [(2,B.ro 0 5 1 bs),(3,B.ro 0 204 3 r1)] h=iW [(2,B.ro 0 5 1 bs),(3,B.ro 0 204 3 r2)] h:=by rw[e]
theorem Em{cs:List F}{kind:Int}{k:F→Prop}(hP:∀i:Nat,i<10→cs[0+i * 3+1]?=some (stF ⟨(de i).toArray⟩))(h:0≤kind∧kind≤9)(hk:k (stF ⟨(de kind).toArray⟩)):ExK cs[0+kind.toNat * 3+1]? k:=by
 refine⟨_,hP kind.toNat (by omega),?_⟩;rw[Int.toNat_of_nonneg h.1];exact hk
theorem NK{p:Nat→Prop}(h0:p 0)(h1:p 1)(h2:p 2)(h3:p 3)(h4:p 4)(h5:p 5)(h6:p 6)(h7:p 7)(h8:p 8)(h9:p 9):∀i,i<10→p i:=by
 intro i hi;have:i=0∨i=1∨i=2∨i=3∨i=4∨i=5∨i=6∨i=7∨i=8∨i=9:=by omega
 rcases this with rfl|rfl|rfl|rfl|rfl|rfl|rfl|rfl|rfl|rfl<;>assumption
theorem DN{α:Type}(f:α→List F)(S:List α)(x:α):((S++[x]).map f).take ((((S++[x]).map f).length:Int) - 1).toNat=S.map f:=by
 have e:((((S++[x]).map f).length:Int) - 1).toNat=(S.map f).length:=by simp
 rw[e,List.map_append,List.take_left]
theorem FB{α:Type}(f:α→List F)(S:List α)(x:α)(r:List F):((S++[x]).map f).set ((((S++[x]).map f).length:Int) - 1).toNat r=S.map f++[r]:=by
 have e:((((S++[x]).map f).length:Int) - 1).toNat=(S.map f).length:=by simp
 rw[e,List.map_append,List.map_singleton,List.set_append_right _ _ (Nat.le_refl _),Nat.sub_self];rfl
instance(t:Tre):C 137 [az t] (stF ⟨(iB t).toArray⟩) true (t.wf∧t.nodes.length≤100000):=⟨fun h=>by
 obtain⟨hw,hlen⟩:=h
 by_cases hr:au t=true
 ·have hR:=aq hr;obtain⟨hr0,hr1⟩:=hR.root;have e:iB t=(foT t).txt (-1) true:=by rw[iB,if_pos hr]
  rw[e];clear e;have hT:=rE (foT t) (-1) true (wk hR);have hTn:=Hy (foT t) (-1) true (wk hR) (K4 hR);rw[gF hR] at hT;rw[Ek hR] at hT hTn ⊢;have hrn:t.root.toNat<t.nodes.length:=by omega
  have hfits:∀(k:Nat) (hk:k<t.nodes.length),((0≤t.nodes[k].kind∧t.nodes[k].kind≤9)∧t.nodes[k].set.wf∧t.nodes[k].text.size≤1000000)∧t.nodes[k].wf∧(bg t.nodes[k]).length≤3000:=fun k hk=>by
   obtain⟨h1,h2⟩:=nu (hR.fits _ _ (List.getElem?_eq_getElem hk));have h3:=hw.nodes _ (List.getElem_mem hk);exact⟨⟨h1,h3.set,by omega⟩,h3,tR h2⟩
  have hkids:∀(k j:Nat) (hk:k<t.nodes.length) (hj:j<t.nodes[k].kids.length),0≤t.nodes[k].kids[j]∧(t.nodes[k].kids[j]).toNat<t.nodes.length:=fun k j hk hj=>by
   have:=hR.kok _ _ (List.getElem?_eq_getElem hk) _ (List.getElem_mem hj);omega
  obtain⟨f1,f2,f3⟩:=hfits _ hrn;have f4:=lA (t.nodes[t.root.toNat]);obtain⟨T,hTe⟩:=exEq (cO t.nodes (t.root,0,false));rw[←hTe] at hT hTn ⊢
  by_cases hj:0<(t.nodes[t.root.toNat]).kids.length
  ·obtain⟨c1,c2⟩:=hkids _ 0 hrn hj;have e:=tl hR.kok hr0 hrn (b:=false) hj rfl c2;rw[←hTe] at e;have g1:([]++(⟨(bg t.nodes[t.root.toNat]).toArray⟩:ByteArray).data.toList).length≤1000000000:=by simp;omega
   have g2:(⟨(bg t.nodes[t.root.toNat]).toArray⟩:ByteArray).size≤1000000000:=by show(bg t.nodes[t.root.toNat]).toArray.size≤_;simp;omega
   refine kf rfl rfl ?_;repeat' first|exact k9|refine k2 ?_|apply kA|apply kI;intro hc|refine k8 ?_|apply kL;intro hl
   apply kCt [1,3,4] [];conv=>whnf
   have hl0:=DQ hR;have hl1:gu t.nodes (t.nodes[t.root.toNat].kids[0],0,cV t.nodes[t.root.toNat].kind t.nodes[(t.nodes[t.root.toNat].kids[0]).toNat].kind)+gu t.nodes (t.root,1,false)<_:=u7 hR.kok hr0 hrn (b:=false) (j:=0) hj rfl (cV t.nodes[t.root.toNat].kind t.nodes[(t.nodes[t.root.toNat].kids[0]).toNat].kind);refine Lp.ind (fun z:List UInt8×List Opn=>gv t.nodes z.2) (fun z=>z.2≠[]∧(∀o∈z.2,0≤o.1∧∃h:o.1.toNat<t.nodes.length,o.2.1≤(t.nodes[o.1.toNat]'h).kids.length)∧z.1++o3 t.nodes z.2=T∧gv t.nodes z.2≤300000) (fun _=>[]) (fun z=>[(2,.ro 0 5 1 (z.1.map byR)),(3,.ro 0 204 3 (z.2.map opR))]) (fun _=>_)
    (bg t.nodes[t.root.toNat],[(t.root,1,false),(t.nodes[t.root.toNat].kids[0],0,cV t.nodes[t.root.toNat].kind t.nodes[(t.nodes[t.root.toNat].kids[0]).toNat].kind)]) ⟨by simp,?_,?_,?_⟩ rfl rfl rfl ?_
   ·intro o ho;simp only[List.mem_cons,List.not_mem_nil,or_false] at ho;rcases ho with rfl|rfl
    ·exact⟨hr0,hrn,hj⟩
    ·exact⟨c1,c2,Nat.zero_le _⟩
   ·rw[e];simp[o3]
   ·simp only[gv,List.map_cons,List.map_nil,List.sum_cons,List.sum_nil];omega
   rintro G ⟨w,st⟩ ih ⟨hne,hin,hwT,hleft⟩
   dsimp only at hne hin hwT hleft ih ⊢;rcases bm st with rfl|⟨S,⟨k,j,b⟩,rfl⟩
   ·exact(hne rfl).elim
   obtain⟨h0,hkn,hjl⟩:=hin (k,j,b) (by simp);dsimp only at h0 hkn hjl;obtain⟨f1,f2,f3⟩:=hfits _ hkn;have f4:=lA (t.nodes[k.toNat]);have f5:=oz (t.nodes[k.toNat]).kind;rw[mU] at hwT;rw[iu] at hleft;have hlen:=uG t.nodes S;have hwl:w.length≤T.length:=by rw[←hwT,List.length_append];omega
   have hsl:S.length≤300000:=by omega
   have hkl:(t.nodes[k.toNat]).kids.length≤1000000000000000:=Nat.le_trans f2.kids.1 (by decide);have ga:(⟨(bg t.nodes[k.toNat]).toArray⟩:ByteArray).size≤1000000000:=by show(bg t.nodes[k.toNat]).toArray.size≤_;simp;omega
   have gb:(⟨(bN t.nodes[k.toNat]).toArray⟩:ByteArray).size≤1000000000:=by show(bN t.nodes[k.toNat]).toArray.size≤_;simp;omega
   have gc:(⟨(de t.nodes[k.toNat].kind).toArray⟩:ByteArray).size≤1000000000:=by show(de t.nodes[k.toNat].kind).toArray.size≤_;simp;omega
   have hinS:∀o∈S,0≤o.1∧∃h:o.1.toNat<t.nodes.length,o.2.1≤(t.nodes[o.1.toNat]'h).kids.length:=fun o ho=>hin o (by simp[ho])
   rcases Nat.lt_or_ge j (t.nodes[k.toNat]).kids.length with hjk|hjk
   ·obtain⟨c1,c2⟩:=hkids _ j hkn hjk;obtain⟨c,hce⟩:=exEq ((t.nodes[k.toNat]).kids[j]);have hl2:=u7 hR.kok h0 hkn (b:=b) hjk rfl (cV t.nodes[k.toNat].kind (t.nodes[((t.nodes[k.toNat]).kids[j]).toNat]).kind);have hfin:∀w',w'++(cO t.nodes ((t.nodes[k.toNat]).kids[j],0,cV t.nodes[k.toNat].kind (t.nodes[((t.nodes[k.toNat]).kids[j]).toNat]).kind)++cO t.nodes (k,j+1,b))=w++cO t.nodes (k,j,b)→(let z:List UInt8×List Opn:=(w',S++[(k,j+1,b),((t.nodes[k.toNat]).kids[j],0,cV t.nodes[k.toNat].kind (t.nodes[((t.nodes[k.toNat]).kids[j]).toNat]).kind)])
      gv t.nodes z.2<gv t.nodes (S++[(k,j,b)])∧(z.2≠[]∧(∀o∈z.2,0≤o.1∧∃h:o.1.toNat<t.nodes.length,o.2.1≤(t.nodes[o.1.toNat]'h).kids.length)∧z.1++o3 t.nodes z.2=T∧gv t.nodes z.2≤300000)):=by
     intro w' hw';have el:gv t.nodes (S++[(k,j+1,b),((t.nodes[k.toNat]).kids[j],0,cV t.nodes[k.toNat].kind (t.nodes[((t.nodes[k.toNat]).kids[j]).toNat]).kind)])<gu t.nodes (k,j,b)+gv t.nodes S:=by
      rw[K8,iu,iu];omega
     refine⟨?_,by simp,?_,?_,?_⟩
     ·rw[iu];exact el
     ·intro o ho;simp only[List.mem_append,List.mem_cons,List.not_mem_nil,or_false] at ho;rcases ho with ho|rfl|rfl
      ·exact hinS o ho
      ·exact⟨h0,hkn,hjk⟩
      ·exact⟨c1,c2,Nat.zero_le _⟩
     ·have q:=congrArg (·++o3 t.nodes S) hw';dsimp only at q ⊢;rw[←hwT,K8,mU,mU];simpa only[List.append_assoc] using q
     ·exact Nat.le_of_lt (Nat.lt_of_lt_of_le el hleft)
    have hrow:∀x:Int,x=((j+1:Nat):Int)→((S++[(k,j,b)]).map opR).set ((((S++[(k,j,b)]).map opR).length:Int) - 1).toNat (setAt (opR (k,j,b)) 1 [inF x])++[opR ((t.nodes[k.toNat]).kids[j],0,cV t.nodes[k.toNat].kind (t.nodes[((t.nodes[k.toNat]).kids[j]).toNat]).kind)]=(S++[(k,j+1,b),((t.nodes[k.toNat]).kids[j],0,cV t.nodes[k.toNat].kind (t.nodes[((t.nodes[k.toNat]).kids[j]).toNat]).kind)]).map opR:=fun x hx=>by
     subst hx;rw[FB,K8,List.map_append,List.map_append];rfl
    rcases Nat.eq_zero_or_pos j with hj0|hj0
    ·subst hj0;have he:=tl hR.kok h0 hkn (b:=b) hjk rfl c2
     cases b with
     | false=>
      simp only[Bool.false_eq_true,if_true,if_false,List.nil_append] at he
      repeat' first|exact k9|refine k2 ?_|apply kA|apply kI;intro hc|refine k8 ?_|apply kL;intro hl
      all_goals try exact⟨⟨ga,by simp only[List.length_append,List.length_cons,List.length_nil];omega⟩⟩
      apply kCt [1,3,4] [];conv=>whnf
      obtain⟨q1,q2⟩:=hfin (w++(⟨(bg t.nodes[k.toNat]).toArray⟩:ByteArray).data.toList) (by rw[he];simp only[List.append_assoc];try rfl);exact ih _ _ _ _ q1 q2 rfl rfl (bl2 (h:=G.h) ((w++(⟨(bg t.nodes[k.toNat]).toArray⟩:ByteArray).data.toList).map byR) (hrow _ rfl))
     | true=>
      simp only[if_true,if_false,List.nil_append] at he
      repeat' first|exact k9|refine k2 ?_|apply kA|apply kI;intro hc|refine k8 ?_|apply kL;intro hl
      all_goals try exact⟨⟨ga,by simp only[List.length_append,List.length_cons,List.length_nil];omega⟩⟩
      apply kCt [1,3,4] [];conv=>whnf
      obtain⟨q1,q2⟩:=hfin (w++[UInt8.ofNat (Int.toNat 40)]++(⟨(bg t.nodes[k.toNat]).toArray⟩:ByteArray).data.toList) (by rw[he];simp only[List.append_assoc];try rfl);exact ih _ _ _ _ q1 q2 rfl rfl (bl2 (h:=G.h) ((w++[UInt8.ofNat (Int.toNat 40)]++(⟨(bg t.nodes[k.toNat]).toArray⟩:ByteArray).data.toList).map byR) (hrow _ rfl))
    ·have he:=AR hR.kok h0 hkn (b:=b) hj0 hjk rfl c2;have hj0':(0:Int)<(j:Int):=by omega
     repeat' first|exact k9|refine k2 ?_|apply kA|apply kI;intro hc|(((refine Em (NK rfl rfl rfl rfl rfl rfl rfl rfl rfl rfl) f1.1 ?_))<;>conv=>whnf)|refine k8 ?_|apply kL;intro hl
     apply kCt [1,3,4] [];conv=>whnf
     obtain⟨q1,q2⟩:=hfin (w++(⟨(de t.nodes[k.toNat].kind).toArray⟩:ByteArray).data.toList) (by rw[he];simp only[List.append_assoc];try rfl);exact ih _ _ _ _ q1 q2 rfl rfl (bl2 (h:=G.h) ((w++(⟨(de t.nodes[k.toNat].kind).toArray⟩:ByteArray).data.toList).map byR) (hrow _ rfl))
   ·have hjk:(t.nodes[k.toNat]).kids.length=j:=by omega
    have hfin:∀w',w'=w++cO t.nodes (k,j,b)→S≠[]→(let z:List UInt8×List Opn:=(w',S)
      gv t.nodes z.2<gv t.nodes (S++[(k,j,b)])∧(z.2≠[]∧(∀o∈z.2,0≤o.1∧∃h:o.1.toNat<t.nodes.length,o.2.1≤(t.nodes[o.1.toNat]'h).kids.length)∧z.1++o3 t.nodes z.2=T∧gv t.nodes z.2≤300000)):=by
     intro w' hw' hS;have:=z7 t.nodes (k,j,b);refine⟨by rw[iu];dsimp only;omega,hS,hinS,?_,by dsimp only;omega⟩;dsimp only;rw[hw',List.append_assoc,hwT]
    have hend:S=[]→w++cO t.nodes (k,j,b)=T:=fun e=>by
     rw[←hwT,e];simp[o3]
    have htk:=DN opR S (k,j,b);have gf:(0≤t.nodes[k.toNat].kind∧t.nodes[k.toNat].kind≤9)∧t.nodes[k.toNat].wf:=⟨f1.1,f2⟩
    rcases Nat.eq_zero_or_pos j with hj0|hj0
    ·subst hj0;have he:=vR h0 hkn (b:=b) hjk
     cases b with
     | false=>
      simp only[Bool.false_eq_true,if_true,if_false,List.nil_append,List.append_nil] at he;have hW:w++(⟨(bg t.nodes[k.toNat]).toArray⟩:ByteArray).data.toList++(⟨(bN t.nodes[k.toNat]).toArray⟩:ByteArray).data.toList=w++cO t.nodes (k,0,false):=by rw[he];simp only[List.append_assoc];try rfl
      rcases bm S with rfl|⟨S',s',rfl⟩
      ·rw[hend rfl] at hW
       repeat' first|exact k9|refine k2 ?_|apply kA|apply kI;intro hc|refine k8 ?_|apply kL;intro hl
       all_goals first
        | (rw[hW];exact⟨⟨hTn,by omega⟩⟩)
        | (rw[hW];exact ao.s rfl rfl)
        | exact⟨⟨gb,by simp only[List.length_append,List.length_cons,List.length_nil];omega⟩⟩
        | exact⟨⟨ga,by simp only[List.length_append,List.length_cons,List.length_nil];omega⟩⟩
      ·simp only[List.length_append,List.length_cons,List.length_nil] at hsl
       repeat' first|exact k9|refine k2 ?_|apply kA|apply kI;intro hc|refine k8 ?_|apply kL;intro hl
       all_goals try exact⟨⟨gb,by simp only[List.length_append,List.length_cons,List.length_nil];omega⟩⟩
       refine Stp.lC 4 204 3 (by rfl) (by rfl) htk ?_;apply kCt [1,3,4] [];conv=>whnf
       obtain⟨q1,q2⟩:=hfin _ hW (by simp);exact ih _ _ _ _ q1 q2 rfl rfl rfl
     | true=>
      simp only[if_true,if_false,List.nil_append,List.append_nil] at he;have hW:w++[UInt8.ofNat (Int.toNat 40)]++(⟨(bg t.nodes[k.toNat]).toArray⟩:ByteArray).data.toList++(⟨(bN t.nodes[k.toNat]).toArray⟩:ByteArray).data.toList++[UInt8.ofNat (Int.toNat 41)]=w++cO t.nodes (k,0,true):=by rw[he];simp only[List.append_assoc];try rfl
      rcases bm S with rfl|⟨S',s',rfl⟩
      ·rw[hend rfl] at hW
       repeat' first|exact k9|refine k2 ?_|apply kA|apply kI;intro hc|refine k8 ?_|apply kL;intro hl
       all_goals first
        | (rw[hW];exact⟨⟨hTn,by omega⟩⟩)
        | (rw[hW];exact ao.s rfl rfl)
        | exact⟨⟨gb,by simp only[List.length_append,List.length_cons,List.length_nil];omega⟩⟩
        | exact⟨⟨ga,by simp only[List.length_append,List.length_cons,List.length_nil];omega⟩⟩
      ·simp only[List.length_append,List.length_cons,List.length_nil] at hsl
       repeat' first|exact k9|refine k2 ?_|apply kA|apply kI;intro hc|refine k8 ?_|apply kL;intro hl
       all_goals try exact⟨⟨gb,by simp only[List.length_append,List.length_cons,List.length_nil];omega⟩⟩
       refine Stp.lC 4 204 3 (by rfl) (by rfl) htk ?_;apply kCt [1,3,4] [];conv=>whnf
       obtain⟨q1,q2⟩:=hfin _ hW (by simp);exact ih _ _ _ _ q1 q2 rfl rfl rfl
    ·have he:=EO h0 hkn (b:=b) hj0 hjk;have hj0':(0:Int)<(j:Int):=by omega
     cases b with
     | false=>
      simp only[Bool.false_eq_true,if_true,if_false,List.nil_append,List.append_nil] at he;have hW:w++(⟨(bN t.nodes[k.toNat]).toArray⟩:ByteArray).data.toList=w++cO t.nodes (k,j,false):=by rw[he];(try simp only[List.append_assoc]);(try rfl)
      rcases bm S with rfl|⟨S',s',rfl⟩
      ·rw[hend rfl] at hW
       repeat' first|exact k9|refine k2 ?_|apply kA|apply kI;intro hc|refine k8 ?_|apply kL;intro hl
       all_goals first
        | (rw[hW];exact⟨⟨hTn,by omega⟩⟩)
        | (rw[hW];exact ao.s rfl rfl)
        | exact⟨⟨gb,by simp only[List.length_append,List.length_cons,List.length_nil];omega⟩⟩
        | exact⟨⟨ga,by simp only[List.length_append,List.length_cons,List.length_nil];omega⟩⟩
      ·simp only[List.length_append,List.length_cons,List.length_nil] at hsl
       repeat' first|exact k9|refine k2 ?_|apply kA|apply kI;intro hc|refine k8 ?_|apply kL;intro hl
       all_goals try exact⟨⟨gb,by simp only[List.length_append,List.length_cons,List.length_nil];omega⟩⟩
       refine Stp.lC 4 204 3 (by rfl) (by rfl) htk ?_;apply kCt [1,3,4] [];conv=>whnf
       obtain⟨q1,q2⟩:=hfin _ hW (by simp);exact ih _ _ _ _ q1 q2 rfl rfl rfl
     | true=>
      simp only[if_true,if_false,List.nil_append,List.append_nil] at he;have hW:w++(⟨(bN t.nodes[k.toNat]).toArray⟩:ByteArray).data.toList++[UInt8.ofNat (Int.toNat 41)]=w++cO t.nodes (k,j,true):=by rw[he];(try simp only[List.append_assoc]);(try rfl)
      rcases bm S with rfl|⟨S',s',rfl⟩
      ·rw[hend rfl] at hW
       repeat' first|exact k9|refine k2 ?_|apply kA|apply kI;intro hc|refine k8 ?_|apply kL;intro hl
       all_goals first
        | (rw[hW];exact⟨⟨hTn,by omega⟩⟩)
        | (rw[hW];exact ao.s rfl rfl)
        | exact⟨⟨gb,by simp only[List.length_append,List.length_cons,List.length_nil];omega⟩⟩
        | exact⟨⟨ga,by simp only[List.length_append,List.length_cons,List.length_nil];omega⟩⟩
      ·simp only[List.length_append,List.length_cons,List.length_nil] at hsl
       repeat' first|exact k9|refine k2 ?_|apply kA|apply kI;intro hc|refine k8 ?_|apply kL;intro hl
       all_goals try exact⟨⟨gb,by simp only[List.length_append,List.length_cons,List.length_nil];omega⟩⟩
       refine Stp.lC 4 204 3 (by rfl) (by rfl) htk ?_;apply kCt [1,3,4] [];conv=>whnf
       obtain⟨q1,q2⟩:=hfin _ hW (by simp);exact ih _ _ _ _ q1 q2 rfl rfl rfl
  ·have hj0:(t.nodes[t.root.toNat]).kids.length=0:=by omega
   have e:=vR hr0 hrn (b:=false) hj0;rw[←hTe] at e;simp only[Bool.false_eq_true,if_false,List.nil_append,List.append_nil] at e;have g1:([]++(⟨(bg t.nodes[t.root.toNat]).toArray⟩:ByteArray).data.toList).length≤1000000000:=by simp;omega
   have g2:(⟨(bg t.nodes[t.root.toNat]).toArray⟩:ByteArray).size≤1000000000:=by show(bg t.nodes[t.root.toNat]).toArray.size≤_;simp;omega
   have g3:(⟨(bN t.nodes[t.root.toNat]).toArray⟩:ByteArray).size≤1000000000:=by show(bN t.nodes[t.root.toNat]).toArray.size≤_;simp;omega
   have g4:[]++(⟨(bg t.nodes[t.root.toNat]).toArray⟩:ByteArray).data.toList++(⟨(bN t.nodes[t.root.toNat]).toArray⟩:ByteArray).data.toList=T:=e.symm;have g5:T.length≤1000000000:=by omega
   refine kf rfl rfl ?_;repeat' first|exact k9|refine k2 ?_|apply kA|apply kI;intro hc|refine k8 ?_|apply kL;intro hl
   ·exact⟨⟨f1.1,f2⟩⟩
   ·rw[g4];exact⟨⟨hTn,g5⟩⟩
   ·rw[g4];exact ao.s rfl rfl
 ·have e:iB t=[]:=by rw[iB,if_neg hr]
  have hr:au t=false:=by simpa using hr
  rw[e];refine kf rfl rfl ?_;repeat' (first|exact k9|refine k2 ?_|apply kA|apply kI;intro hc|refine k8 ?_|apply kL;intro hl)⟩
end Go.Km
end
section
namespace Go.aa
open Go
structure Dfn where
 name:ByteArray
 body:Tre
deriving DecidableEq
structure Dfn.wf(d:Dfn):Prop where
 name:d.name.size≤140737488355328
 body:d.body.wf
def fT(d:Dfn):List UInt8:=if iB d.body=[]∨gD d.name=false then [] else d.name.data.toList++[32,60,45,32]++iB d.body++[10]
def yS(g:List Dfn):List UInt8:=if (g.all fun d=>!decide (fT d=[]))=true then g.flatMap fT else []
theorem uW{t:Tre}:(iB t).length≤3020 * t.nodes.length:=by
 unfold iB
 split
 ·rename_i h;have hR:=aq h;have:=rE (foT t) (-1) true (wk hR)
  rwa [gF hR] at this
 ·simp
theorem FL{s:ByteArray}(h:gD s=true):s.size≤32:=by
 simp only[gD,Bool.and_eq_true,decide_eq_true_eq] at h;exact h.1.1
theorem yn{d:Dfn}(h:d.body.nodes.length≤1024):(fT d).length≤3100000:=by
 unfold fT
 split
 ·simp
 ·rename_i hn;have h1:gD d.name=true:=by
   cases e:gD d.name with
   | true=>rfl
   | false=>exact(hn (.inr e)).elim
  have h2:=FL h1;have h3:d.name.data.toList.length=d.name.size:=by rw[Array.length_toList];rfl
  have h4:=uW (t:=d.body);simp only[List.length_append,List.length_cons,List.length_nil];omega
end Go.aa
namespace Go.Km
open Go Go.Vc Go.Proofs Go.aa Go.Proofs.YtoklkjkmbfebjaaGreatDoor
set_option maxRecDepth 100000
set_option maxHeartbeats 0
abbrev sN(d:Dfn):List F:=[stF d.name,.sl (d.body.nodes.map aU),inF d.body.root]
instance:kP sN 3:=⟨fun _=>rfl⟩
abbrev bC(g:List Dfn):F:=.ag [.sl (g.map sN)]
instance(d:Dfn):C 130 [.ag (sN d)] (stF ⟨(fT d).toArray⟩) true (d.wf∧d.body.nodes.length≤100000):=⟨fun h=>by
 obtain⟨hw,hl⟩:=h;have hn:=hw.name;have hb:=hw.body;have hp:d.body.wf∧d.body.nodes.length≤100000:=⟨hb,hl⟩
 have hsn:szS d.name≤140737488355328:=hn;have hst:=uW (t:=d.body);have ht0:(⟨(iB d.body).toArray⟩:ByteArray)=⟨#[]⟩↔iB d.body=[]:=⟨fun e=>by simpa using e,fun e=>by rw[e]⟩
 have key1:iB d.body=[]∨gD d.name=false→(⟨(fT d).toArray⟩:ByteArray)=⟨#[]⟩:=fun e=>by rw[fT,if_pos e]
 have key2:iB d.body≠[]→gD d.name=true→(⟨(fT d).toArray⟩:ByteArray)=uq (uq (uq d.name ⟨#[32,60,45,32]⟩) ⟨(iB d.body).toArray⟩) ⟨#[10]⟩:=fun e1 e2=>by
  rw[fT,if_neg (by rintro(h|h);exact e1 h;rw[e2] at h;cases h)];simp[uq]
 refine kf rfl rfl ?_;repeat' first|exact k9|refine k2 ?_|apply kA|apply kI;intro hc|refine k8 ?_|apply kL;intro hl
 ·exact ao.s (key1 (.inl (ht0.1 (by assumption)))).symm rfl
 ·exact⟨by simp only[ov,p8,List.length_cons,List.length_nil];omega⟩
 ·exact⟨by simp only[ov,p8,List.length_cons,List.length_nil];omega⟩
 ·exact⟨by simp only[ov,p8,List.length_cons,List.length_nil];omega⟩
 ·rename_i hc1;exact ao.s (key2 (fun e=>hc1.1 (ht0.2 e)) hc).symm rfl
 ·exact ao.s (key1 (.inr (by assumption))).symm rfl⟩
structure Ii(g:List Dfn):Prop where
 wf:∀d∈g,d.wf
 len:∀d∈g,d.body.nodes.length≤1024
 n:g.length≤200
 pos:0<g.length
theorem zw{g:List Dfn}(h:∀d∈g,d.body.nodes.length≤1024):(g.flatMap fT).length≤3100000 * g.length:=by
 induction g with
 | nil=>simp
 | cons d g ih=>
  have h1:=yn (h d (by simp));have h2:=ih fun x hx=>h x (by simp[hx])
  simp only[List.flatMap_cons,List.length_append,List.length_cons];omega
theorem vD{g:List Dfn}{i:Nat}(h:i<g.length):(g.take (i+1)).flatMap fT=(g.take i).flatMap fT++fT g[i]:=by
 rw[List.take_succ_eq_append_getElem h,List.flatMap_append,List.flatMap_singleton]
instance(g:List Dfn):C 113 [bC g] (stF ⟨(yS g).toArray⟩) true (Ii g):=⟨fun h=>by
 obtain⟨hw,hl,hn,hpos⟩:=h;have hd:∀(i:Nat) (h:i<g.length),g[i].wf∧g[i].body.nodes.length≤100000:=fun i h=>⟨hw _ (List.getElem_mem h),Nat.le_trans (hl _ (List.getElem_mem h)) (by decide)⟩
 have hdl:∀(i:Nat) (h:i<g.length),(⟨(fT g[i]).toArray⟩:ByteArray).size≤1000000000:=fun i h=>by
  have:=yn (hl _ (List.getElem_mem h));show(fT g[i]).toArray.size≤_
  simp;omega
 have he0:∀(i:Nat) (h:i<g.length),((⟨(fT g[i]).toArray⟩:ByteArray)=⟨#[]⟩↔fT g[i]=[]):=fun i h=>⟨fun e=>by simpa using e,fun e=>by rw[e]⟩
 have hbad:∀(i:Nat) (h:i<g.length),fT g[i]=[]→(⟨(yS g).toArray⟩:ByteArray)=⟨#[]⟩:=fun i h e=>by
  rw[yS,if_neg];intro q;have:=List.all_eq_true.1 q _ (List.getElem_mem h);simp[e] at this
 have hpd:=hd 0 hpos;have hps:=hdl 0 hpos;have hfl:=zw hl;have hll:=hl;refine kf rfl rfl ?_;repeat' first|exact k9|refine k2 ?_|apply kA|apply kI;intro hc|refine k8 ?_|apply kL;intro hl
 apply Stp.on
 repeat' first|exact k9|refine k2 ?_|apply kA|apply kI;intro hc|refine k8 ?_|apply kL;intro hl
 ·exact ao.s (hbad 0 hpos ((he0 0 hpos).1 (by assumption))).symm rfl
 have h0:=hc.1;apply kCt [3,8,9,10] [];conv=>whnf
 refine Lp.ind (fun z:Nat=>g.length - z) (fun z=>0<z∧z≤g.length∧∀(i:Nat) (h:i<g.length),i<z→fT g[i]≠[]) (fun z=>[(10,InD z)]) (fun z=>[(1,.ro 0 5 1 (((g.take z).flatMap fT).map byR))]) (fun _=>_) 1 ⟨by omega,hpos,?_⟩ rfl rfl ?_ ?_
 ·intro i h hi;obtain rfl:i=0:=by omega
  exact fun e=>h0 ((he0 0 hpos).2 e)
 ·have e1:(g.take 1).flatMap fT=[]++(⟨(fT g[0]).toArray⟩:ByteArray).data.toList:=by
   rw[vD hpos];simp
  rw[e1];rfl
 rintro G i ih ⟨hi0,hi,hok⟩
 have hlt:((g.take i).flatMap fT).length≤3100000 * g.length:=by
  have:=zw (g:=g.take i) (fun x hx=>hll x (List.mem_of_mem_take hx));rw[List.length_take] at this;omega
 by_cases hx:i<g.length
 ·have hpd:=hd i hx;have hps:=hdl i hx;have hgl:((g.take i).flatMap fT).length≤1000000000:=by omega
  repeat' first|exact k9|refine k2 ?_|apply kA|apply kI;intro hc|refine k8 ?_|apply kL;intro hl
  ·exact ao.s (hbad i hx ((he0 i hx).1 (by assumption))).symm rfl
  have h0:=hc.1;apply kCt [3,8,9,10] [];conv=>whnf
  refine ih (i+1) _ _ _ (by omega) ⟨by omega,by omega,fun j hj hji=>?_⟩ rfl rfl ?_
  ·by_cases hjj:j=i
   ·subst hjj;exact fun e=>h0 ((he0 j hj).2 e)
   ·exact hok j hj (by omega)
  ·rw[vD hx];rfl
 ·obtain rfl:i=g.length:=by omega
  rw[List.take_length] at *;have e:yS g=g.flatMap fT:=by
   rw[yS,if_pos];refine List.all_eq_true.2 fun d hd=>?_
   obtain⟨i,hi,rfl⟩:=List.getElem_of_mem hd;simp[hok i hi hi]
  rw[e];have hne:g.flatMap fT≠[]:=fun q=>hok 0 hpos hpos (List.flatMap_eq_nil_iff.1 q _ (List.getElem_mem hpos))
  repeat' first|exact k9|refine k2 ?_|apply kA|apply kI;intro hc|refine k8 ?_|apply kL;intro hl
  ·exact⟨⟨hne,by omega⟩⟩
  all_goals exact ao.s rfl rfl⟩
instance(g:List Dfn):C 97 [bC g] (inF ((yS g).length:Int)) true (Ii g):=⟨fun h=>by
 refine kf rfl rfl ?_;repeat' first|exact k9|refine k2 ?_|apply kA|apply kI;intro hc|refine k8 ?_|apply kL;intro hl
 exact ao.n (by rw[p8]) rfl⟩
end Go.Km
end
section
namespace Go.aa
open Go
def bU(g:List Dfn)(s:ByteArray):Option Nat:=g.findIdx? fun d=>decide (d.name=s)
def o8(g:List Dfn)(s:ByteArray):Int:=match bU g s with
 | some i=>(i:Int)
 | none=>-1
def fD(g:List Dfn):Int:=(g.map fun d=>sD d.body).sum
def iQ(g:List Dfn):Bool:=decide (64<g.length)||g.any (fun d=>!qY d.body)||decide (1024<fD g)||decide (8192<(yS g).length)
end Go.aa
namespace Go.Km
open Go Go.Vc Go.Proofs Go.aa Go.Proofs.YtoklkjkmbfebjaaGreatDoor
set_option maxRecDepth 100000
set_option maxHeartbeats 0
theorem AP{g:List Dfn}{s:ByteArray}{i:Nat}(h:∀(j:Nat) (hj:j<g.length),j<i→g[j].name≠s)(hi:g.length≤i):o8 g s=-1:=by
 have e:bU g s=none:=by
  rw[bU,List.findIdx?_eq_none_iff];intro d hd;obtain⟨j,hj,rfl⟩:=List.getElem_of_mem hd;simpa using h j hj (by omega)
 rw[o8,e]
theorem E7{g:List Dfn}{s:ByteArray}{i:Nat}(h:∀(j:Nat) (hj:j<g.length),j<i→g[j].name≠s)(hi:i<g.length)(he:g[i].name=s):o8 g s=(i:Int):=by
 have e:bU g s=some i:=by
  rw[bU,List.findIdx?_eq_some_iff_getElem];exact⟨hi,by simpa using he,fun j hj=>by simpa using h j (by omega) hj⟩
 rw[o8,e]
instance(g:List Dfn)(s:ByteArray):C 70 [bC g,stF s] (inF (o8 g s)) true (g.length≤1000000):=⟨fun hn=>by
 refine kf rfl rfl ?_;repeat' first|exact k9|refine k2 ?_|apply kA|apply kI;intro hc|refine k8 ?_|apply kL;intro hl
 apply kCt [1,8,9,10] [];conv=>whnf
 refine Lp.ind (fun z:Nat=>g.length - z) (fun z=>z≤g.length∧∀(j:Nat) (hj:j<g.length),j<z→g[j].name≠s) (fun z=>[(10,InD z)]) (fun _=>[]) (fun _=>_) 0 ⟨Nat.zero_le _,fun j hj h=>by omega⟩ rfl rfl rfl ?_
 rintro G i ih ⟨hi,hne⟩
 by_cases hx:i<g.length
 ·repeat' first|exact k9|refine k2 ?_|apply kA|apply kI;intro hc|refine k8 ?_|apply kL;intro hl
  ·exact ao.n (E7 hne hx (by assumption)).symm rfl
  have h0:=hc;apply kCt [1,8,9,10] [];conv=>whnf
  refine ih (i+1) _ _ _ (by omega) ⟨by omega,fun j hj hji=>?_⟩ rfl rfl rfl
  by_cases hjj:j=i
  ·subst hjj;exact h0
  ·exact hne j hj (by omega)
 ·repeat' first|exact k9|refine k2 ?_|apply kA|apply kI;intro hc|refine k8 ?_|apply kL;intro hl
  exact ao.n (AP hne (by omega)).symm rfl⟩
theorem yo{t:Tre}(h:t.wf):0≤sD t∧sD t≤2000000000000:=by
 have:=h.len;simp only[ca] at this;unfold sD
 split<;>omega
theorem yr{g:List Dfn}{i:Nat}(h:i<g.length):fD (g.take (i+1))=fD (g.take i)+sD g[i].body:=by
 rw[List.take_succ_eq_append_getElem h,fD,fD,List.map_append,List.sum_append];simp
theorem uJ:∀{g:List Dfn},(∀d∈g,d.wf)→0≤fD g∧fD g≤2000000000000 * (g.length:Int)
 | [],_=>by simp[fD]
 | d :: g,h=>by
  have h1:=yo (h d (by simp)).body;have h2:=uJ (g:=g) fun x hx=>h x (by simp[hx])
  simp only[fD,List.map_cons,List.sum_cons,List.length_cons] at h2 ⊢;omega
instance(g:List Dfn):C 96 [bC g] (inF (fD g)) true (g.length≤1000∧∀d∈g,d.wf):=⟨fun h=>by
 obtain⟨hn,hw⟩:=h;refine kf rfl rfl ?_;repeat' first|exact k9|refine k2 ?_|apply kA|apply kI;intro hc|refine k8 ?_|apply kL;intro hl
 apply kCt [3,7,8,9] [];conv=>whnf
 refine Lp.ind (fun z:Nat=>g.length - z) (fun z=>z≤g.length) (fun z=>[(9,InD z),(3,.fr (inF (fD (g.take z))))]) (fun _=>[]) (fun _=>_) 0 (Nat.zero_le _) rfl rfl rfl ?_
 rintro G i ih hi
 have hb:=uJ (g:=g.take i) fun d hd=>hw d (List.mem_of_mem_take hd)
 rw[List.length_take] at hb
 by_cases hx:i<g.length
 ·have hwi:=(hw _ (List.getElem_mem hx)).body;have hs:=yo hwi
  repeat' first|exact k9|refine k2 ?_|apply kA|apply kI;intro hc|refine k8 ?_|apply kL;intro hl
  apply kCt [3,7,8,9] [];conv=>whnf
  refine ih (i+1) _ _ _ (by omega) (by omega) rfl ?_ rfl;rw[yr hx];rfl
 ·obtain rfl:i=g.length:=by omega
  rw[List.take_length]
  repeat' (first|exact k9|refine k2 ?_|apply kA|apply kI;intro hc|refine k8 ?_|apply kL;intro hl)⟩
instance(g:List Dfn):C 78 [bC g] (boF (iQ g)) true (g.length≤1000∧0<g.length∧∀d∈g,d.wf):=⟨fun h=>by
 obtain⟨hn,hpos,hw⟩:=h
 by_cases h64:64<g.length
 ·have e:iQ g=true:=by simp[iQ,h64]
  rw[e];refine kf rfl rfl ?_;repeat' first|exact k9|refine k2 ?_|apply kA|apply kI;intro hc|refine k8 ?_|apply kL;intro hl
 have hbad:∀(i:Nat) (h:i<g.length),qY g[i].body=false→iQ g=true:=fun i h e=>by
  have:(g.any fun d=>!qY d.body)=true:=List.any_eq_true.2 ⟨_,List.getElem_mem h,by simp[e]⟩;simp[iQ,this]
 refine kf rfl rfl ?_;repeat' first|exact k9|refine k2 ?_|apply kA|apply kI;intro hc|refine k8 ?_|apply kL;intro hl
 apply kCt [1,10,11,12] [];conv=>whnf
 refine Lp.ind (fun z:Nat=>g.length - z) (fun z=>z≤g.length∧∀(j:Nat) (hj:j<g.length),j<z→qY g[j].body=true) (fun z=>[(12,InD z)]) (fun _=>[]) (fun _=>_) 0 ⟨Nat.zero_le _,fun j hj h=>by omega⟩ rfl rfl rfl ?_
 rintro G i ih ⟨hi,hok⟩
 by_cases hx:i<g.length
 ·have hwi:=(hw _ (List.getElem_mem hx)).body
  cases hm:qY g[i].body with
  | true=>
   repeat' first|exact k9|refine k2 ?_|apply kA|apply kI;intro hc|refine k8 ?_|apply kL;intro hl
   apply kCt [1,10,11,12] [];conv=>whnf
   refine ih (i+1) _ _ _ (by omega) ⟨by omega,fun j hj hji=>?_⟩ rfl rfl rfl
   by_cases hjj:j=i
   ·subst hjj;exact hm
   ·exact hok j hj (by omega)
  | false=>
   rw[hbad i hx hm]
   repeat' first|exact k9|refine k2 ?_|apply kA|apply kI;intro hc|refine k8 ?_|apply kL;intro hl
 ·obtain rfl:i=g.length:=by omega
  have hall:∀d∈g,qY d.body=true:=fun d hd=>by
   obtain⟨j,hj,rfl⟩:=List.getElem_of_mem hd;exact hok j hj hj
  have hany:(g.any fun d=>!qY d.body)=false:=by
   rw[List.any_eq_false];intro d hd;simp[hall d hd]
  have hgo:Ii g:=⟨hw,fun d hd=>by
   have:=hall d hd;simp only[qY,Bool.and_eq_true,decide_eq_true_eq] at this;exact this.1.1,by omega,hpos⟩
  have hp2:g.length≤1000∧∀d∈g,d.wf:=⟨hn,hw⟩
  have e:iQ g=(decide (1024<fD g)||decide (8192<(yS g).length)):=by simp[iQ,hany,h64]
  rw[e]
  repeat' first|exact k9|refine k2 ?_|apply kA|apply kI;intro hc|refine k8 ?_|apply kL;intro hl
  ·exact ao.b (by simp[*]) rfl
  ·refine ao.b ?_ rfl;have h1:decide (1024<fD g)=false:=decide_eq_false (by omega);rw[kM,h1,Bool.false_or];exact decide_eq_decide.2 (by omega)⟩
end Go.Km
end
section
namespace Go.aa
open Go
def vE(g:List Dfn):Bool:=!g.isEmpty&&g.all fun d=>gD d.name&&dM d.body
def gr(g:List Dfn):Bool:=!decide ((g.map (·.name)).Nodup)
def zU(g:List Dfn):Bool:=g.any fun d=>d.body.nodes.any fun n=>decide (n.kind=3)&&(bU g n.text).isNone
def dI(g:List Dfn):Int:=if vE g=false then 4 else if iQ g=true then 40 else if gr g=true then 6 else if zU g=true then 41 else 0
end Go.aa
namespace Go.Km
open Go Go.Vc Go.Proofs Go.aa Go.Proofs.YtoklkjkmbfebjaaGreatDoor
set_option maxRecDepth 100000
set_option maxHeartbeats 0
abbrev plR(p:Dfn×Nat):List F:=[stF p.1.name,inF (p.2:Int)]
theorem Bn{l:List Dfn}{s:ByteArray}:bU l s=none↔∀d∈l,d.name≠s:=by
 rw[bU,List.findIdx?_eq_none_iff];simp
theorem jU{l:List Dfn}{s:ByteArray}{j:Nat}(h:bU l s=some j):∃h:j<l.length,l[j].name=s:=by
 rw[bU,List.findIdx?_eq_some_iff_getElem] at h;obtain⟨h1,h2,_⟩:=h;exact⟨h1,by simpa using h2⟩
theorem uL{g:List Dfn}{i j:Nat}(hi:i<g.length)(h:bU (g.take i) g[i].name=some j):gr g=true:=by
 obtain⟨h1,h2⟩:=jU h;rw[List.length_take] at h1;rw[List.getElem_take] at h2;rw[gr,Bool.not_eq_true',decide_eq_false_iff_not];intro hn;refine List.pairwise_iff_getElem.1 hn j i (by simp;omega) (by simpa using hi) (by omega) ?_;simpa using h2
theorem AN{g:List Dfn}{i:Nat}(hi:i<g.length)(hn:((g.take i).map (·.name)).Nodup)(h:bU (g.take i) g[i].name=none):((g.take (i+1)).map (·.name)).Nodup:=by
 rw[List.take_succ_eq_append_getElem hi,List.map_append,List.nodup_append];refine⟨hn,by simp,?_⟩;intro a ha b hb;obtain⟨d,hd,rfl⟩:=List.mem_map.1 ha;simp at hb;subst hb;exact Bn.1 h d hd
theorem dD:∀(l:List Dfn) (n k:Nat) (s:ByteArray),gZ (.vl (.string s)) ((l.zipIdx n).map plR) k=some (match bU l s with
  | some j=>some (k+j,inF ((n+j:Nat):Int))
  | none=>none)
 | [],_,_,_=>rfl
 | a :: l,n,k,s=>by
  have ih:=dD l (n+1) (k+1) s;rw[List.zipIdx_cons,List.map_cons];show(match xH (.vl (.string s)) (stF a.name) with
   | some true=>some (some (k,inF (n:Int)))
   | some false=>gZ (.vl (.string s)) ((l.zipIdx (n+1)).map plR) (k+1)
   | none=>none)=_
  rw[show xH (.vl (.string s)) (stF a.name)=some (eqL s.data.toList a.name.data.toList) from rfl,uK,ih];rw[show bU (a :: l) s=(if decide (a.name=s) then some 0 else (bU l s).map fun i=>i+1) from List.findIdx?_cons ..]
  by_cases e:s=a.name
  ·subst e;simp
  ·have e':¬a.name=s:=fun q=>e q.symm
   rw[decide_eq_false e,decide_eq_false e'];simp only[Bool.false_eq_true,if_false]
   cases bU l s with
   | none=>rfl
   | some j=>
    simp only[Option.map_some];rw[show k+1+j=k+(j+1) by omega,show n+1+j=n+(j+1) by omega]
instance(g:List Dfn):C 54 [bC g] (inF (dI g)) true (g.length≤1000∧∀d∈g,d.wf):=⟨fun h=>by
 obtain⟨hn,hw⟩:=h
 by_cases hp:0<g.length
 ·refine kf rfl rfl ?_;repeat' first|exact k9|refine k2 ?_|apply kA|apply kI;intro hc|refine k8 ?_|apply kL;intro hl
  apply kCt [1,2,19,20,21] [];conv=>whnf
  refine Lp.ind (fun z:Nat=>g.length - z) (fun z=>z≤g.length∧∀(j:Nat) (hj:j<g.length),j<z→(gD g[j].name&&dM g[j].body)=true) (fun z=>[(21,InD z)]) (fun _=>[]) (fun _=>_) 0 ⟨Nat.zero_le _,fun j hj h=>by omega⟩ rfl rfl rfl ?_
  rintro G i ih ⟨hi,hok⟩
  have hne:g.isEmpty=false:=by cases g<;>simp at hp ⊢
  by_cases hx:i<g.length
  ·have hwi:=hw _ (List.getElem_mem hx);have hwb:=hwi.body;have hwn:=hwi.name;have hbad:(gD g[i].name&&dM g[i].body)=false→dI g=4:=fun e=>by
    have:vE g=false:=by
     rw[vE,Bool.and_eq_false_iff];refine .inr (Bool.eq_false_iff.2 fun q=>?_);have:=List.all_eq_true.1 q _ (List.getElem_mem hx);rw[e] at this
     cases this
    rw[dI,if_pos this]
   repeat' first|exact k9|refine k2 ?_|apply kA|apply kI;intro hc|refine k8 ?_|apply kL;intro hl
   ·rename_i q1 q2;have q3:(gD g[i].name&&dM g[i].body)=true:=by simp[*]
    apply kCt [1,2,19,20,21] [];conv=>whnf
    refine ih (i+1) _ _ _ (by omega) ⟨by omega,fun j hj hji=>?_⟩ rfl rfl rfl
    by_cases hjj:j=i
    ·subst hjj;exact q3
    ·exact hok j hj (by omega)
   ·exact ao.n (hbad (by simp[*])).symm rfl
   ·exact ao.n (hbad (by simp[*])).symm rfl
  ·obtain rfl:i=g.length:=by omega
   have hform:vE g=true:=by
    rw[vE,hne,Bool.not_false,Bool.true_and];refine List.all_eq_true.2 fun d hd=>?_
    obtain⟨j,hj,rfl⟩:=List.getElem_of_mem hd;exact hok j hj hj
   have hp3:g.length≤1000∧0<g.length∧∀d∈g,d.wf:=⟨hn,hp,hw⟩
   clear ih
   repeat' first|exact k9|refine k2 ?_|apply kA|apply kI;intro hc|refine k8 ?_|apply kL;intro hl
   ·exact ao.n (by rw[dI,hform,if_neg (by decide),if_pos (by assumption)]) rfl
   have hlarge:iQ g=false:=hc;apply kCt [1,2,5,43,44,45] [];conv=>whnf
   clear hc;refine Lp.ind (fun z:Nat=>g.length - z) (fun z=>z≤g.length∧((g.take z).map (·.name)).Nodup) (fun z=>[(45,InD z)]) (fun z=>[(3,.mp 0 (((g.take z).zipIdx).map plR))]) (fun _=>_) 0 ⟨Nat.zero_le _,by simp⟩ rfl rfl rfl ?_
   rintro G i ih ⟨hi,hnd⟩
   by_cases hx:i<g.length
   ·cases hfi:bU (g.take i) g[i].name with
    | some j=>
     have hf:(gZ (.vl (.string g[i].name)) ((g.take i).zipIdx.map plR) 0).toList[0]?=some (some (j,inF (j:Int))):=by
      rw[dD,hfi];simp
     repeat' first|exact k9|refine k2 ?_|apply kA|apply kI;intro hc|refine k8 ?_|apply kL;intro hl
     exact ao.n (by rw[dI,hform,if_neg (by decide),hlarge,if_neg (by decide),if_pos (uL hx hfi)]) rfl
    | none=>
     have hf:(gZ (.vl (.string g[i].name)) ((g.take i).zipIdx.map plR) 0).toList[0]?=some none:=by
      rw[dD,hfi];rfl
     repeat' first|exact k9|refine k2 ?_|apply kA|apply kI;intro hc|refine k8 ?_|apply kL;intro hl
     apply kCt [1,2,5,43,44,45] [];conv=>whnf
     refine ih (i+1) _ _ _ (by omega) ⟨by omega,AN hx hnd hfi⟩ rfl rfl ?_;rw[List.take_succ_eq_append_getElem hx,List.zipIdx_append,List.map_append];have el:(g.take i).length=i:=by rw[List.length_take];omega
     simp only[List.zipIdx_singleton,el,Nat.zero_add,List.map_singleton];rfl
   ·obtain rfl:i=g.length:=by omega
    rw[List.take_length] at *;clear ih;have htw:gr g=false:=by rw[gr,decide_eq_true hnd];rfl
    have hlook:∀s,(gZ (.vl (.string s)) (g.zipIdx.map plR) 0).toList[0]?=some (match bU g s with
      | some j=>some (j,inF (j:Int))
      | none=>none):=fun s=>by
     rw[dD]
     cases bU g s<;>simp
    repeat' first|exact k9|refine k2 ?_|apply kA|apply kI;intro hc|refine k8 ?_|apply kL;intro hl
    apply kCt [0,8,9,10] [1,2,5];conv=>whnf
    clear hc;refine Lp.ind (fun z:Nat=>g.length - z) (fun z=>z≤g.length∧∀(j:Nat) (hj:j<g.length),j<z→∀n∈g[j].body.nodes,(decide (n.kind=3)&&(bU g n.text).isNone)=false) (fun z=>[(10,InD z)]) (fun _=>[]) (fun _=>_) 0 ⟨Nat.zero_le _,fun j hj h=>by omega⟩ rfl rfl rfl ?_
    rintro G i ih ⟨hi,hin⟩
    by_cases hx:i<g.length
    ·have hwi:=hw _ (List.getElem_mem hx);obtain⟨ns,hns⟩:=exEq (g[i].body.nodes);have hnl:ns.length≤2000000000000:=by rw[hns];exact Nat.le_trans hwi.body.len (by decide)
     repeat' first|exact k9|refine k2 ?_|apply kA|apply kI;intro hc|refine k8 ?_|apply kL;intro hl
     apply kCt [0,3,8,9,10,17,18,19] [1,2,5];conv=>whnf
     rw[←hns];refine Lp.ind (fun z:Nat=>ns.length - z) (fun z=>z≤ns.length∧∀(j:Nat) (hj:j<ns.length),j<z→(decide (ns[j].kind=3)&&(bU g ns[j].text).isNone)=false) (fun z=>[(19,InD z)]) (fun _=>[]) (fun _=>_) 0 ⟨Nat.zero_le _,fun j hj h=>by omega⟩ rfl rfl rfl ?_
     rintro G' k ih' ⟨hk,hkn⟩
     by_cases hy:k<ns.length
     ·have hlk:=hlook ns[k].text
      by_cases h3:ns[k].kind=3
      ·cases hfi:bU g ns[k].text with
       | some j=>
        rw[hfi] at hlk;dsimp only at hlk
        repeat' first|exact k9|refine k2 ?_|apply kA|apply kI;intro hc|refine k8 ?_|apply kL;intro hl
        apply kCt [0,3,8,9,10,17,18,19] [1,2,5];conv=>whnf
        refine ih' (k+1) _ _ _ (by omega) ⟨by omega,fun j hj hjk=>?_⟩ rfl rfl rfl
        by_cases hjj:j=k
        ·subst hjj;simp[hfi]
        ·exact hkn j hj (by omega)
       | none=>
        rw[hfi] at hlk;dsimp only at hlk;have hlost:zU g=true:=List.any_eq_true.2 ⟨g[i],List.getElem_mem hx,List.any_eq_true.2 ⟨ns[k],by rw[←hns];exact List.getElem_mem hy,by simp[h3,hfi]⟩⟩
        repeat' first|exact k9|refine k2 ?_|apply kA|apply kI;intro hc|refine k8 ?_|apply kL;intro hl
        exact ao.n (by rw[dI,hform,if_neg (by decide),hlarge,if_neg (by decide),htw,if_neg (by decide),if_pos hlost]) rfl
      ·repeat' first|exact k9|refine k2 ?_|apply kA|apply kI;intro hc|refine k8 ?_|apply kL;intro hl
       apply kCt [0,3,8,9,10,17,18,19] [1,2,5];conv=>whnf
       refine ih' (k+1) _ _ _ (by omega) ⟨by omega,fun j hj hjk=>?_⟩ rfl rfl rfl
       by_cases hjj:j=k
       ·subst hjj;simp[h3]
       ·exact hkn j hj (by omega)
     ·obtain rfl:k=ns.length:=by omega
      repeat' first|exact k9|refine k2 ?_|apply kA|apply kI;intro hc|refine k8 ?_|apply kL;intro hl
      apply kCt [0,8,9,10] [1,2,5];conv=>whnf
      refine ih (i+1) _ _ _ (by omega) ⟨by omega,fun j hj hji n hn=>?_⟩ rfl rfl rfl
      by_cases hjj:j=i
      ·subst hjj;rw[←hns] at hn;obtain⟨q,hq,rfl⟩:=List.getElem_of_mem hn;exact hkn q hq hq
      ·exact hin j hj (by omega) n hn
    ·obtain rfl:i=g.length:=by omega
     clear ih;have hlost:zU g=false:=by
      rw[zU,List.any_eq_false];intro d hd;obtain⟨j,hj,rfl⟩:=List.getElem_of_mem hd;rw[Bool.not_eq_true,List.any_eq_false];intro n hn;rw[hin j hj hj n hn]
      decide
     repeat' first|exact k9|refine k2 ?_|apply kA|apply kI;intro hc|refine k8 ?_|apply kL;intro hl
     exact ao.n (by rw[dI,hform,if_neg (by decide),hlarge,if_neg (by decide),htw,if_neg (by decide),hlost,if_neg (by decide)]) rfl
 ·obtain rfl:g=[]:=List.eq_nil_of_length_eq_zero (by omega);refine kf rfl rfl ?_;repeat' first|exact k9|refine k2 ?_|apply kA|apply kI;intro hc|refine k8 ?_|apply kL;intro hl
  exact ao.n rfl rfl⟩
end Go.Km
end
