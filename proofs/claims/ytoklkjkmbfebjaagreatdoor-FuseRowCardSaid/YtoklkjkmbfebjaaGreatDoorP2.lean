/- The texts that the card needs, part 3. -/
import Derived.Test.YtoklkjkmbfebjaaGreatDoorP1
set_option linter.all false
section
namespace Go.Vc
open Go Go.RowKit Go.Sl
section
variable {P:Program} {n:FD} {s:List (Nat×D)} {Γ:Nat→Option (List F)} {c:Cf} {a:Act} {w:World} {W:Bs} {O:Nat→Nat→Prop} {η:Env} {k:Ks} {E:TE} {t:Nat} {o:Oper} {ρ:Operand→Option D} {S:Sg}
theorem gT {t' e sz by_ m c0 m' c':Nat} {ty:TypeId} {z:Value} {A A':Option Addr} {rows news:List (List Value)} {S0:Nat→Prop} (ht:SlT P t' e sz by_ z) (g2:(own e sz A m c0 rows).on S0 w)
  (harr:Arr sz (fun b=>b<w.heap.size) w A' m' news) (hone:∀r∈news,bZ r=true) (h63:m+m'≤maxLen) (hb:(m+m') * by_≤140737488355328) :
  ∃A2 c2 w' S',(Builtin.append_ #[t',t'] ty #[.slice A m c0,.slice A' m' c']).run P w=.ok (.slice A2 (m+m') c2) w'∧Chg w w' S0∧(∀g,S' g→S0 g∨(w.heap.size≤g∧g<w'.heap.size))∧(own e sz A2 (m+m') c2 (rows++news)).on S' w':=by
 obtain⟨inf,i1,i2,i3,i4⟩:=ht.info;have key:∃v' w',(Builtin.append_ #[t',t'] ty #[.slice A m c0,.slice A' m' c']).run P w=.ok v' w'∧w'.ownsRow 0 e sz v' (m+m') (rows.flatten++news.flatten)∧w.grownBy w' (Value.slice A m c0).ownBlock∧
   (v'.ownBlock=(Value.slice A m c0).ownBlock∨v'.ownBlock=some w.heap.size∧w.heap.size<w'.heap.size):=by
  have hnl:news.flatten.length=m' * sz:=by rw[length_flatten harr.2.1,harr.1]
  rcases Nat.eq_zero_or_pos m' with h0|hpos
  ·subst h0;have hn0:news=[]:=List.eq_nil_of_length_eq_zero harr.1;subst hn0;refine⟨.slice A m c0,w,?_,by simpa using g2.1,World.grownBy.refl w _,.inl rfl⟩;have hcap:m≤c0:=rL g2;have hfc:(Builtin.firstCells inf.size 0 (.slice A' 0 c')).run P w=.ok #[] w:=by
    cases A'<;>simp[Builtin.firstCells,loadCells,loadCellsFrom]
   cases A<;>simp[Builtin.append_,run_underlying ht.und,sizeOf,typeInfo,i1,Builtin.lenOf,hcap,hfc,storeCells]
  ·obtain⟨ad,hA',_,hc⟩:=harr.2.2 hpos;subst hA';obtain⟨v',w',r1,r2,r3,r4,r5⟩:=run_append_own_at (P:=P) w 0 t' ty e inf z sz by_ ht.und i1 i2 i3 i4 ht.zsz ht.pos (.slice A m c0) m rows.flatten g2.1 ad m' c' news.flatten hnl hc
    (fun u hu=>by obtain⟨r,hr,hu⟩:=List.mem_flatten.1 hu;exact gM (hone r hr) u hu) h63 hb (Nat.zero_le _)
   refine⟨v',w',r1,r2,r3,?_⟩;rcases r5 with r5|r5
   ·exact .inl r5
   ·refine .inr ⟨r5,?_⟩;exact(r2.lt _ r5).2
 obtain⟨v',w',r1,r2,r3,r5⟩:=key;have hval:∃A2 c2,v'=.slice A2 (m+m') c2:=by
  rcases r2.2 with ⟨hv,h0⟩|⟨g,cap,cur,hv,_⟩
  ·exact⟨none,0,by rw[hv,h0]⟩
  ·exact⟨_,_,hv⟩
 obtain⟨A2,c2,rfl⟩:=hval;refine⟨A2,c2,w',fun b=>S0 b∨(w.heap.size≤b∧b<w'.heap.size),r1,Chg.grown r3 (fun g hg=>g2.2.2.2 g hg),fun b hb=>hb,by simpa using r2,by simp[g2.2.1,harr.1],?_,fun g hg=>?_⟩
 ·intro r hr;rcases List.mem_append.1 hr with hr|hr
  ·exact g2.2.2.1 r hr
  ·exact harr.2.1 r hr
 ·rcases r5 with r5|⟨r5,r6⟩
  ·exact .inl (g2.2.2.2 g (r5▸hg))
  ·rw[r5] at hg
   injection hg with hg
   exact .inr ⟨by omega,by omega⟩
theorem ny{sz sz' m:Nat}{Z Z':Nat→Prop}{w':World}{A:Option Addr}{vr:List (List Value)}{news:List (List F)}(h:Arr sz' Z w A m vr)(hr:F.aG Z' w' news vr)(hs:∀r∈news,r.length=sz):Arr sz Z w A m vr:=by
 refine⟨h.1,fun r hrm=>?_,h.2.2⟩;obtain⟨i,hi⟩:=List.mem_iff_getElem?.1 hrm;have hlt:i<news.length:=by rw[←F.iU hr];exact(List.getElem?_eq_some_iff.1 hi).1
 obtain⟨rv,hrv,hrr⟩:=F.eR hr (List.getElem?_eq_getElem hlt);rw[hi] at hrv
 cases hrv;rw[F.aW hrr];exact hs _ (List.getElem_mem hlt)
theorem wo{d:D}{u:Value}{news:List (List F)}{rd:List Nat}{sz:Nat}(hp:Hp c O η w)(hd:D.rep c d u)(h:fI η d=some (news,rd))(hs:∀r∈news,r.length=sz) :
  ∃A c' vr,u=.slice A news.length c'∧Arr sz (fun b=>b<w.heap.size) w A news.length vr∧F.aG c.Z c.R news vr∧∀r∈vr,bZ r=true:=by
 unfold fI at h
 split at h
 ·cases h;unfold D.rep F.rep at hd;obtain⟨A,c',vr,sz',hx,hcap,harr,hone,hvr⟩:=hd;exact⟨A,c',vr,hx,ny ((harr.loc (fun g hg=>(hp.fz g hg).2.1)).mono (fun g hg=>(hp.fz g hg).1)) hvr hs,hvr,hone⟩
 ·cases h;have hx:=aH hd;exact⟨none,0,[],hx,Arr.nil,by simp[F.aG],by simp⟩
 ·split at h
  ·rename_i v' e' sz2 rows hb
   cases hv:Nat.beq _ v' with
   | false=>rw[hv] at h;cases h
   | true=>
    rw[hv] at h;have hv:=Nat.eq_of_beq_eq_true hv;subst hv
    cases h;unfold D.rep at hd;obtain⟨A,m,k',hA,hx⟩:=hd;obtain⟨A',k2,vr,hA',hvr,hone,hown⟩:=hp.pc _ _ hb;rw[hA] at hA'
    cases hA';exact⟨A,k',vr,hx,ny ((own.arr hown).mono (fun g hg=>hp.lt _ g hg)) hvr hs,hvr,hone⟩
  ·cases h
 ·cases h
theorem ET {x y:Operand} {t':Nat} {d d':D} {c0:Call} (hE:∀t i,E t=some i→TOk P t i) (hp:Hp c O η w) (hold:Old W c O w) (ho:o.op=.call c0) (h0:c0={ callee:=.builtin .append,args:=#[x,y],argTypes:=#[t',t'] })
  (hd:D.rep c d (a.eval x)) (hd':D.rep c d' (a.eval y)) (h:ee E η t t' d d' k):aw P o a w (Res W η c k):=by
 subst h0;unfold ee at h
 split at h
 ·rename_i sz0 z0 e sz by_ news rd hi hsrc;have hk:=(hE _ _ hi).k;simp only at hk;obtain⟨zv,ht⟩:=hk
  split at h
  ·rename_i b v
   split at h
   ·rename_i v' e' sz' rows hb
    replace h:=bo h
    obtain⟨hb1,h⟩:=h;rw[Bool.and_eq_true] at hb1;obtain⟨hb1,hb2⟩:=hb1;obtain⟨b1,b2⟩:=uv hb1;have b3:=Nat.eq_of_beq_eq_true hb2;subst b1;subst b2;subst b3;obtain⟨hs,h63,hby,h⟩:=h;obtain⟨A',c',nr,hy,harr,hnr,hno⟩:=wo hp hd' hsrc hs;unfold D.rep at hd;obtain⟨A,m,k',hA,hx⟩:=hd;obtain⟨A0,k2,vr,hA',hvr,hone,hown⟩:=hp.pc b _ hb;rw[hA] at hA'
    cases hA';obtain⟨A2,c2,w',S',hrun,hc,hsub,hown'⟩:=gT (P:=P) (ty:=o.type) (c':=c') ht hown harr hno h63 hby;have hnv:nv η b=v+1:=by unfold nv;rw[hb];rfl
    have hfr:=hp.fresh b;have hle:c.le (c.add b (nv η b) (A2,rows.length+news.length,c2)):=Cf.eT hfr;refine aw.av (v:=.slice A2 (rows.length+news.length) c2) (w':=w') ?_ ⟨_,_,_,_,_,h,hle,?_,hp.upd hc hsub hle rfl rfl (hp.cF (by rw[hnv];rfl)) ⟨A2,c2,vr++nr,?_,F.aG.ext hle.ext _ _ (F.fV hvr hnr),?_,?_⟩,hold.upd hc hsub rfl rfl⟩
    ·simp[execOp,ho,resolve,hx,hy,invoke,builtin,hrun]
    ·unfold D.rep;exact⟨A2,_,c2,by rw[←hnv];exact Cf.cY,rfl⟩
    ·rw[←hnv,List.length_append];exact Cf.cY
    ·intro r hr;rcases List.mem_append.1 hr with hr|hr
     ·exact hone r hr
     ·exact hno r hr
    ·rw[List.length_append];exact hown'
   ·exact h.elim
  ·obtain⟨hs,h63,hby,h⟩:=h;obtain⟨A',c',nr,hy,harr,hnr,hno⟩:=wo hp hd' hsrc hs;have hx:=aH hd;have hst0:Sl.St w [own e sz none 0 0 []] w:=St.I2 (St.start w);have hon:(own e sz none 0 0 []).on (fun _=>False) w:=⟨World.ownsRow_nil w 0 e sz,rfl,by simp,fun g hg=>by simp[Value.ownBlock] at hg⟩
   obtain⟨A2,c2,w',S',hrun,hc,hsub,hown'⟩:=gT (P:=P) (ty:=o.type) (c':=c') ht hon harr hno (by omega) (by simpa using hby);rw[Nat.zero_add] at hrun hown';rw[List.nil_append] at hown';have hst:Sl.St w [own e sz A2 news.length c2 nr] w':=by
    refine⟨⟨hc.os,hc.tape,hc.output,hc.size,fun g hg=>hc.block g hg (fun h=>h)⟩,S',fun g hg=>?_,hown',trivial⟩;rcases hsub g hg with h|h
    ·exact h.elim
    ·exact h
   refine aw.av (v:=.slice A2 news.length c2) (w':=w') ?_ (Res.s4 hp hold hst rfl hnr hno h);simp[execOp,ho,resolve,hx,hy,invoke,builtin,hrun]
  ·exact h.elim
 ·exact h.elim
def kW(P:Program)(Γ:Nat→Option (List F))(G:CG):Prop:=∀t η f l k,G t η f l k→∀(W:Bs) c O w vs,GOk Γ c→Hp c O η w→Old W c O w→D.ah c l vs→
 CF P f∧Calls P f vs.toArray w (fun e w'=>∃v,e=.returned v∧Res W η c k v w')
theorem jX(hρ:∀x d,ρ x=some d→D.rep c d (a.eval x)):∀{xs:List Operand} {l:List D},jq (xs.map ρ)=some l→D.ah c l (xs.map a.eval)
 | [],l,h=>by simp[jq] at h;subst h;simp[D.ah]
 | x :: xs,l,h=>by
  simp only[List.map_cons] at h
  cases hx:ρ x with
  | none=>rw[hx] at h;simp[jq] at h
  | some d=>
   rw[hx] at h;simp only[jq] at h
   split at h
   ·rename_i l' hl'
    cases h;rw[List.map_cons];unfold D.ah;exact⟨_,_,rfl,hρ x d hx,jX hρ hl'⟩
   ·cases h
theorem oS{x:F}{u:Value}(h:F.rep c.Z c.R x u):D.rep c x.toD u:=by
 unfold F.toD
 split
 ·unfold F.rep at h;obtain⟨vs,h1,h2⟩:=h;unfold D.rep;exact⟨vs,h1,D.eL h2⟩
 ·rename_i cs;unfold F.rep at h;obtain⟨vs,h1,h2⟩:=h;unfold D.rep;refine⟨vs,h1,?_⟩;clear h1
  induction cs generalizing vs with
  | nil=>unfold F.ah at h2;subst h2;simp[D.ah]
  | cons y cs ih=>
   unfold F.ah at h2;obtain⟨u1,us,rfl,h3,h4⟩:=h2;rw[List.map_cons];unfold D.ah;refine⟨u1,us,rfl,?_,ih us h4⟩;unfold F.Ak
   split
   ·unfold F.rep at h3;obtain⟨vs,h1,h2⟩:=h3;unfold D.rep;exact⟨vs,h1,D.eL h2⟩
   ·unfold D.rep;exact h3
 ·unfold D.rep;exact h
theorem jt:∀{l:List F} {vs:List Value},F.ah c.Z c.R l vs→D.ah c (l.map F.toD) vs
 | [],vs,h=>by unfold F.ah at h;subst h;simp[D.ah]
 | x :: l,vs,h=>by
  unfold F.ah at h;obtain⟨u,us,rfl,h2,h3⟩:=h;rw[List.map_cons];unfold D.ah;exact⟨u,us,rfl,oS h2,jt h3⟩
theorem JZ{G:CG}(hG:kW P Γ G)(hΓ:GOk Γ c)(hρ:∀x d,ρ x=some d→D.rep c d (a.eval x))(hE:∀t i,E t=some i→TOk P t i)(hp:Hp c O η w)(hold:Old W c O w){c0:Call}(ho:o.op=.call c0)(h:dT E η t G ρ c0 k):aw P o a w (Res W η c k):=by
 obtain⟨cal,args,tys⟩:=c0;unfold dT at h;simp only at h
 split at h
 ·split at h
  ·rename_i x t' e1 e2;have e1:args=#[x]:=by rw[←Array.toArray_toList (xs:=args),e1]
   have e2:tys=#[t']:=by rw[←Array.toArray_toList (xs:=tys),e2]
   subst e1;subst e2
   split at h
   ·rename_i d hx;exact KG hE hp hold ho rfl (hρ x d hx) h
   ·exact h.elim
  ·exact h.elim
 ·split at h
  ·rename_i x y t' t'' e1 e2;have e1:args=#[x,y]:=by rw[←Array.toArray_toList (xs:=args),e1]
   have e2:tys=#[t',t'']:=by rw[←Array.toArray_toList (xs:=tys),e2]
   subst e1;subst e2
   split at h
   ·rename_i d d' hx hy
    replace h:=bo h
    have:=Nat.eq_of_beq_eq_true h.1;subst this;exact ET hE hp hold ho rfl (hρ x d hx) (hρ y d' hy) h.2
   ·exact h.elim
  ·exact h.elim
 ·split at h
  ·rename_i x y e1;have e1:args=#[x,y]:=by rw[←Array.toArray_toList (xs:=args),e1]
   subst e1
   split at h
   ·rename_i a1 b1 hx hy;have h1:=aH (hρ x _ hx);have h2:=aH (hρ y _ hy);refine aw.av (v:=.int .i64 (max a1 b1)) ?_ (Res.val h (aV _) hp hold);simp[execOp,ho,resolve,h1,h2,invoke,builtin,Builtin.max_,Builtin.max2]
    by_cases h3:b1≤a1<;>simp[h3,Int.max_def]<;>omega
   ·exact h.elim
  ·exact h.elim
 ·split at h
  ·rename_i x y e1;have e1:args=#[x,y]:=by rw[←Array.toArray_toList (xs:=args),e1]
   subst e1
   split at h
   ·rename_i a1 b1 hx hy;have h1:=aH (hρ x _ hx);have h2:=aH (hρ y _ hy);refine aw.av (v:=.int .i64 (min a1 b1)) ?_ (Res.val h (aV _) hp hold);simp[execOp,ho,resolve,h1,h2,invoke,builtin,Builtin.min_,Builtin.min2]
    by_cases h3:a1≤b1<;>simp[h3,Int.min_def]<;>omega
   ·exact h.elim
  ·exact h.elim
 ·rename_i fo
  split at h
  ·rename_i f cs l hf hl;have hfv:=hρ fo _ hf;unfold D.rep at hfv;obtain⟨vs,hfe,hvs⟩:=hfv;have hl:=jX hρ hl;obtain⟨hcf,hcall⟩:=hG _ _ _ _ _ h W c O w _ hΓ hp hold (D.bJ hl hvs);refine aw.wR (f:=f) (args:=(args.toList.map a.eval++vs).toArray) ?_ hcall;have:=hcf.run (args.map a.eval++vs.toArray) w;simp[execOp,ho,resolve,Deferred.ofValue,hfe,invoke,this,←Array.toList_map]
  ·rename_i f cs l hf hl;have hfv:=hρ fo _ hf;unfold D.rep F.rep at hfv;obtain⟨vs,hfe,hvs⟩:=hfv;have hl:=jX hρ hl;obtain⟨hcf,hcall⟩:=hG _ _ _ _ _ h W c O w _ hΓ hp hold (D.bJ hl (jt hvs));refine aw.wR (f:=f) (args:=(args.toList.map a.eval++vs).toArray) ?_ hcall;have:=hcf.run (args.map a.eval++vs.toArray) w;simp[execOp,ho,resolve,Deferred.ofValue,hfe,invoke,this,←Array.toList_map]
  ·exact h.elim
 ·exact h.elim
theorem zY{ik:IntKind}{d:D}{u:Value}{l:List Int}{len:Nat}(hd:D.rep c d u)(hl:ints ik d.cells=some l)(hn:d.cells.length=len)(h0:∀x,d≠.fr (.vl x)):u=.agg (l.map (.int ik)).toArray:=by
 by_cases q1:∃cs,d=.ag cs
 ·obtain⟨cs,rfl⟩:=q1;unfold D.rep at hd;obtain⟨vs,rfl,hvs⟩:=hd;rw[sL hl hvs]
 ·by_cases q2:∃cs,d=.fr (.ag cs)
  ·obtain⟨cs,rfl⟩:=q2;unfold D.rep F.rep at hd;obtain⟨vs,rfl,hvs⟩:=hd;rw[sL hl (D.eL hvs)]
  ·have e0:d.cells=[d]:=by
    unfold D.cells
    split
    ·exact absurd ⟨_,rfl⟩ q1
    ·exact absurd ⟨_,rfl⟩ q2
    ·rfl
   rw[e0] at hl
   exfalso
   cases d with
   | fr x=>
    cases x with
    | vl v=>exact h0 v rfl
    | _=>simp[ints] at hl
   | _=>simp[ints] at hl
theorem Ko{G:CG}(hdp:2≤P.depth)(hG:kW P Γ G)(hΓ:GOk Γ c)(hs:iA c n s a)(hE:∀t i,E t=some i→TOk P t i)(hp:Hp c O η w)(hold:Old W c O w)(h:wpOp E η t G (evD Γ s) o.op k):aw P o a w (Res W η c k):=by
 have hρ:∀x d,evD Γ s x=some d→D.rep c d (a.eval x):=fun x d hx=>mm hs hΓ hx
 have hev:∀x d,evD Γ s x=some d→Sl.ev (sv a s) x=some (a.eval x):=fun x d hx=>MA hx
 have hfr:=Hu hs;unfold wpOp at h
 split at h
 ·rename_i x ho
  split at h
  ·rename_i d hx;exact aw.av (v:=a.eval x) (by simp[execOp,ho]) (Res.val h (hρ x d hx) hp hold)
  ·exact h.elim
 ·rename_i x ho
  split at h
  ·rename_i d hx;exact aw.av (v:=a.eval x) (by simp[execOp,ho]) (Res.val h (hρ x d hx) hp hold)
  ·exact h.elim
 ·rename_i x y z ho
  split at h
  ·rename_i q d d' hx hy hz;have hxv:=aH (hρ x _ hx)
   cases q with
   | true=>exact aw.av (v:=a.eval y) (by simp[execOp,ho,hxv,asBool]) (Res.val (h.1 rfl) (hρ y d hy) hp hold)
   | false=>exact aw.av (v:=a.eval z) (by simp[execOp,ho,hxv,asBool]) (Res.val (h.2 rfl) (hρ z d' hz) hp hold)
  ·exact h.elim
 ·rename_i t' ho;exact GR hfr hE hp hold ho h
 ·rename_i t' x ho
  split at h
  ·rename_i d hx;exact KX hfr (hev x d hx) hp hold ho (hρ x d hx) h
  ·exact h.elim
 ·rename_i t' ps ho;exact HF hρ hE hp hold ho h
 ·rename_i t' m ps ho;exact Lm hfr hρ hev hE hp hold ho h
 ·rename_i t' x ho
  split at h
  ·rename_i d hx;exact IH hE hp hold ho (hρ x d hx) h
  ·exact h.elim
 ·rename_i t' x y ho
  split at h
  ·rename_i d d' hx hy;exact Hb hE hp hold ho (hρ x d hx) (hρ y d' hy) h
  ·exact h.elim
 ·rename_i x ho
  split at h
  ·rename_i b v q hx;have hd:=hρ x _ hx;have hd0:=hd;unfold D.rep at hd;obtain⟨g,hg,hxv⟩:=hd;exact aw.av (v:=a.eval x) (by simp[execOp,ho,hxv]) (Res.val h hd0 hp hold)
  ·rename_i b v sz i q hx;have hd:=hρ x _ hx;have hd0:=hd;unfold D.rep at hd;obtain⟨A,m,k',hA,hxv⟩:=hd;exact aw.av (v:=a.eval x) (by simp[execOp,ho,hxv]) (Res.val h hd0 hp hold)
  ·rename_i sz rows i q hx;have hd:=hρ x _ hx;have hd0:=hd;unfold D.rep F.rep at hd;obtain⟨A,vr,hxv,_⟩:=hd;exact aw.av (v:=a.eval x) (by simp[execOp,ho,hxv]) (Res.val h hd0 hp hold)
  ·rename_i f cs hx;have hd:=hρ x _ hx;have hd0:=hd;unfold D.rep at hd;obtain⟨vs,hxv,_⟩:=hd;exact aw.av (v:=a.eval x) (by simp[execOp,ho,hxv]) (Res.val h hd0 hp hold)
  ·rename_i f cs hx;have hd:=hρ x _ hx;have hd0:=hd;unfold D.rep F.rep at hd;obtain⟨vs,hxv,_⟩:=hd;exact aw.av (v:=a.eval x) (by simp[execOp,ho,hxv]) (Res.val h hd0 hp hold)
  ·exact h.elim
 ·rename_i op ty x y ty2 ho
  split at h
  ·rename_i d d' hx hy;have hd:=hρ x d hx;have hd':=hρ y d' hy
   split at h
   ·rename_i sz z hi;have ht:=(hE _ _ hi).k;simp only at ht;unfold m7 at h
    split at h
    ·rename_i p q;have h1:=aH hd;have h2:=aH hd'
     split at h
     ·refine aw.av (v:=.bool (p==q)) ?_ (Res.val h (aV _) hp hold);simp[execOp,ho,h1,h2,eqGuard,binOp,Sl.run_equal_bool ht.eq]
     ·refine aw.av (v:=.bool (!(p==q))) ?_ (Res.val h (aV _) hp hold);simp[execOp,ho,h1,h2,eqGuard,binOp,Sl.run_equal_bool ht.eq]
     ·exact h.elim
    ·exact h.elim
   ·rename_i sz z len e esz hi
    split at h
    ·rename_i sz2 z2 ik hie;have ht:=((hE _ _ hi).k).1;have he:=(hE _ _ hie).k;simp only at he
     replace h:=bo h
     obtain⟨hb,h⟩:=h;rw[Bool.and_eq_true] at hb;obtain⟨hb,b2⟩:=hb;have b2:=Nat.eq_of_beq_eq_true b2;obtain⟨b0,b1⟩:=uv hb;subst b0;unfold qL at h
     split at h
     ·rename_i l m hl hm
      replace h:=bo h
      obtain⟨h0,h⟩:=h;rw[Bool.and_eq_true] at h0;obtain⟨inf,i1,i2⟩:=ht.info;have hz:SZ P e 1:=⟨⟨inf,i1,i2⟩⟩
      have ll:=sj hl;have lm:=sj hm;have hne:=h0;obtain⟨n1,n2⟩:=hne;have h1:=zY hd hl b1 (fun x e=>by rw[e] at n1;simp[jy] at n1);have h2:=zY hd' hm b2 (fun x e=>by rw[e] at n2;simp[jy] at n2);have hg:=ED ht.und he.eq hdp;have hq:=qW ht.und he.eq hz l m (by omega) (by omega) w;unfold Op.equal Op.maxDepth at hq
      split at h
      ·refine aw.av (v:=.bool (decide (l=m))) ?_ (Res.val h (aV _) hp hold);simp[execOp,ho,h1,h2,run_eqGuard_agg w _ _ _ _ _ _ hg,run_eql_struct,hq]
      ·refine aw.av (v:=.bool (!decide (l=m))) ?_ (Res.val h (aV _) hp hold);simp[execOp,ho,h1,h2,run_eqGuard_agg w _ _ _ _ _ _ hg,run_neq_struct,hq]
      ·exact h.elim
     ·exact h.elim
    ·exact h.elim
   ·unfold uc at h
    split at h
    ·rename_i ka x1 kb y1;have h1:=aH hd;have h2:=aH hd';obtain⟨d1,v1,g1,g2,g3⟩:=L7 (P:=P) (c:=c) (t:=ty) h;refine aw.av (v:=v1) ?_ (Res.val g1 g2 hp hold);simp[execOp,ho,h1,h2,eqGuard,g3]
    ·rename_i x1 y1;have h1:=aH hd;have h2:=aH hd';obtain⟨d1,v1,g1,g2,g3⟩:=Li (P:=P) (c:=c) (t:=ty) h;refine aw.av (v:=v1) ?_ (Res.val g1 g2 hp hold);simp[execOp,ho,h1,h2,eqGuard,g3]
    ·exact h.elim
  ·exact h.elim
 ·rename_i op ty x ho
  split at h
  ·rename_i d hx;have hd:=hρ x d hx;unfold AO at h
   split at h
   ·rename_i q;have h1:=aH hd;refine aw.av (v:=.bool (!q)) ?_ (Res.val h (aV _) hp hold);simp[execOp,ho,h1,Op.unary]
   ·rename_i ik q;have h1:=aH hd;obtain⟨d1,v1,g1,g2,g3⟩:=DA (P:=P) (op:=.sub) (x:=0) (y:=q) (c:=c) h (fun w=>rfl);refine aw.av (v:=v1) ?_ (Res.val g1 g2 hp hold);simp[execOp,ho,h1,Op.unary,g3]
   ·exact h.elim
  ·exact h.elim
 ·rename_i t1 t2 x ho
  split at h
  ·rename_i d hx;have hd:=hρ x d hx;unfold jS at h
   split at h
   ·rename_i sz1 z1 k1 sz2 z2 k2 k' m e1 e2;have h1:=(hE _ _ e1).k;have h2:=(hE _ _ e2).k;simp only at h1 h2
    replace h:=bo h
    have hxv:=aH hd;obtain⟨_,m',rfl,h⟩:=h;refine aw.av (v:=.int k2 (k2.wrap m)) ?_ (Res.val h (aV _) hp hold);simp[execOp,ho,hxv,convert,run_underlying h1.eq,run_underlying h2.eq,Conv.intToInt]
   ·rename_i sz1 z1 e sz by_ sz2 z2 e1 e2;have h1:=(hE _ _ e1).k;have h2:=(hE _ _ e2).k;simp only at h1 h2;obtain⟨zv,ht⟩:=h1
    split at h
    ·rename_i sz3 z3 e3;have h3:=(hE _ _ e3).k;simp only at h3
     split at h
     ·rename_i rows rd hs;obtain⟨hsz,bs,hb,h⟩:=h;subst hsz;obtain⟨A,c',vr,hxv,harr,hvr,hone⟩:=wo (sz:=1) hp hd hs (by rw[hb];intro r hr;obtain⟨x,_,rfl⟩:=List.mem_map.1 hr;rfl);have hlen:rows.length=bs.length:=by rw[hb];simp
      refine aw.av (v:=.string ⟨bs.toArray⟩) ?_ (Res.val h (aV _) hp hold)
      cases A with
      | none=>
       have h0:bs=[]:=by
        cases bs with
        | nil=>rfl
        | cons b bs=>
         have:=harr.some_ (by rw[hlen];simp);simp at this
       subst h0;have:=run_convert_bytes_nil (P:=P) w t1 e ht.und h3.eq;simp only[execOp,ho,hxv];simp[convert,run_underlying ht.und,run_underlying h2.eq,run_underlying h3.eq,Conv.bytesToString];rfl
      | some A=>
       have:=run_convert_bytes_back (P:=P) w t1 t2 e A c' bs ht.und h3.eq h2.eq (fun j hj=>by
        have hj':j<rows.length:=by omega
        obtain⟨rv,hrv,hrr⟩:=F.eR hvr (List.getElem?_eq_getElem hj');have e4:rows[j]=[.vl (.int .u8 (bs[j].toNat:Int))]:=by simp[hb]
        rw[e4] at hrr;unfold F.ah at hrr;obtain⟨u,us,rfl,g1,g2⟩:=hrr;unfold F.rep at g1;subst g1;have:=harr.cell (i:=j) (j:=0) hrv rfl;simpa using this)
       rw[hlen] at hxv;simp[execOp,ho,hxv,this]
     ·exact h.elim
    ·exact h.elim
   ·exact h.elim
  ·exact h.elim
 ·rename_i f fst cap ho
  split at h
  ·rename_i l hfst hl;have hf0:fst=#[]:=by
    have:fst.toList=[]:=hfst;simpa using this
   subst hf0;have hl:=jX hρ hl;refine aw.av (v:=.func (.func f) #[] (cap.toList.map a.eval).toArray) ?_ (Res.val h (by unfold D.rep;exact⟨_,rfl,hl⟩) hp hold);simp[execOp,ho,Instr.makeFunc,←Array.toList_map]
  ·exact h.elim
 ·rename_i t' x y ho
  split at h
  ·rename_i d d' hx hy;exact Jk hfr (hev x d hx) (hev y d' hy) hE hp hold ho (hρ x d hx) (hρ y d' hy) h
  ·exact h.elim
 ·rename_i t' x lo hi mx ho
  split at h
  ·rename_i d hx;exact GZ hρ hE hp hold ho (hρ x d hx) h
  ·exact h.elim
 ·rename_i t' x j ho
  split at h
  ·rename_i d hx;exact wB hE hp hold ho (hρ x d hx) h
  ·exact h.elim
 ·rename_i t' x j ho
  split at h
  ·rename_i d hx;exact Hf hE hp hold ho (hρ x d hx) h
  ·exact h.elim
 ·rename_i t' x y ho
  split at h
  ·rename_i d d' hx hy;exact wU hE hp hold ho (hρ x d hx) (hρ y d' hy) h
  ·exact h.elim
 ·rename_i t' x y ho
  split at h
  ·rename_i d d' hx hy;exact Ft hE hp hold ho (hρ x d hx) (hρ y d' hy) h
  ·exact h.elim
 ·rename_i x j ho
  split at h
  ·rename_i d hx;exact Ad hp hold ho (hρ x d hx) h
  ·exact h.elim
 ·rename_i c0 ho;exact JZ hG hΓ hρ hE hp hold ho h
 ·exact h.elim
end
def Loc(Q:Env→Ks→Prop)(η:Env)(k:Ks):Prop:=∃d rd e,k d rd e∧∀η',(∀b∈rd,η' b=η b)→Q η' (fun x y z=>x=d∧y=rd∧z=e)
section
variable {η:Env} {k:Ks} {E:TE} {t:Nat}
theorem Loc.still{Q:Ks→Prop}{d:D}{rd:List Nat}{e:List (Nat×B)}(hk:k d rd e)(h:Q (fun x y z=>x=d∧y=rd∧z=e)):Loc (fun _ k=>Q k) η k:=⟨d,rd,e,hk,fun _ _=>h⟩
theorem GF{t':Nat}{x:D}(h:eJ E η t' x k):Loc (fun η k=>eJ E η t' x k) η k:=by
 unfold eJ at h
 split at h
 ·rename_i b v q i hi
  split at h
  ·rename_i v' bt cs hb
   replace h:=bo h
   obtain⟨hv,h⟩:=h
   cases ha:i.k.agg with
   | true=>
    rw[ha] at h;exact⟨_,_,_,h.2,fun η' hη=>by simp[eJ,hi,hη b (by simp),hb,hv,ha,h.1]⟩
   | false=>
    rw[ha] at h;obtain⟨d,hd,h⟩:=h;exact⟨_,_,_,h,fun η' hη=>by simp[eJ,hi,hη b (by simp),hb,hv,ha,hd]⟩
  ·exact h.elim
 ·rename_i b v sz j q i hi
  split at h
  ·rename_i v' e sz' rows hb
   replace h:=bo h
   obtain⟨hv,r,hr,h⟩:=h;rw[Bool.and_eq_true] at hv
   cases ha:i.k.agg with
   | true=>
    rw[ha] at h;exact⟨_,_,_,h.2,fun η' hη=>by simp[eJ,hi,hη b (by simp),hb,hv,ha,hr,h.1]⟩
   | false=>
    rw[ha] at h;obtain⟨d,hd,h⟩:=h;exact⟨_,_,_,h,fun η' hη=>by simp[eJ,hi,hη b (by simp),hb,hv,ha,hr,hd]⟩
  ·exact h.elim
 ·rename_i sz rows j q i hi;obtain⟨r,hr,h⟩:=h
  cases ha:i.k.agg with
  | true=>
   rw[ha] at h;exact⟨_,_,_,h.2,fun η' hη=>by simp[eJ,hi,ha,hr,h.1]⟩
  | false=>
   rw[ha] at h;obtain⟨d,hd,h⟩:=h;exact⟨_,_,_,h,fun η' hη=>by simp[eJ,hi,ha,hr,hd]⟩
 ·exact h.elim
theorem fA{f g:D→Option (F×List Nat)}:∀{cs:List D} {l:List F} {is:List Nat},(∀d x is',f d=some (x,is')→(∀b∈is',b∈is)→g d=some (x,is'))→cz f cs=some (l,is)→cz g cs=some (l,is):=by
 have key:∀(cs:List D) (l:List F) (is ids:List Nat),(∀d x is',f d=some (x,is')→(∀b∈is',b∈ids)→g d=some (x,is'))→(∀b∈is,b∈ids)→cz f cs=some (l,is)→cz g cs=some (l,is):=by
  intro cs
  induction cs with
  | nil=>intro l is ids _ _ h;simpa [cz] using h
  | cons x cs ih=>
   intro l is ids hfg hi h;simp only[cz] at h
   split at h
   ·rename_i y i ys is' h1 h2
    cases h;have g1:=hfg _ _ _ h1 (fun b hb=>hi b (by simp[hb]));have g2:=ih _ _ ids hfg (fun b hb=>hi b (by simp[hb])) h2;simp[cz,g1,g2]
   ·cases h
 exact fun {cs l is} h1 h2=>key cs l is is h1 (fun b h=>h) h2
theorem fv{η':Env}:∀(m:Nat) (d:D) (x:F) (is:List Nat),D.toF η m d=some (x,is)→(∀b∈is,η' b=η b)→D.toF η' m d=some (x,is)
 | 0,d,x,is,h,_=>by simp[D.toF] at h
 | m+1,d,x,is,h,hη=>by
  have ih:∀(cs:List D) (l:List F) (is':List Nat),cz (D.toF η m) cs=some (l,is')→(∀b∈is',η' b=η b)→cz (D.toF η' m) cs=some (l,is'):=by
   intro cs l is' h1 h2;exact fA (fun d x is'' h3 h4=>fv m d x is'' h3 (fun b hb=>h2 b (h4 b hb))) h1
  unfold D.toF at h ⊢
  split at h
  ·exact h
  ·split at h
   ·rename_i h1;cases h;simp[ih _ _ _ h1 hη]
   ·cases h
  ·split at h
   ·rename_i h1;cases h;simp[ih _ _ _ h1 hη]
   ·cases h
  ·split at h
   ·rename_i h1;cases h;simp[ih _ _ _ h1 hη]
   ·cases h
  ·rename_i b0 v0 o0
   split at h
   ·rename_i v' bt cs hb'
    cases hv:Nat.beq v0 v' with
    | false=>simp[hv] at h
    | true=>
     simp only[hv,cond_true] at h
     split at h
     ·rename_i l is' h1
      cases h;have e1:=hη b0 (by simp);simp[e1,hb',hv,ih _ _ _ h1 (fun b hb=>hη b (by simp[hb]))]
     ·cases h
   ·cases h
  ·rename_i b0 v0
   split at h
   ·rename_i v' e sz rows hb'
    cases hv:Nat.beq v0 v' with
    | false=>simp[hv] at h
    | true=>
     simp only[hv,cond_true] at h
     cases h;have e1:=hη b0 (by simp);simp[e1,hb',hv]
   ·cases h
  ·rename_i b0 v0
   split at h
   ·rename_i v' rows hb'
    cases hv:Nat.beq v0 v' with
    | false=>simp[hv] at h
    | true=>
     simp only[hv,cond_true] at h
     cases h;have e1:=hη b0 (by simp);simp[e1,hb',hv]
   ·cases h
  ·rename_i b0 v0 sz0 lo0 hi0 ex0
   split at h
   ·rename_i v' e sz rows hb'
    cases hv:(Nat.beq v0 v'&&Nat.beq sz0 sz) with
    | false=>simp[hv] at h
    | true=>
     simp only[hv,cond_true] at h
     cases h;have e1:=hη b0 (by simp);simp[e1,hb',hv]
   ·cases h
  ·exact h
  ·cases h
  ·cases h
  ·cases h
theorem cZ{η':Env}:∀{is:List Nat},(∀b∈is,η' b=η b)→aS η' is=aS η is
 | [],_=>rfl
 | b :: l,h=>by
  simp only[aS,h b (by simp),cZ (is:=l) (fun b hb=>h b (by simp[hb]))]
theorem cH{η':Env}{b:Nat}(h:η' b=η b):nv η' b=nv η b:=by unfold nv;rw[h]
theorem EG{t':Nat}{x y:D}(h:fG E η t' x y k):Loc (fun η k=>fG E η t' x y k) η k:=by
 unfold fG at h
 split at h
 ·rename_i b v q i hi
  split at h
  ·rename_i v' bt cs hb
   replace h:=bo h
   obtain⟨hv,h1,h2,h3,h⟩:=h;rw[Bool.and_eq_true] at hv;exact⟨_,_,_,h,fun η' hη=>by simp only[fG,hi,hη b (by simp),hb,hv.1,hv.2];exact⟨h1,h2,h3,by trivial,by trivial,by trivial⟩⟩
  ·exact h.elim
 ·rename_i b v sz j q i hi
  split at h
  ·rename_i v' e sz' rows hb
   replace h:=bo h
   obtain⟨hv,r,hr,h⟩:=h;rw[Bool.and_eq_true,Bool.and_eq_true] at hv
   split at h
   ·rename_i fs is hm;obtain⟨h1,h2,h3,h4,h⟩:=h;refine⟨_,_,_,h,fun η' hη=>?_⟩;have e1:cz (D.toF η' 4) y.cells=some (fs,is):=fA (fun d x is'' h3 h4=>fv 4 d x is'' h3 (fun b' hb'=>hη b' (by simp[h4 b' hb']))) hm;have e2:=cZ (is:=is) (fun b' hb'=>hη b' (by simp[hb']));simp only[fG,hi,hη b (by simp),hb,hv.1.1,hv.1.2,hv.2,e1,e2];exact⟨r,hr,h1,h2,h3,h4,by trivial,by trivial,by trivial⟩
   ·exact h.elim
  ·exact h.elim
 ·exact h.elim
theorem uy{t':Nat}{x y:D}(h:bn E η t' x y k):Loc (fun η k=>bn E η t' x y k) η k:=by
 unfold bn at h
 split at h
 ·rename_i ik m
  split at h
  ·rename_i sz0 z0 e sz by_ hi
   split at h
   ·rename_i b v
    split at h
    ·rename_i v' e' sz' rows hb
     replace h:=bo h
     obtain⟨hv,i,h1,h2,h⟩:=h;rw[Bool.and_eq_true] at hv;exact⟨_,_,_,h,fun η' hη=>by simp only[bn,hi,hη b (by simp),hb,hv.1,hv.2];exact⟨i,h1,h2,by trivial,by trivial,by trivial⟩⟩
    ·exact h.elim
   ·obtain⟨i,h1,r,h2,h3,h⟩:=h;exact⟨_,_,_,h,fun η' hη=>by simp only[bn,hi];exact⟨i,h1,r,h2,h3,by trivial,by trivial,by trivial⟩⟩
   ·exact h.elim
  ·rename_i sz0 z0 len e sz hi
   split at h
   ·obtain⟨i,h1,h2,h⟩:=h;exact⟨_,_,_,h,fun η' hη=>by simp only[bn,hi];exact⟨i,h1,h2,by trivial,by trivial,by trivial⟩⟩
   ·obtain⟨i,h1,h2,h⟩:=h;exact⟨_,_,_,h,fun η' hη=>by simp only[bn,hi];exact⟨i,h1,h2,by trivial,by trivial,by trivial⟩⟩
   ·obtain⟨i,h1,h2,h⟩:=h;exact⟨_,_,_,h,fun η' hη=>by simp only[bn,hi];exact⟨i,h1,h2,by trivial,by trivial,by trivial⟩⟩
   ·exact h.elim
  ·exact h.elim
 ·exact h.elim
theorem II{t':Nat}{x:D}(h:j7 E η t' x k):Loc (fun η k=>j7 E η t' x k) η k:=by
 unfold j7 at h
 split at h
 ·rename_i hi;exact⟨_,_,_,h,fun η' hη=>by simp only[j7,hi];exact⟨by trivial,by trivial,by trivial⟩⟩
 ·rename_i hi;exact⟨_,_,_,h,fun η' hη=>by simp only[j7,hi];exact⟨by trivial,by trivial,by trivial⟩⟩
 ·rename_i hi;exact⟨_,_,_,h,fun η' hη=>by simp only[j7,hi];exact⟨by trivial,by trivial,by trivial⟩⟩
 ·rename_i sz z e sz' by_ b v hi
  split at h
  ·rename_i v' e' sz2 rows hb
   replace h:=bo h
   exact⟨_,_,_,h.2,fun η' hη=>by simp only[j7,hi,hη b (by simp),hb,h.1];exact⟨by trivial,by trivial,by trivial⟩⟩
  ·exact h.elim
 ·exact h.elim
theorem jk{η':Env}{d:D}{news:List (List F)}{rd:List Nat}(h:fI η d=some (news,rd))(hη:∀b∈rd,η' b=η b):fI η' d=some (news,rd):=by
 unfold fI at h ⊢
 split at h
 ·exact h
 ·exact h
 ·rename_i b v
  split at h
  ·rename_i v' e' sz2 rows hb
   cases hv:Nat.beq v v' with
   | false=>rw[hv] at h;cases h
   | true=>
    rw[hv] at h
    cases h;simp[hη b (by simp),hb,hv]
  ·cases h
 ·cases h
theorem BK{t':Nat}{x y:D}(h:ee E η t t' x y k):Loc (fun η k=>ee E η t t' x y k) η k:=by
 unfold ee at h
 split at h
 ·rename_i sz0 z0 e sz by_ news rd hi hs
  split at h
  ·rename_i b v
   split at h
   ·rename_i v' e' sz' rows hb
    replace h:=bo h
    obtain⟨hv,h1,h2,h3,h⟩:=h;rw[Bool.and_eq_true,Bool.and_eq_true] at hv;refine⟨_,_,_,h,fun η' hη=>?_⟩;have e1:=jk hs (fun b' hb'=>hη b' (by simp[hb']));simp only[ee,hi,e1,hη b (by simp),hb,hv.1.1,hv.1.2,hv.2];exact⟨h1,h2,h3,by trivial,by trivial,by trivial⟩
   ·exact h.elim
  ·obtain⟨h1,h2,h3,h⟩:=h;refine⟨_,_,_,h,fun η' hη=>?_⟩;have e1:=jk hs (fun b' hb'=>hη b' (by simp[hb']));simp only[ee,hi,e1,cH (hη t (by simp))];exact⟨h1,h2,h3,by trivial,by trivial,by trivial⟩
  ·exact h.elim
 ·exact h.elim
theorem Ie{t':Nat}{x y:D}(h:jN E η t t' x y k):Loc (fun η k=>jN E η t t' x y k) η k:=by
 unfold jN at h
 split at h
 ·rename_i hi
  split at h
  ·rename_i i hie;obtain⟨h1,j,h2,j',h3,h4,h5,h6,h⟩:=h;refine⟨_,_,_,h,fun η' hη=>?_⟩;simp only[jN,hi,hie,cH (hη t (by simp))];exact⟨h1,j,h2,j',h3,h4,h5,h6,by trivial,by trivial,by trivial⟩
  ·exact h.elim
 ·exact h.elim
theorem qO{η':Env}{sz:Nat}:∀{l:List (Nat×Option D)} {j:Nat} {rows:List (List F)} {is:List Nat},kn η sz j l=some (rows,is)→(∀b∈is,η' b=η b)→kn η' sz j l=some (rows,is)
 | [],j,rows,is,h,_=>h
 | (i,none) :: l,j,rows,is,h,_=>by simp[kn] at h
 | (i,some d) :: l,j,rows,is,h,hη=>by
  simp only[kn] at h
  cases hb:(Nat.beq i j&&Nat.beq d.cells.length sz) with
  | false=>rw[hb] at h;simp at h
  | true=>
   rw[hb] at h;simp only[cond_true] at h
   split at h
   ·rename_i r is1 rs is2 e1 e2
    cases h1:r.all F.one with
    | false=>rw[h1] at h;simp at h
    | true=>
     rw[h1] at h;simp only[cond_true] at h
     cases h;have g1:cz (D.toF η' 4) d.cells=some (r,is1):=fA (fun d x is'' h3 h4=>fv 4 d x is'' h3 (fun b' hb'=>hη b' (by simp[h4 b' hb']))) e1;have g2:=qO e2 (fun b hb=>hη b (by simp[hb]));simp only[kn,hb,cond_true,g1,g2,h1]
   ·cases h
theorem JW{t' m:Nat}{ps:List (Nat×Option D)}(h:o5 E η t t' m ps k):Loc (fun η k=>o5 E η t t' m ps k) η k:=by
 unfold o5 at h
 split at h
 ·rename_i hi
  split at h
  ·rename_i rows is hr
   replace h:=bo h
   refine⟨_,_,_,h.2,fun η' hη=>?_⟩;have e1:=qO hr (fun b hb=>hη b (by simp[hb]));have e2:=cZ (is:=is) (fun b' hb'=>hη b' (by simp[hb']));simp only[o5,hi,e1,e2,cH (hη t (by simp)),h.1,cond_true];exact⟨by trivial,by trivial,by trivial⟩
  ·exact h.elim
 ·exact h.elim
theorem ue{t' j:Nat}{x:D}(h:bS E t' x j k):Loc (fun _ k=>bS E t' x j k) η k:=by
 unfold bS at h
 split at h
 ·rename_i hi
  split at h
  ·rename_i hj
   replace h:=bo h
   obtain⟨h0,h⟩:=h
   split at h
   ·exact⟨_,_,_,h,fun _ _=>by simp only[bS,hi,hj,h0,cond_true];exact⟨by trivial,by trivial,by trivial⟩⟩
   ·exact⟨_,_,_,h,fun _ _=>by simp only[bS,hi,hj,h0,cond_true];exact⟨by trivial,by trivial,by trivial⟩⟩
   ·exact⟨_,_,_,h,fun _ _=>by simp only[bS,hi,hj,h0,cond_true];exact⟨by trivial,by trivial,by trivial⟩⟩
   ·exact h.elim
  ·exact h.elim
 ·exact h.elim
theorem DZ{t' j:Nat}{x:D}(h:ep E t' x j k):Loc (fun _ k=>ep E t' x j k) η k:=by
 unfold ep at h
 split at h
 ·rename_i hi
  split at h
  ·rename_i o' s' g cs hj
   replace h:=bo h
   obtain⟨h0,h⟩:=h
   cases g with
   | true=>exact⟨_,_,_,h,fun _ _=>by simp only[ep,hi,hj,h0,cond_true];exact⟨by trivial,by trivial,by trivial⟩⟩
   | false=>
    obtain⟨d,hd,h⟩:=h;exact⟨_,_,_,h,fun _ _=>by simp only[ep,hi,hj,h0,cond_true,cond_false];exact⟨d,hd,by trivial,by trivial,by trivial⟩⟩
  ·rename_i o' s' g cs hj
   replace h:=bo h
   obtain⟨h0,h⟩:=h
   cases g with
   | true=>exact⟨_,_,_,h,fun _ _=>by simp only[ep,hi,hj,h0,cond_true];exact⟨by trivial,by trivial,by trivial⟩⟩
   | false=>
    obtain⟨d,hd,h⟩:=h;exact⟨_,_,_,h,fun _ _=>by simp only[ep,hi,hj,h0,cond_true,cond_false];exact⟨d,hd,by trivial,by trivial,by trivial⟩⟩
  ·exact h.elim
 ·exact h.elim
theorem Ez{t':Nat}{x y:D}(h:gJ E t' x y k):Loc (fun _ k=>gJ E t' x y k) η k:=by
 unfold gJ at h
 split at h
 ·split at h
  ·rename_i hi;obtain⟨i,h1,u,h2,h⟩:=h;exact⟨_,_,_,h,fun _ _=>by simp only[gJ,hi];exact⟨i,h1,u,h2,by trivial,by trivial,by trivial⟩⟩
  ·exact h.elim
 ·exact h.elim
theorem lS{d0:Nat}{x:Option D}{K:Nat→Prop}(h:bound d0 x K):∃i,K i∧∀K':Nat→Prop,K' i→bound d0 x K':=by
 unfold bound at h
 split at h
 ·exact⟨d0,h,fun K' h'=>h'⟩
 ·obtain⟨i,h1,h⟩:=h;exact⟨i,h,fun K' h'=>⟨i,h1,h'⟩⟩
 ·exact h.elim
theorem Eb{t':Nat}{x:D}{lo hi:Option (Option D)}{mx:Bool}(h:fK E t' x lo hi mx k):Loc (fun _ k=>fK E t' x lo hi mx k) η k:=by
 cases mx with
 | true=>exact(show False from h).elim
 | false=>
  unfold fK at h;simp only[cond_false] at h
  split at h
  ·rename_i lo' hi'
   split at h
   ·rename_i hi;obtain⟨l,h,hl⟩:=lS h;obtain⟨m,h,hm⟩:=lS h;exact⟨_,_,_,h.2.2,fun _ _=>by simp only[fK,hi,cond_false];exact hl _ (hm _ ⟨h.1,h.2.1,by trivial,by trivial,by trivial⟩)⟩
   ·rename_i hi;obtain⟨l,h,hl⟩:=lS h;obtain⟨m,h,hm⟩:=lS h;exact⟨_,_,_,h.2.2.2,fun _ _=>by simp only[fK,hi,cond_false];exact hl _ (hm _ ⟨h.1,h.2.1,h.2.2.1,by trivial,by trivial,by trivial⟩)⟩
   ·exact h.elim
  ·exact h.elim
theorem xM{j:Nat}{x:D}(h:eF x j k):Loc (fun _ k=>eF x j k) η k:=by
 unfold eF at h
 split at h
 ·obtain⟨d,hd,h⟩:=h;exact⟨_,_,_,h,fun _ _=>⟨d,hd,by trivial,by trivial,by trivial⟩⟩
 ·exact h.elim
theorem D5{t':Nat}{ps:List (Nat×Option D)}(h:fF E t' ps k):Loc (fun _ k=>fF E t' ps k) η k:=by
 unfold fF at h
 split at h
 ·rename_i hi
  split at h
  ·rename_i cs hf;exact⟨_,_,_,h,fun _ _=>by simp only[fF,hi,hf];exact⟨by trivial,by trivial,by trivial⟩⟩
  ·exact h.elim
 ·rename_i hi
  split at h
  ·rename_i cs hf;exact⟨_,_,_,h,fun _ _=>by simp only[fF,hi,hf];exact⟨by trivial,by trivial,by trivial⟩⟩
  ·exact h.elim
 ·exact h.elim
theorem Gm{ik:IntKind}{m:Int}{K:D→Prop}(h:ri ik m K):∃d,K d∧ri ik m (fun x=>x=d):=by
 unfold ri at h ⊢
 split at h
 ·exact⟨_,h.2,h.1,rfl⟩
 ·obtain⟨m',h1,h⟩:=h;exact⟨_,h,m',h1,rfl⟩
theorem oO{b:Bool}{f:(D→Prop)→Prop}{K:D→Prop}(hf:f K→∃d,K d∧f (fun x=>x=d))(h:bif b then f K else False):∃d,K d∧(bif b then f (fun x=>x=d) else False):=by
 cases b with
 | true=>exact hf h
 | false=>exact h.elim
theorem J3{op:BinOp}{ka kb:IntKind}{x y:Int}{K:D→Prop}(h:qN op ka x kb y K):∃d,K d∧qN op ka x kb y (fun z=>z=d):=by
 unfold qN at h ⊢
 cases op<;>simp only at h ⊢
 all_goals first
  | exact oO (f:=fun K=>ri ka _ K) Gm h
  | exact oO (f:=fun K=>K _) (fun h=>⟨_,h,rfl⟩) h
  | exact⟨_,h.2,h.1,rfl⟩
  | exact oO (f:=fun K=>y≠0∧∃m,_=m∧K (.fr (.vl (.int ka m)))) (fun h=>let ⟨h0,m,h1,h2⟩:=h;⟨_,h2,h0,m,h1,rfl⟩) h
  | exact h.elim
  | skip
 all_goals
  refine oO (f:=fun K=>match yy _ ka x y with|some n=>K (.fr (.vl (.int ka n)))|none=>False) (fun h=>?_) h
  split at h
  ·rename_i n hn;exact⟨_,h,by simp[hn]⟩
  ·exact h.elim
theorem JB{op:BinOp}{x y:ByteArray}{K:D→Prop}(h:qI op x y K):∃d,K d∧qI op x y (fun z=>z=d):=by
 unfold qI at h ⊢
 split at h
 ·exact⟨_,h.2,h.1,rfl⟩
 ·exact⟨_,h,rfl⟩
 ·exact⟨_,h,rfl⟩
 ·exact h.elim
theorem JN{op:BinOp}{x y:D}{K:D→Prop}(h:uc op x y K):∃d,K d∧uc op x y (fun z=>z=d):=by
 unfold uc at h ⊢
 split at h
 ·exact J3 h
 ·exact JB h
 ·exact h.elim
theorem HX{op:BinOp}{x y:D}{K:D→Prop}(h:m7 op x y K):∃d,K d∧m7 op x y (fun z=>z=d):=by
 unfold m7 at h ⊢
 split at h
 ·split at h
  ·exact⟨_,h,rfl⟩
  ·exact⟨_,h,rfl⟩
  ·exact h.elim
 ·exact h.elim
theorem Jx{ik:IntKind}{op:BinOp}{x y:D}{K:D→Prop}(h:qL ik op x y K):∃d,K d∧qL ik op x y (fun z=>z=d):=by
 unfold qL at h ⊢
 split at h
 ·rename_i l m hl hm
  cases hb:(jy x&&jy y) with
  | false=>rw[hb] at h;exact h.elim
  | true=>
   rw[hb] at h;simp only[cond_true] at h ⊢
   split at h
   ·exact⟨_,h,rfl⟩
   ·exact⟨_,h,rfl⟩
   ·exact h.elim
 ·exact h.elim
theorem LG{op:UnOp}{x:D}{K:D→Prop}(h:AO op x K):∃d,K d∧AO op x (fun z=>z=d):=by
 unfold AO at h ⊢
 split at h
 ·exact⟨_,h,rfl⟩
 ·exact Gm h
 ·exact h.elim
theorem FM{t1 t2:Nat}{x:D}(h:jS E η t1 t2 x k):Loc (fun η k=>jS E η t1 t2 x k) η k:=by
 unfold jS at h
 split at h
 ·rename_i e1 e2
  replace h:=bo h
  obtain⟨h0,m',h1,h⟩:=h;exact⟨_,_,_,h,fun _ _=>by simp only[jS,e1,e2,h0,cond_true];exact⟨m',h1,by trivial,by trivial,by trivial⟩⟩
 ·rename_i e1 e2
  split at h
  ·rename_i e3
   split at h
   ·rename_i rows rd hs;obtain⟨hsz,bs,hb,h⟩:=h;refine⟨_,_,_,h,fun η' hη=>?_⟩;have e4:=jk hs hη;unfold jS;rw[e1,e2];simp only[e3,e4];exact⟨hsz,bs,hb,by trivial,by trivial,by trivial⟩
   ·exact h.elim
  ·exact h.elim
 ·exact h.elim
end
def xC(G:CG):Prop:=∀t η f l k,G t η f l k→Loc (fun η k=>G t η f l k) η k
section
variable {η:Env} {k:Ks} {E:TE} {t:Nat} {ρ:Operand→Option D} {G:CG}
abbrev Is3(d:D)(rd:List Nat)(e:List (Nat×B)):Ks:=fun x y z=>x=d∧y=rd∧z=e
theorem fy{ρ':Operand→Option D}:∀{xs:List Operand},(∀x∈xs,ρ' x=ρ x)→xs.map ρ'=xs.map ρ
 | [],_=>rfl
 | x :: l,h=>by simp[h x (by simp),fy (xs:=l) (fun y hy=>h y (by simp[hy]))]
theorem lz{ρ':Operand→Option D}:∀{ps:List (Nat×Operand)},(∀p∈ps,ρ' p.2=ρ p.2)→(ps.map fun p=>(p.1,ρ' p.2))=(ps.map fun p=>(p.1,ρ p.2))
 | [],_=>rfl
 | p :: l,h=>by simp[h p (by simp),lz (ps:=l) (fun y hy=>h y (by simp[hy]))]
theorem Gg(hG:xC G){c:Call}(h:dT E η t G ρ c k):∃d rd e,k d rd e∧∀η' ρ',(∀x∈c.operands.toList,ρ' x=ρ x)→(∀b∈rd,η' b=η b)→dT E η' t G ρ' c (Is3 d rd e):=by
 obtain⟨cal,args,tys⟩:=c;unfold dT at h;simp only at h;have key:∀{x:Operand} {ρ':Operand→Option D},(∀x∈(Call.operands ⟨cal,args,tys⟩).toList,ρ' x=ρ x)→x∈args.toList→ρ' x=ρ x:=by
  intro x ρ' h hx;refine h x ?_;simp only[Call.operands,Array.toList_append,List.mem_append];exact .inr hx
 split at h
 ·split at h
  ·rename_i x t' e1 e2
   split at h
   ·rename_i d hx;obtain⟨d,rd,e,h1,h2⟩:=II h;exact⟨d,rd,e,h1,fun η' ρ' hρ hη=>by simp only[dT,e1,e2,key hρ (x:=x) (by rw[e1];simp),hx];exact h2 η' hη⟩
   ·exact h.elim
  ·exact h.elim
 ·split at h
  ·rename_i x y t' t'' e1 e2
   split at h
   ·rename_i d d' hx hy
    replace h:=bo h
    obtain⟨hb,h⟩:=h;obtain⟨d,rd,e,h1,h2⟩:=BK h;exact⟨d,rd,e,h1,fun η' ρ' hρ hη=>by simp only[dT,e1,e2,key hρ (x:=x) (by rw[e1];simp),key hρ (x:=y) (by rw[e1];simp),hx,hy,hb,cond_true];exact h2 η' hη⟩
   ·exact h.elim
  ·exact h.elim
 ·split at h
  ·rename_i x y e1
   split at h
   ·rename_i a1 b1 hx hy;exact⟨_,_,_,h,fun η' ρ' hρ hη=>by simp only[dT,e1,key hρ (x:=x) (by rw[e1];simp),key hρ (x:=y) (by rw[e1];simp),hx,hy];exact⟨by trivial,by trivial,by trivial⟩⟩
   ·exact h.elim
  ·exact h.elim
 ·split at h
  ·rename_i x y e1
   split at h
   ·rename_i a1 b1 hx hy;exact⟨_,_,_,h,fun η' ρ' hρ hη=>by simp only[dT,e1,key hρ (x:=x) (by rw[e1];simp),key hρ (x:=y) (by rw[e1];simp),hx,hy];exact⟨by trivial,by trivial,by trivial⟩⟩
   ·exact h.elim
  ·exact h.elim
 ·rename_i fo;have keyf:∀{ρ':Operand→Option D},(∀x∈(Call.operands ⟨.value fo,args,tys⟩).toList,ρ' x=ρ x)→ρ' fo=ρ fo:=by
   intro ρ' h;exact h fo (by simp[Call.operands])
  split at h
  ·rename_i f cs l hf hl;obtain⟨d,rd,e,h1,h2⟩:=hG _ _ _ _ _ h;exact⟨d,rd,e,h1,fun η' ρ' hρ hη=>by simp only[dT,keyf hρ,hf,fy (xs:=args.toList) (fun x hx=>key hρ hx),hl];exact h2 η' hη⟩
  ·rename_i f cs l hf hl;obtain⟨d,rd,e,h1,h2⟩:=hG _ _ _ _ _ h;exact⟨d,rd,e,h1,fun η' ρ' hρ hη=>by simp only[dT,keyf hρ,hf,fy (xs:=args.toList) (fun x hx=>key hρ hx),hl];exact h2 η' hη⟩
  ·exact h.elim
 ·exact h.elim
theorem Mg(hG:xC G){op:Op}(h:wpOp E η t G ρ op k):∃d rd e,k d rd e∧∀η' ρ',(∀x∈op.operands.toList,ρ' x=ρ x)→(∀b∈rd,η' b=η b)→wpOp E η' t G ρ' op (Is3 d rd e):=by
 unfold wpOp at h
 split at h
 ·rename_i x
  split at h
  ·rename_i d hx;exact⟨_,_,_,h,fun η' ρ' hρ hη=>by simp only[wpOp,hρ x (by simp[Op.operands]),hx];exact⟨by trivial,by trivial,by trivial⟩⟩
  ·exact h.elim
 ·rename_i x
  split at h
  ·rename_i d hx;exact⟨_,_,_,h,fun η' ρ' hρ hη=>by simp only[wpOp,hρ x (by simp[Op.operands]),hx];exact⟨by trivial,by trivial,by trivial⟩⟩
  ·exact h.elim
 ·rename_i x y z
  split at h
  ·rename_i q d d' hx hy hz
   cases q with
   | true=>exact⟨_,_,_,h.1 rfl,fun η' ρ' hρ hη=>by simp only[wpOp,hρ x (by simp[Op.operands]),hρ y (by simp[Op.operands]),hρ z (by simp[Op.operands]),hx,hy,hz];exact⟨fun _=>⟨by trivial,by trivial,by trivial⟩,fun h=>(by cases h)⟩⟩
   | false=>exact⟨_,_,_,h.2 rfl,fun η' ρ' hρ hη=>by simp only[wpOp,hρ x (by simp[Op.operands]),hρ y (by simp[Op.operands]),hρ z (by simp[Op.operands]),hx,hy,hz];exact⟨fun h=>(by cases h),fun _=>⟨by trivial,by trivial,by trivial⟩⟩⟩
  ·exact h.elim
 ·rename_i t'
  split at h
  ·rename_i i hi
   replace h:=bo h
   exact⟨_,_,_,h.2,fun η' ρ' hρ hη=>by simp only[wpOp,hi,h.1,cond_true,cH (hη t (by simp))];exact⟨by trivial,by trivial,by trivial⟩⟩
  ·exact h.elim
 ·rename_i t' x
  split at h
  ·rename_i d hx;exact⟨_,_,_,h.2,fun η' ρ' hρ hη=>by simp only[wpOp,hρ x (by simp[Op.operands]),hx,cH (hη t (by simp))];exact⟨h.1,by trivial,by trivial,by trivial⟩⟩
  ·exact h.elim
 ·rename_i t' ps;obtain⟨d,rd,e,h1,h2⟩:=D5 (η:=η) h;exact⟨d,rd,e,h1,fun η' ρ' hρ hη=>by
   have e1:(ps.toList.map fun p=>(p.1,ρ' p.2))=(ps.toList.map fun p=>(p.1,ρ p.2)):=lz (fun p hp=>hρ p.2 (by simp only[Op.operands,List.mem_map];exact⟨p,hp,rfl⟩));simp only[wpOp,e1];exact h2 η' hη⟩
 ·rename_i t' m ps;obtain⟨d,rd,e,h1,h2⟩:=JW h;exact⟨d,rd,e,h1,fun η' ρ' hρ hη=>by
   have e1:(ps.toList.map fun p=>(p.1,ρ' p.2))=(ps.toList.map fun p=>(p.1,ρ p.2)):=lz (fun p hp=>hρ p.2 (by simp only[Op.operands,List.mem_map];exact⟨p,hp,rfl⟩));simp only[wpOp,e1];exact h2 η' hη⟩
 ·rename_i t' x
  split at h
  ·rename_i d0 hx;obtain⟨d,rd,e,h1,h2⟩:=GF h;exact⟨d,rd,e,h1,fun η' ρ' hρ hη=>by simp only[wpOp,hρ x (by simp[Op.operands]),hx];exact h2 η' hη⟩
  ·exact h.elim
 ·rename_i t' x y
  split at h
  ·rename_i d0 d1 hx hy;obtain⟨d,rd,e,h1,h2⟩:=EG h;exact⟨d,rd,e,h1,fun η' ρ' hρ hη=>by simp only[wpOp,hρ x (by simp[Op.operands]),hρ y (by simp[Op.operands]),hx,hy];exact h2 η' hη⟩
  ·exact h.elim
 ·rename_i x
  split at h
  ·rename_i hx;exact⟨_,_,_,h,fun η' ρ' hρ hη=>by simp only[wpOp,hρ x (by simp[Op.operands]),hx];exact⟨by trivial,by trivial,by trivial⟩⟩
  ·rename_i hx;exact⟨_,_,_,h,fun η' ρ' hρ hη=>by simp only[wpOp,hρ x (by simp[Op.operands]),hx];exact⟨by trivial,by trivial,by trivial⟩⟩
  ·rename_i hx;exact⟨_,_,_,h,fun η' ρ' hρ hη=>by simp only[wpOp,hρ x (by simp[Op.operands]),hx];exact⟨by trivial,by trivial,by trivial⟩⟩
  ·rename_i hx;exact⟨_,_,_,h,fun η' ρ' hρ hη=>by simp only[wpOp,hρ x (by simp[Op.operands]),hx];exact⟨by trivial,by trivial,by trivial⟩⟩
  ·rename_i hx;exact⟨_,_,_,h,fun η' ρ' hρ hη=>by simp only[wpOp,hρ x (by simp[Op.operands]),hx];exact⟨by trivial,by trivial,by trivial⟩⟩
  ·exact h.elim
 ·rename_i op ty x y ty2
  split at h
  ·rename_i d0 d1 hx hy
   split at h
   ·rename_i hi;obtain⟨d,h1,h2⟩:=HX (K:=fun r=>k r [] []) h;refine⟨d,[],[],h1,fun η' ρ' hρ hη=>?_⟩;simp only[wpOp,hρ x (by simp[Op.operands]),hρ y (by simp[Op.operands]),hx,hy,hi];have e1:(fun z=>z=d)=(fun r=>Is3 d [] [] r [] []):=by funext z;simp[Is3]
    rwa [e1] at h2
   ·rename_i sz0 z0 len e esz hi
    split at h
    ·rename_i sz1 z1 ik hie;obtain⟨d,h1,h2⟩:=oO (K:=fun r=>k r [] []) (f:=fun K=>qL ik op d0 d1 K) Jx h;refine⟨d,[],[],h1,fun η' ρ' hρ hη=>?_⟩;simp only[wpOp,hρ x (by simp[Op.operands]),hρ y (by simp[Op.operands]),hx,hy,hi,hie];have e1:(fun z=>z=d)=(fun r=>Is3 d [] [] r [] []):=by funext z;simp[Is3]
     rwa [e1] at h2
    ·exact h.elim
   ·rename_i hi hi';obtain⟨d,h1,h2⟩:=JN (K:=fun r=>k r [] []) h;refine⟨d,[],[],h1,fun η' ρ' hρ hη=>?_⟩;simp only[wpOp,hρ x (by simp[Op.operands]),hρ y (by simp[Op.operands]),hx,hy];have e1:(fun z=>z=d)=(fun r=>Is3 d [] [] r [] []):=by funext z;simp[Is3]
    rw[e1] at h2;exact h2
  ·exact h.elim
 ·rename_i op ty x
  split at h
  ·rename_i d0 hx;obtain⟨d,h1,h2⟩:=LG (K:=fun r=>k r [] []) h;refine⟨d,[],[],h1,fun η' ρ' hρ hη=>?_⟩;simp only[wpOp,hρ x (by simp[Op.operands]),hx];have e1:(fun z=>z=d)=(fun r=>Is3 d [] [] r [] []):=by funext z;simp[Is3]
   rwa [e1] at h2
  ·exact h.elim
 ·rename_i t1 t2 x
  split at h
  ·rename_i d0 hx;obtain⟨d,rd,e,h1,h2⟩:=FM h;exact⟨d,rd,e,h1,fun η' ρ' hρ hη=>by simp only[wpOp,hρ x (by simp[Op.operands]),hx];exact h2 η' hη⟩
  ·exact h.elim
 ·rename_i f fst cap
  split at h
  ·rename_i l hf hl;refine⟨_,_,_,h,fun η' ρ' hρ hη=>?_⟩;have e1:=fy (ρ:=ρ) (ρ':=ρ') (xs:=cap.toList) (fun x hx=>hρ x (by simp only[Op.operands,Array.toList_append,List.mem_append];exact .inr hx));simp only[wpOp,hf,e1,hl];exact⟨by trivial,by trivial,by trivial⟩
  ·exact h.elim
 ·rename_i t' x y
  split at h
  ·rename_i d0 d1 hx hy;obtain⟨d,rd,e,h1,h2⟩:=Ie h;exact⟨d,rd,e,h1,fun η' ρ' hρ hη=>by simp only[wpOp,hρ x (by simp[Op.operands]),hρ y (by simp[Op.operands]),hx,hy];exact h2 η' hη⟩
  ·exact h.elim
 ·rename_i t' x lo hi mx
  split at h
  ·rename_i d0 hx;obtain⟨d,rd,e,h1,h2⟩:=Eb (η:=η) h;refine⟨d,rd,e,h1,fun η' ρ' hρ hη=>?_⟩;have e1:dV ρ' lo=dV ρ lo:=by
    cases lo with
    | none=>rfl
    | some y=>simp only[dV,hρ y (by simp[Op.operands])]
   have e2:dV ρ' hi=dV ρ hi:=by
    cases hi with
    | none=>rfl
    | some y=>simp only[dV,hρ y (by simp[Op.operands])]
   simp only[wpOp,hρ x (by simp[Op.operands]),hx,e1,e2];exact h2 η' hη
  ·exact h.elim
 ·rename_i t' x j
  split at h
  ·rename_i d0 hx;obtain⟨d,rd,e,h1,h2⟩:=ue (η:=η) h;exact⟨d,rd,e,h1,fun η' ρ' hρ hη=>by simp only[wpOp,hρ x (by simp[Op.operands]),hx];exact h2 η' hη⟩
  ·exact h.elim
 ·rename_i t' x j
  split at h
  ·rename_i d0 hx;obtain⟨d,rd,e,h1,h2⟩:=DZ (η:=η) h;exact⟨d,rd,e,h1,fun η' ρ' hρ hη=>by simp only[wpOp,hρ x (by simp[Op.operands]),hx];exact h2 η' hη⟩
  ·exact h.elim
 ·rename_i t' x y
  split at h
  ·rename_i d0 d1 hx hy;obtain⟨d,rd,e,h1,h2⟩:=uy h;exact⟨d,rd,e,h1,fun η' ρ' hρ hη=>by simp only[wpOp,hρ x (by simp[Op.operands]),hρ y (by simp[Op.operands]),hx,hy];exact h2 η' hη⟩
  ·exact h.elim
 ·rename_i t' x y
  split at h
  ·rename_i d0 d1 hx hy;obtain⟨d,rd,e,h1,h2⟩:=Ez (η:=η) h;exact⟨d,rd,e,h1,fun η' ρ' hρ hη=>by simp only[wpOp,hρ x (by simp[Op.operands]),hρ y (by simp[Op.operands]),hx,hy];exact h2 η' hη⟩
  ·exact h.elim
 ·rename_i x j
  split at h
  ·rename_i d0 hx;obtain⟨d,rd,e,h1,h2⟩:=xM (η:=η) h;exact⟨d,rd,e,h1,fun η' ρ' hρ hη=>by simp only[wpOp,hρ x (by simp[Op.operands]),hx];exact h2 η' hη⟩
  ·exact h.elim
 ·rename_i c;obtain⟨d,rd,e,h1,h2⟩:=Gg hG h;exact⟨d,rd,e,h1,fun η' ρ' hρ hη=>h2 η' ρ' hρ hη⟩
 ·exact h.elim
end
structure Al (R:Type) where
 bot:R
 ak:Bool→R→R
 nS:Bool→R→R→R
 bh:{α:Type}→List α→Nat→(α→R)→R
 cE:Int→(Nat→R)→R
 jm:Int→(Int→R)→R
structure ux{R:Type}(al:Al R)(T:R→Prop):Prop where
 bot:¬T al.bot
 ak:∀{c:Bool} {k:R},T (al.ak c k)→c=true∧T k
 nS:∀{c:Bool} {a b:R},T (al.nS c a b)→(c=true→T a)∧(c=false→T b)
 bh:∀{α:Type} {xs:List α} {i:Nat} {k:α→R},T (al.bh xs i k)→∃x,xs[i]?=some x∧T (k x)
 cE:∀{n:Int} {k:Nat→R},T (al.cE n k)→∃i:Nat,n=(i:Int)∧T (k i)
 jm:∀{n:Int} {k:Int→R},T (al.jm n k)→T (k n)
def alO(β:Type):Al (Option β) where
 bot:=none
 ak c k:=bif c then k else none
 nS c a b:=bif c then a else b
 bh xs i k:=match xs[i]? with
  | some x=>k x
  | none=>none
 cE n k:=match n with
  | .ofNat i=>k i
  | .negSucc _=>none
 jm n k:=k n
theorem qi{β:Type}{r:β}:ux (alO β) (fun o=>o=some r) where
 bot h:=by cases h
 ak {c k} h:=by cases c with
  | true=>exact⟨rfl,h⟩
  | false=>cases h
 nS {c a b} h:=by cases c with
  | true=>exact⟨fun _=>h,fun e=>(by cases e)⟩
  | false=>exact⟨fun e=>(by cases e),fun _=>h⟩
 bh {α xs i k} h:=by
  simp only[alO] at h
  split at h
  ·rename_i x hx;exact⟨x,hx,h⟩
  ·cases h
 cE {n k} h:=by
  simp only[alO] at h
  split at h
  ·rename_i i;exact⟨i,rfl,h⟩
  ·cases h
 jm h:=h
abbrev Kr(R:Type):=D→List Nat→List (Nat×B)→R
abbrev Ot:=Option (D×List Nat×List (Nat×B))
def vI{α:Type}(b:Bool)(x:Option α):Option α:=bif b then x else none
def qq(η:Env):D→Option (List (List F)×List Nat)
 | .sub b v sz lo hi _=>match η b with
  | some (.ro v' _ sz' rows)=>bif Nat.beq v v'&&Nat.beq sz sz' then some ((rows.take hi).drop lo,[b]) else none
  | _=>none
 | .fx rows=>some (rows,[])
 | d=>fI η d
def B7:D→Bool
 | .sub _ _ _ _ _ _=>true
 | .fx _=>true
 | _=>false
def om(sz:Nat)(rows:List (List F)):Bool:=rows.all fun r=>Nat.beq r.length sz
def D3:D→Option F
 | .fr (.vl (.int k n))=>some (.vl (.int k n))
 | .fr (.vl (.string s))=>some (.vl (.string s))
 | _=>none
def eqN(a b:Int):Bool:=match a,b with
 | .ofNat m,.ofNat n=>Nat.beq m n
 | .negSucc m,.negSucc n=>Nat.beq m n
 | _,_=>false
def eqL:List UInt8→List UInt8→Bool
 | [],[]=>true
 | a :: l,b :: m=>Nat.beq a.toNat b.toNat&&eqL l m
 | _,_=>false
def ya(a b:IntKind):Bool:=match a,b with
 | .i8,.i8=>true | .i16,.i16=>true | .i32,.i32=>true | .i64,.i64=>true
 | .u8,.u8=>true | .u16,.u16=>true | .u32,.u32=>true | .u64,.u64=>true
 | _,_=>false
def xH:F→F→Option Bool
 | .vl (.int k a),.vl (.int k' b)=>bif ya k k' then some (eqN a b) else none
 | .vl (.string a),.vl (.string b)=>some (eqL a.data.toList b.data.toList)
 | _,_=>none
def gZ(k:F):List (List F)→Nat→Option (Option (Nat×F))
 | [],_=>some none
 | r :: l,i=>match r with
  | [k',v]=>(match xH k k' with
   | some true=>some (some (i,v))
   | some false=>gZ k l (i+1)
   | none=>none)
  | _=>none
def vQ(i:TI):D:=match i.k.agg,i.z with
 | false,[v]=>.fr (.vl v)
 | _,z=>.ag (z.map fun v=>.fr (.vl v))
def Aj(i:TI):Bool:=match i.k.agg,i.z with
 | false,[_]=>true
 | true,_ :: _=>true
 | _,_=>false
def CL(i:TI)(k:D):Bool:=match i.k,k with
 | .int k',.fr (.vl (.int k'' _))=>ya k' k''
 | .str,.fr (.vl (.string _))=>true
 | _,_=>false
def byR(u:UInt8):List F:=[.vl (.int .u8 (u.toNat:Int))]
def H2(i:TI):Bool:=match i.z,i.k with
 | [.int .u8 (.ofNat 0)],.int .u8=>true
 | _,_=>false
def JT:D→Option ByteArray
 | .fr (.vl (.string s))=>some s
 | _=>none
def isStr(E:TE)(t:Nat):Bool:=match E t with
 | some ⟨_,_,.str⟩=>true
 | _=>false
def wH:D→Option Bool
 | .fr (.vl .nilFunc)=>some true
 | .cl _ _=>some false
 | .fr (.cl _ _)=>some false
 | .mcl _ _ _=>some false
 | .yl _ _=>some false
 | _=>none
def wI:D→Option Bool
 | .fr (.vl (.pointer none))=>some true
 | .ptr _ _ _=>some false
 | .rp _ _ _ _ _=>some false
 | .fr (.pt _ _ _ _)=>some false
 | _=>none
def isT:Option Bool→Bool
 | some true=>true
 | _=>false
def IU(f:D→Option Bool)(x y:D):Option Bool:=bif isT (f y) then f x else bif isT (f x) then f y else none
def eqB(x y:Bool):Bool:=bif x then y else !y
def ix:List D→List D→Option Bool
 | [],[]=>some true
 | a :: l,b :: m=>match a,b,ix l m with
  | .fr (.vl (.bool x)),.fr (.vl (.bool y)),some r=>some (eqB x y&&r)
  | _,_,_=>none
 | _,_=>none
section
variable {R:Type} (al:Al R) (Q:Nat→Bool) (E:TE) (η:Env) (t:Nat) (ρ:Operand→Option D)
def fp(d:D)(k:Nat→R):R:=match d with
 | .fr (.vl (.int _ n))=>al.cE n k
 | _=>al.bot
def uf(d:Nat)(x:Option (Option D))(k:Nat→R):R:=match x with
 | some none=>k d
 | some (some x)=>fp al x k
 | none=>al.bot
def qX(n:Nat)(lo hi mx:Option (Option D))(k:Nat→Nat→Bool→R):R:=uf al 0 lo fun l=>uf al n hi fun h=>al.ak (Nat.ble l h&&Nat.ble h n) (match mx with
 | some none=>k l h false
 | some (some m)=>(match hi with
  | some none=>al.bot
  | _=>fp al m fun m=>al.ak (Nat.beq m h) (k l h true))
 | none=>al.bot)
def gC(t':Nat)(x:D)(lo hi mx:Option (Option D))(k:Kr R):R:=match E t' with
 | some ⟨_,_,.sl e sz _⟩=>match x with
  | .own b v=>(match η b with
   | some (.ro v' _ sz' rows)=>al.ak (Nat.beq v v'&&Nat.beq sz sz') (qX al rows.length lo hi mx fun l h ex=>k (.sub b v sz l h ex) [b] [])
   | _=>al.bot)
  | .sub b v sz' lo0 hi0 ex0=>al.ak (Nat.beq sz sz') (qX al (hi0 - lo0) lo hi mx fun l h ex=>al.ak (ex || !ex0||Nat.beq h (hi0 - lo0)) (k (.sub b v sz (lo0+l) (lo0+h) (ex||ex0)) [] []))
  | .fx rows=>qX al rows.length lo hi mx fun l h ex=>al.ak ((ex||Nat.beq h rows.length)&&om sz rows) (k (.fx ((rows.take h).drop l)) [] [])
  | .fr (.sl rows)=>qX al rows.length lo hi mx fun l h ex=>al.ak (ex&&om sz rows) (k (.fx ((rows.take h).drop l)) [] [])
  | .fr (.vl (.slice none 0 0))=>qX al 0 lo hi mx fun l h ex=>k (.fr (.vl (.slice none 0 0))) [] []
  | _=>al.bot
 | _=>al.bot
def eZ(t':Nat)(x y:D)(k:Kr R):R:=match E t',qq η y with
 | some ⟨_,_,.sl e sz by_⟩,some (news,rd)=>al.ak (om sz news) (match x with
  | .own b v=>(match η b with
   | some (.ro v' e' sz' rows)=>al.ak (Nat.beq v v'&&Nat.beq e e'&&Nat.beq sz sz'&&Nat.ble (rows.length+news.length) maxLen&&Nat.ble ((rows.length+news.length) * by_) 140737488355328)
     (k (.own b (v+1)) (b :: rd) [(b,.ro (v+1) e sz (rows++news))])
   | _=>al.bot)
  | .fr (.vl (.slice none 0 0))=>al.ak (Nat.ble news.length maxLen&&Nat.ble (news.length * by_) 140737488355328) (k (.own t (nv η t)) (t :: rd) [(t,.ro (nv η t) e sz news)])
  | .sub b v sz1 lo hi ex=>(match η b with
   | some (.ro v' e' sz' rows)=>al.ak (Nat.beq v v'&&Nat.beq e e'&&Nat.beq sz sz'&&Nat.beq sz sz1&&Nat.ble lo hi&&Nat.ble hi rows.length) (match ex with
    | false=>al.ak (Nat.beq lo 0&&Nat.ble (hi+news.length) maxLen&&Nat.ble ((hi+news.length) * by_) 140737488355328)
      (k (.own b (v+1)) (b :: rd) [(b,.ro (v+1) e sz (rows.take hi++news))])
    | true=>match news with
     | []=>k (.sub b v sz1 lo hi true) (b :: rd) []
     | n0 :: ns=>al.ak (Nat.blt lo hi&&Nat.ble ((hi - lo)+(ns.length+1)) maxLen&&Nat.ble (((hi - lo)+(ns.length+1)) * by_) 140737488355328)
      (k (.own t (nv η t)) (t :: b :: rd) [(t,.ro (nv η t) e sz ((rows.take hi).drop lo++n0 :: ns))]))
   | _=>al.bot)
  | .fx rows=>(match news with
   | []=>k (.fx rows) rd []
   | n0 :: ns=>al.ak (om sz rows&&Nat.ble (rows.length+(ns.length+1)) maxLen&&Nat.ble ((rows.length+(ns.length+1)) * by_) 140737488355328)
    (k (.own t (nv η t)) (t :: rd) [(t,.ro (nv η t) e sz (rows++n0 :: ns))]))
  | _=>al.bot)
 | _,_=>al.bot
def gH(t':Nat)(x:D)(s:ByteArray)(k:Kr R):R:=match E t' with
 | some ⟨_,_,.sl e sz by_⟩=>(match E e with
  | some ie=>al.ak (H2 ie&&Nat.beq sz 1&&Nat.beq by_ 1) (match x with
   | .own b v=>(match η b with
    | some (.ro v' e' sz' rows)=>al.ak (Nat.beq v v'&&Nat.beq e e'&&Nat.beq sz sz') (al.ak (Nat.ble (rows.length+s.size) 140737488355328)
      (k (.own b (v+1)) [b] [(b,.ro (v+1) e 1 (rows++s.data.toList.map byR))]))
    | _=>al.bot)
   | .fr (.vl (.slice none 0 0))=>al.ak (Nat.ble s.size 140737488355328) (k (.own t (nv η t)) [t] [(t,.ro (nv η t) e 1 (s.data.toList.map byR))])
   | _=>al.bot)
  | none=>al.bot)
 | _=>al.bot
def oR(t':Nat)(x:D)(k:Kr R):R:=match E t' with
 | some ⟨_,_,.sl _ sz _⟩=>(match x with
  | .sub b v sz' lo hi _=>k (.fr (.vl (.int .i64 ((hi - lo:Nat):Int)))) [] []
  | .fx rows=>k (.fr (.vl (.int .i64 (rows.length:Int)))) [] []
  | _=>al.bot)
 | some ⟨_,_,.mp _ _⟩=>(match x with
  | .mv b v=>(match η b with
   | some (.mp v' rows)=>al.ak (Nat.beq v v') (k (.fr (.vl (.int .i64 (rows.length:Int)))) [b] [])
   | _=>al.bot)
  | .fr (.mp rows)=>k (.fr (.vl (.int .i64 (rows.length:Int)))) [] []
  | _=>al.bot)
 | _=>al.bot
def jQ(t':Nat)(x y:D)(k:Kr R):R:=match E t',qq η y with
 | some ⟨_,_,.sl e sz by_⟩,some (src,rd)=>al.ak (om sz src) (match x with
  | .own b v=>(match η b with
   | some (.ro v' e' sz' rows)=>al.ak (Nat.beq v v'&&Nat.beq e e'&&Nat.beq sz sz')
     (k (.fr (.vl (.int .i64 ((min rows.length src.length:Nat):Int)))) (b :: rd) [(b,.ro v e sz (src.take rows.length++rows.drop src.length))])
   | _=>al.bot)
  | _=>al.bot)
 | _,_=>al.bot
def cL(t':Nat)(x y:D)(k:Kr R):R:=match E t' with
 | some ⟨_,_,.sl e sz _⟩=>fp al y fun i=>(match x with
  | .sub b v sz' lo hi _=>(match η b with
   | some (.ro v' _ sz1 rows)=>al.ak (Nat.beq v v'&&Nat.beq sz sz'&&Nat.beq sz sz1&&Nat.blt i (hi - lo)) (k (.rp b v sz (lo+i) 0) [b] [])
   | _=>al.bot)
  | .fx rows=>al.bh rows i fun r=>al.ak (Nat.beq r.length sz) (k (.fr (.pt sz rows i 0)) [] [])
  | _=>al.bot)
 | _=>al.bot
def F5:TK→Bool
 | .int _=>true
 | .bool=>true
 | .str=>true
 | .fn=>true
 | .mp _ _=>true
 | _=>false
def rT:TK→Bool
 | .st _=>true
 | _=>false
def lP(t':Nat)(x y:D)(k:Kr R):R:=match E t' with
 | some ⟨_,_,.ar len e sz⟩=>fp al y fun i=>(match E e with
  | some ie=>(match rT ie.k with
   | false=>al.ak (jy x&&Nat.blt i len&&F5 ie.k) (al.bh x.cells (i * sz) fun d=>k d [] [])
   | true=>al.ak (jy x&&Nat.blt i len&&Nat.beq ie.sz sz&&Nat.blt 0 sz&&Nat.ble (i * sz+sz) x.cells.length) (k (.ag ((x.cells.drop (i * sz)).take sz)) [] []))
  | none=>al.bot)
 | _=>al.bot
def eM(t':Nat)(x key:D)(commaOk:Bool)(k:Kr R):R:=match E t' with
 | some ⟨_,_,.mp kt et⟩=>(match E kt,E et,D3 key with
  | some ki,some ei,some kf=>al.ak (CL ki key&&Aj ei) (
   let go (rows:List (List F)) (rd:List Nat):R:=al.bh (gZ kf rows 0).toList 0 fun r=>match r with
    | some (_,v)=>k (bif commaOk then .tp [v.toD,Bo true] else v.toD) rd []
    | none=>k (bif commaOk then .tp [vQ ei,Bo false] else vQ ei) rd []
   match x with
   | .mv b v=>(match η b with
    | some (.mp v' rows)=>al.ak (Nat.beq v v') (go rows [b])
    | _=>al.bot)
   | .fr (.mp rows)=>go rows []
   | _=>al.bot)
  | _,_,_=>al.bot)
 | _=>al.bot
def eW(t':Nat)(x key y:D)(k:Kr R):R:=match E t' with
 | some ⟨_,_,.mp kt et⟩=>(match E kt,D3 key,D.toF η 4 y with
  | some ki,some kf,some (yf,is)=>(match x with
   | .mv b v=>al.ak (CL ki key && !is.elem b) (match η b with
    | some (.mp v' rows)=>al.ak (Nat.beq v v') (al.bh (gZ kf rows 0).toList 0 fun r=>match r with
     | some (i,_)=>k Un (b :: is) ((b,.mp v (rows.set i [kf,yf])) :: aS η is)
     | none=>k Un (b :: is) ((b,.mp v (rows++[[kf,yf]])) :: aS η is))
    | _=>al.bot)
   | _=>al.bot)
  | _,_,_=>al.bot)
 | _=>al.bot
def mN(op:BinOp)(r:Option Bool)(k:Kr R):R:=match op,r with
 | .eql,some b=>k (Bo b) [] []
 | .neq,some b=>k (Bo (!b)) [] []
 | _,_=>al.bot
def uR(op:BinOp)(ty:Nat)(x y:D)(k:Kr R):R:=match E ty with
 | some ⟨_,_,.fn⟩=>mN al op (IU wH x y) k
 | some ⟨_,_,.ptr⟩=>mN al op (IU wI x y) k
 | some ⟨_,_,.sl _ _ _⟩=>(match x,y with
  | .fr (.sl rows),.fr (.vl (.slice none 0 0))=>al.ak (Nat.blt 0 rows.length) (mN al op (some false) k)
  | .fr (.vl (.slice none 0 0)),.fr (.vl (.slice none 0 0))=>mN al op (some true) k
  | _,_=>al.bot)
 | some i=>al.ak (Q ty&&jy x&&jy y&&Nat.beq x.cells.length i.sz&&Nat.beq y.cells.length i.sz) (mN al op (ix x.cells y.cells) k)
 | none=>al.bot
def nk(op:Op)(k:Kr R):R:=match op with
 | .slice t' x lo hi mx=>(match ρ x with
  | some d=>gC al E η t' d (dV ρ lo) (dV ρ hi) (dV ρ mx) k
  | none=>al.bot)
 | .indexAddr t' x y=>(match ρ x,ρ y with|some d,some d'=>cL al E η t' d d' k|_,_=>al.bot)
 | .index t' x y=>(match ρ x,ρ y with|some d,some d'=>lP al E t' d d' k|_,_=>al.bot)
 | .makeMap t' r=>(match E t' with
  | some ⟨_,_,.mp _ _⟩=>(match r with
   | none=>k (.mv t (nv η t)) [t] [(t,.mp (nv η t) [])]
   | some x=>(match ρ x with
    | some (.fr (.vl (.int _ _)))=>k (.mv t (nv η t)) [t] [(t,.mp (nv η t) [])]
    | _=>al.bot))
  | _=>al.bot)
 | .lookup t' x y c=>(match ρ x,ρ y with|some d,some d'=>eM al E η t' d d' c k|_,_=>al.bot)
 | .mapUpdate t' x y z=>(match ρ x,ρ y,ρ z with|some d,some d',some d''=>eW al E η t' d d' d'' k|_,_,_=>al.bot)
 | .binOp op ty x y _=>(match ρ x,ρ y with|some d,some d'=>uR al Q E op ty d d' k|_,_=>al.bot)
 | .makeFunc (.func f) fst cap=>(match fst.toList with
  | []=>al.bot
  | f1 :: fr=>(match jq ((f1 :: fr).map ρ),jq (cap.toList.map ρ) with|some l,some m=>k (.mcl f l m) [] []|_,_=>al.bot))
 | .call c=>(match c.callee with
  | .builtin .len=>(match c.args.toList,c.argTypes.toList with
   | [x],[t']=>(match ρ x with|some d=>oR al E η t' d k|none=>al.bot)
   | _,_=>al.bot)
  | .builtin .append=>(match c.args.toList,c.argTypes.toList with
   | [x,y],[t',t'']=>(match ρ x,ρ y with
    | some d,some d'=>(match JT d' with
     | some s=>al.ak (isStr E t'') (gH al E η t t' d s k)
     | none=>al.ak (Nat.beq t' t'') (eZ al E η t t' d d' k))
    | _,_=>al.bot)
   | _,_=>al.bot)
  | .builtin .copy=>(match c.args.toList,c.argTypes.toList with
   | [x,y],[t',t'']=>(match ρ x,ρ y with|some d,some d'=>al.ak (Nat.beq t' t'') (jQ al E η t' d d' k)|_,_=>al.bot)
   | _,_=>al.bot)
  | _=>al.bot)
 | _=>al.bot
def NV:D→Bool
 | .own _ _=>true
 | .sub _ _ _ _ _ _=>true
 | .fx _=>true
 | .fr (.vl (.slice none 0 0))=>true
 | _=>false
def NR(t':Nat):Bool:=match E t' with
 | some ⟨_,_,.mp _ _⟩=>true
 | _=>false
def Nt(op:Op):Bool:=match op with
 | .slice t' x lo hi mx=>(match ρ x with|some d=>NV d||mx.isSome|none=>false)
 | .indexAddr t' x y=>(match ρ x with|some d=>B7 d|none=>false)
 | .index t' x y=>(match E t' with|some ⟨_,_,.ar _ _ _⟩=>true|_=>false)
 | .makeMap _ _=>true
 | .lookup _ _ _ _=>true
 | .mapUpdate _ _ _ _=>true
 | .binOp _ ty _ _ _=>Q ty||(match E ty with|some ⟨_,_,.fn⟩=>true|some ⟨_,_,.ptr⟩=>true|some ⟨_,_,.sl _ _ _⟩=>true|_=>false)
 | .makeFunc _ fst _=>!fst.isEmpty
 | .call c=>(match c.callee with
  | .builtin .len=>(match c.args.toList,c.argTypes.toList with
   | [x],[t']=>NR E t'||(match ρ x with|some d=>B7 d|none=>false)
   | _,_=>false)
  | .builtin .append=>(match c.args.toList with
   | [x,y]=>(match ρ x,ρ y with|some d,some d'=>B7 d||B7 d'||(JT d').isSome|_,_=>false)
   | _=>false)
  | .builtin .copy=>true
  | _=>false)
 | _=>false
end
def opX(Q:Nat→Bool)(E:TE)(η:Env)(t:Nat)(ρ:Operand→Option D)(op:Op):Ot:=nk (alO _) Q E η t ρ op fun d rd e=>some (d,rd,e)
def Cg(η η':Env)(x y:Ot):Prop:=∀d rd e,x=some (d,rd,e)→(∀b∈rd,η' b=η b)→y=some (d,rd,e)
def Rd(b:Nat)(x:Ot):Prop:=∀d rd e,x=some (d,rd,e)→b∈rd
section
variable {η η':Env} {b:Nat}
theorem Rd.ret{d:D}{rd:List Nat}{e:List (Nat×B)}(h:b∈rd):Rd b (some (d,rd,e)):=fun _ _ _ q=>by cases q;exact h
theorem Rd.bot:Rd b (alO (D×List Nat×List (Nat×B))).bot:=fun _ _ _ q=>by cases q
theorem Rd.ak{c:Bool}{x:Ot}(h:Rd b x):Rd b ((alO _).ak c x):=fun d rd e q=>by
 cases c with
 | true=>exact h d rd e q
 | false=>cases q
theorem Rd.cE{n:Int}{x:Nat→Ot}(h:∀i,Rd b (x i)):Rd b ((alO _).cE n x):=fun d rd e q=>by
 simp only[alO] at q
 split at q
 ·exact h _ d rd e q
 ·cases q
theorem Rd.bh{α:Type}{xs:List α}{i:Nat}{x:α→Ot}(h:∀i,Rd b (x i)):Rd b ((alO _).bh xs i x):=fun d rd e q=>by
 simp only[alO] at q
 split at q
 ·exact h _ d rd e q
 ·cases q
theorem Rd.eG{d:D}{x:Nat→Ot}(h:∀i,Rd b (x i)):Rd b (fp (alO _) d x):=by
 unfold fp
 split
 ·exact Rd.cE h
 ·exact Rd.bot
theorem Rd.bnd{n:Nat}{d:Option (Option D)}{x:Nat→Ot}(h:∀i,Rd b (x i)):Rd b (uf (alO _) n d x):=by
 unfold uf
 split
 ·exact h _
 ·exact Rd.eG h
 ·exact Rd.bot
theorem Rd.cut{n:Nat}{lo hi mx:Option (Option D)}{x:Nat→Nat→Bool→Ot}(h:∀i j c,Rd b (x i j c)):Rd b (qX (alO _) n lo hi mx x):=by
 unfold qX;refine Rd.bnd fun i=>Rd.bnd fun j=>Rd.ak ?_
 split
 ·exact h _ _ _
 ·split
  ·exact Rd.bot
  ·exact Rd.eG fun m=>Rd.ak (h _ _ _)
 ·exact Rd.bot
theorem Cg.refl{x:Ot}:Cg η η' x x:=fun _ _ _ h _=>h
theorem Cg.rd{x y:Ot}(b:Nat)(hr:Rd b x)(h:η' b=η b→Cg η η' x y):Cg η η' x y:=fun d rd e hx hη=>h (hη b (hr d rd e hx)) d rd e hx hη
theorem Cg.rds{x y:Ot}(l:List Nat)(hr:∀b∈l,Rd b x)(h:(∀b∈l,η' b=η b)→Cg η η' x y):Cg η η' x y:=fun d rd e hx hη=>h (fun b hb=>hη b (hr b hb d rd e hx)) d rd e hx hη
theorem Cg.bot{y:Ot}:Cg η η' (alO _).bot y:=fun _ _ _ q=>by cases q
theorem Cg.ak{c:Bool}{x y:Ot}(h:Cg η η' x y):Cg η η' ((alO _).ak c x) ((alO _).ak c y):=by
 cases c with
 | true=>exact h
 | false=>exact Cg.bot
theorem Dx{d:D}{news:List (List F)}{rd:List Nat}(h:qq η d=some (news,rd))(hη:∀b∈rd,η' b=η b):qq η' d=some (news,rd):=by
 unfold qq at h ⊢
 split at h
 ·rename_i b v sz lo hi ex
  split at h
  ·rename_i v' e sz' rows hb
   cases hv:(Nat.beq v v'&&Nat.beq sz sz') with
   | false=>rw[hv] at h;cases h
   | true=>
    rw[hv] at h;simp only[cond_true] at h
    cases h;rw[hη _ (by simp),hb];simp only[hv,cond_true]
  ·cases h
 ·exact h
 ·exact jk h hη
variable {E:TE} {t:Nat} {Q:Nat→Bool}
theorem DF{t':Nat}{x:D}{lo hi mx:Option (Option D)}:Cg η η' (gC (alO _) E η t' x lo hi mx (fun d rd e=>some (d,rd,e))) (gC (alO _) E η' t' x lo hi mx (fun d rd e=>some (d,rd,e))):=by
 unfold gC
 split
 ·split
  ·rename_i b v;exact Cg.rd b (by repeat' (first|exact Rd.bot|(apply Rd.ret;simp;done)|apply Rd.ak|(apply Rd.bh;intro _)|(apply Rd.cE;intro _)|(apply Rd.eG;intro _)|(apply Rd.cut;intro _ _ _)|split)) fun e=>by rw[e];exact Cg.refl
  all_goals exact Cg.refl
 ·exact Cg.refl
theorem BJ{t':Nat}{x y:D}:Cg η η' (eZ (alO _) E η t t' x y (fun d rd e=>some (d,rd,e))) (eZ (alO _) E η' t t' x y (fun d rd e=>some (d,rd,e))):=by
 unfold eZ
 cases hi:E t' with
 | none=>exact Cg.bot
 | some i=>
  obtain⟨n,z,k⟩:=i
  cases k<;>try exact Cg.bot
  cases hs:qq η y with
  | none=>exact Cg.bot
  | some p=>
   obtain⟨news,rd0⟩:=p;dsimp only;refine Cg.rds rd0 (fun b hb=>?_) fun hη=>?_
   ·repeat' (first|exact Rd.bot|(apply Rd.ret;simp;done)|apply Rd.ak|(apply Rd.bh;intro _)|(apply Rd.cE;intro _)|(apply Rd.eG;intro _)|(apply Rd.cut;intro _ _ _)|split)
    all_goals (apply Rd.ret;simp[hb])
   ·rw[Dx hs hη];dsimp only;apply Cg.ak
    split
    ·rename_i b v;exact Cg.rd b (by repeat' (first|exact Rd.bot|(apply Rd.ret;simp;done)|apply Rd.ak|(apply Rd.bh;intro _)|(apply Rd.cE;intro _)|(apply Rd.eG;intro _)|(apply Rd.cut;intro _ _ _)|split)) fun e=>by rw[e];exact Cg.refl
    ·exact Cg.rd t (by repeat' (first|exact Rd.bot|(apply Rd.ret;simp;done)|apply Rd.ak|(apply Rd.bh;intro _)|(apply Rd.cE;intro _)|(apply Rd.eG;intro _)|(apply Rd.cut;intro _ _ _)|split)) fun e=>by rw[cH e];exact Cg.refl
    ·rename_i b v sz1 lo hi ex;refine Cg.rd b (by repeat' (first|exact Rd.bot|(apply Rd.ret;simp;done)|apply Rd.ak|(apply Rd.bh;intro _)|(apply Rd.cE;intro _)|(apply Rd.eG;intro _)|(apply Rd.cut;intro _ _ _)|split)) fun e=>?_
     rw[e]
     split
     ·apply Cg.ak
      split
      ·exact Cg.refl
      ·split
       ·exact Cg.refl
       ·exact Cg.rd t (by repeat' (first|exact Rd.bot|(apply Rd.ret;simp;done)|apply Rd.ak|(apply Rd.bh;intro _)|(apply Rd.cE;intro _)|(apply Rd.eG;intro _)|(apply Rd.cut;intro _ _ _)|split)) fun e=>by rw[cH e];exact Cg.refl
     ·exact Cg.refl
    ·split
     ·exact Cg.refl
     ·exact Cg.rd t (by repeat' (first|exact Rd.bot|(apply Rd.ret;simp;done)|apply Rd.ak|(apply Rd.bh;intro _)|(apply Rd.cE;intro _)|(apply Rd.eG;intro _)|(apply Rd.cut;intro _ _ _)|split)) fun e=>by rw[cH e];exact Cg.refl
    ·exact Cg.refl
theorem Er{t':Nat}{x:D}{s:ByteArray}:Cg η η' (gH (alO _) E η t t' x s (fun d rd e=>some (d,rd,e))) (gH (alO _) E η' t t' x s (fun d rd e=>some (d,rd,e))):=by
 unfold gH
 split
 ·split
  ·apply Cg.ak
   split
   ·rename_i b v;exact Cg.rd b (by repeat' (first|exact Rd.bot|(apply Rd.ret;simp;done)|apply Rd.ak|(apply Rd.bh;intro _)|(apply Rd.cE;intro _)|(apply Rd.eG;intro _)|(apply Rd.cut;intro _ _ _)|split)) fun e=>by rw[e];exact Cg.refl
   ·exact Cg.rd t (by repeat' (first|exact Rd.bot|(apply Rd.ret;simp;done)|apply Rd.ak|(apply Rd.bh;intro _)|(apply Rd.cE;intro _)|(apply Rd.eG;intro _)|(apply Rd.cut;intro _ _ _)|split)) fun e=>by rw[cH e];exact Cg.refl
   ·exact Cg.refl
  ·exact Cg.refl
 ·exact Cg.refl
theorem IB{t':Nat}{x:D}:Cg η η' (oR (alO _) E η t' x (fun d rd e=>some (d,rd,e))) (oR (alO _) E η' t' x (fun d rd e=>some (d,rd,e))):=by
 unfold oR
 split
 ·exact Cg.refl
 ·split
  ·rename_i b v;exact Cg.rd b (by repeat' (first|exact Rd.bot|(apply Rd.ret;simp;done)|apply Rd.ak|(apply Rd.bh;intro _)|(apply Rd.cE;intro _)|(apply Rd.eG;intro _)|(apply Rd.cut;intro _ _ _)|split)) fun e=>by rw[e];exact Cg.refl
  all_goals exact Cg.refl
 ·exact Cg.refl
theorem GG{t':Nat}{x y:D}:Cg η η' (jQ (alO _) E η t' x y (fun d rd e=>some (d,rd,e))) (jQ (alO _) E η' t' x y (fun d rd e=>some (d,rd,e))):=by
 unfold jQ
 cases hi:E t' with
 | none=>exact Cg.bot
 | some i=>
  obtain⟨n,z,k⟩:=i
  cases k<;>try exact Cg.bot
  cases hs:qq η y with
  | none=>exact Cg.bot
  | some p=>
   obtain⟨news,rd0⟩:=p;dsimp only;refine Cg.rds rd0 (fun b hb=>?_) fun hη=>?_
   ·repeat' (first|exact Rd.bot|(apply Rd.ret;simp;done)|apply Rd.ak|(apply Rd.bh;intro _)|(apply Rd.cE;intro _)|(apply Rd.eG;intro _)|(apply Rd.cut;intro _ _ _)|split)
    all_goals (apply Rd.ret;simp[hb])
   ·rw[Dx hs hη];dsimp only;apply Cg.ak
    split
    ·rename_i b v;exact Cg.rd b (by repeat' (first|exact Rd.bot|(apply Rd.ret;simp;done)|apply Rd.ak|(apply Rd.bh;intro _)|(apply Rd.cE;intro _)|(apply Rd.eG;intro _)|(apply Rd.cut;intro _ _ _)|split)) fun e=>by rw[e];exact Cg.refl
    ·exact Cg.refl
theorem ud{t':Nat}{x y:D}:Cg η η' (cL (alO _) E η t' x y (fun d rd e=>some (d,rd,e))) (cL (alO _) E η' t' x y (fun d rd e=>some (d,rd,e))):=by
 unfold cL
 split
 ·unfold fp
  split
  ·simp only[alO]
   split
   ·split
    ·rename_i b v sz1 lo hi ex;exact Cg.rd b (by repeat' (first|exact Rd.bot|(apply Rd.ret;simp;done)|apply Rd.ak|(apply Rd.bh;intro _)|(apply Rd.cE;intro _)|(apply Rd.eG;intro _)|(apply Rd.cut;intro _ _ _)|split)) fun e=>by rw[e];exact Cg.refl
    all_goals exact Cg.refl
   ·exact Cg.refl
  ·exact Cg.refl
 ·exact Cg.refl
theorem Bc{t':Nat}{x y:D}{c:Bool}:Cg η η' (eM (alO _) E η t' x y c (fun d rd e=>some (d,rd,e))) (eM (alO _) E η' t' x y c (fun d rd e=>some (d,rd,e))):=by
 unfold eM;dsimp only
 split
 ·split
  ·apply Cg.ak
   split
   ·rename_i b v;exact Cg.rd b (by repeat' (first|exact Rd.bot|(apply Rd.ret;simp;done)|apply Rd.ak|(apply Rd.bh;intro _)|(apply Rd.cE;intro _)|(apply Rd.eG;intro _)|(apply Rd.cut;intro _ _ _)|split)) fun e=>by rw[e];exact Cg.refl
   all_goals exact Cg.refl
  ·exact Cg.refl
 ·exact Cg.refl
theorem BH{t':Nat}{x y z:D}:Cg η η' (eW (alO _) E η t' x y z (fun d rd e=>some (d,rd,e))) (eW (alO _) E η' t' x y z (fun d rd e=>some (d,rd,e))):=by
 unfold eW
 split
 ·rename_i kt et hi
  cases hk:E kt with
  | none=>exact Cg.bot
  | some ki=>
   cases hf:D3 y with
   | none=>exact Cg.bot
   | some kf=>
    cases hz:D.toF η 4 z with
    | none=>exact Cg.bot
    | some p=>
     obtain⟨yf,is⟩:=p;dsimp only;refine Cg.rds is (fun b hb=>?_) fun hη=>?_
     ·repeat' (first|exact Rd.bot|(apply Rd.ret;simp;done)|apply Rd.ak|(apply Rd.bh;intro _)|(apply Rd.cE;intro _)|(apply Rd.eG;intro _)|(apply Rd.cut;intro _ _ _)|split)
      all_goals (apply Rd.ret;simp[hb])
     ·rw[fv 4 z yf is hz hη];dsimp only
      split
      ·rename_i b v;exact Cg.rd b (by repeat' (first|exact Rd.bot|(apply Rd.ret;simp;done)|apply Rd.ak|(apply Rd.bh;intro _)|(apply Rd.cE;intro _)|(apply Rd.eG;intro _)|(apply Rd.cut;intro _ _ _)|split)) fun e=>by rw[e,cZ hη];exact Cg.refl
      ·exact Cg.bot
 ·exact Cg.bot
theorem xp{ρ ρ':Operand→Option D}{x:Option Operand}(h:∀y,x=some y→ρ' y=ρ y):dV ρ' x=dV ρ x:=by
 cases x with
 | none=>rfl
 | some y=>simp only[dV,h y rfl]
theorem Ll{ρ ρ':Operand→Option D}{op:Op}(hρ:∀x∈op.operands.toList,ρ' x=ρ x):Cg η η' (opX Q E η t ρ op) (opX Q E η' t ρ' op):=by
 unfold opX nk
 cases op<;>try exact Cg.bot
 case slice t' x lo hi mx=>
  dsimp only;rw[hρ x (by simp[Op.operands]),xp (fun y e=>hρ y (by simp[Op.operands,e])),xp (x:=hi) (fun y e=>hρ y (by simp[Op.operands,e])),xp (x:=mx) (fun y e=>hρ y (by simp[Op.operands,e]))]
  split
  ·exact DF
  ·exact Cg.bot
 case indexAddr t' x y=>
  dsimp only;rw[hρ x (by simp[Op.operands]),hρ y (by simp[Op.operands])]
  split
  ·exact ud
  ·exact Cg.bot
 case index t' x y=>
  dsimp only;rw[hρ x (by simp[Op.operands]),hρ y (by simp[Op.operands])];exact Cg.refl
 case makeMap t' r=>
  dsimp only
  split
  ·split
   ·exact Cg.rd t (by repeat' (first|exact Rd.bot|(apply Rd.ret;simp;done)|apply Rd.ak|(apply Rd.bh;intro _)|(apply Rd.cE;intro _)|(apply Rd.eG;intro _)|(apply Rd.cut;intro _ _ _)|split)) fun e=>by rw[cH e];exact Cg.refl
   ·rename_i x;rw[hρ x (by simp[Op.operands])];exact Cg.rd t (by repeat' (first|exact Rd.bot|(apply Rd.ret;simp;done)|apply Rd.ak|(apply Rd.bh;intro _)|(apply Rd.cE;intro _)|(apply Rd.eG;intro _)|(apply Rd.cut;intro _ _ _)|split)) fun e=>by rw[cH e];exact Cg.refl
  ·exact Cg.bot
 case lookup t' x y c=>
  dsimp only;rw[hρ x (by simp[Op.operands]),hρ y (by simp[Op.operands])]
  split
  ·exact Bc
  ·exact Cg.bot
 case mapUpdate t' x y z=>
  dsimp only;rw[hρ x (by simp[Op.operands]),hρ y (by simp[Op.operands]),hρ z (by simp[Op.operands])]
  split
  ·exact BH
  ·exact Cg.bot
 case binOp op ty x y ty2=>
  dsimp only;rw[hρ x (by simp[Op.operands]),hρ y (by simp[Op.operands])];exact Cg.refl
 case makeFunc f fst cap=>
  cases f with
  | func f=>
   dsimp only;have e2:=fy (ρ:=ρ) (ρ':=ρ') (xs:=cap.toList) (fun x hx=>hρ x (by simp only[Op.operands,Array.toList_append,List.mem_append];exact .inr hx));have e1:=fy (ρ:=ρ) (ρ':=ρ') (xs:=fst.toList) (fun x hx=>hρ x (by simp only[Op.operands,Array.toList_append,List.mem_append];exact .inl hx))
   cases hf:fst.toList with
   | nil=>exact Cg.refl
   | cons f1 fr=>
    rw[hf] at e1;dsimp only;rw[e1,e2];exact Cg.refl
  | _=>exact Cg.bot
 case call c=>
  obtain⟨cal,args,tys⟩:=c;have key:∀{x:Operand},x∈args.toList→ρ' x=ρ x:=by
   intro x hx;refine hρ x ?_;simp only[Op.operands,Call.operands,Array.toList_append,List.mem_append];exact .inr hx
  dsimp only
  split
  ·split
   ·rename_i x t' e1 e2;rw[key (x:=x) (by rw[e1];simp)]
    split
    ·exact IB
    ·exact Cg.bot
   ·exact Cg.bot
  ·split
   ·rename_i x y t' t'' e1 e2;rw[key (x:=x) (by rw[e1];simp),key (x:=y) (by rw[e1];simp)]
    split
    ·split
     ·exact Cg.ak Er
     ·exact Cg.ak BJ
    ·exact Cg.bot
   ·exact Cg.bot
  ·split
   ·rename_i x y t' t'' e1 e2;rw[key (x:=x) (by rw[e1];simp),key (x:=y) (by rw[e1];simp)]
    split
    ·exact Cg.ak GG
    ·exact Cg.bot
   ·exact Cg.bot
  ·exact Cg.bot
theorem DG{ρ:Operand→Option D}{op:Op}{d:D}{rd:List Nat}{e:List (Nat×B)}(h:opX Q E η t ρ op=some (d,rd,e)){ρ':Operand→Option D}(hρ:∀x∈op.operands.toList,ρ' x=ρ x)(hη:∀b∈rd,η' b=η b):opX Q E η' t ρ' op=some (d,rd,e):=Ll hρ d rd e h hη
end
end Go.Vc
end
