/- The texts that the card needs, part 5. -/
import Derived.Test.YthebhpcjcihjgaaGreatDoorP3
set_option linter.all false
section
namespace Go.Km
open Go Go.RowKit Go.Vc
open Go.Sl hiding lk
section
variable {c:Cf} {w:World} {Ow:Nat→Nat→Prop} {W:Bs}
theorem ye {h:List (Nat×B)} {b:Nat} {o:Obj} {x:B} (hp:Hp c Ow (lk h) w) (hold:Old W c Ow w) (hv:x.ver=nv (lk h) b)
  (hx:∀c' S w',c.le c'→c'.ι b (nv (lk h) b)=some (some ⟨w.heap.size,0,none⟩,0,0)→S w.heap.size→w'.heap[w.heap.size]?=some o→x.on c' b S w') :
  ∃c' O',c.le c'∧c'.ι b (nv (lk h) b)=some (some ⟨w.heap.size,0,none⟩,0,0)∧Hp c' O' (lk ((b,x) :: h)) (w.alloc o)∧Old W c' O' (w.alloc o):=by
 have hfr:=hp.fresh b;have hle:c.le (c.add b (nv (lk h) b) (some ⟨w.heap.size,0,none⟩,0,0)):=Cf.gx hfr;have hc:Chg w (w.alloc o) (Ow b):=⟨rfl,rfl,rfl,by simp,fun j hj _=>Below.heap_alloc w o j hj⟩
 have hnew:∀g,(g=w.heap.size)→Ow b g∨(w.heap.size≤g∧g<(w.alloc o).heap.size):=fun g hg=>.inr ⟨by omega,by subst hg;simp⟩
 exact⟨_,_,hle,Cf.dK,hp.upd hc (S':=fun g=>g=w.heap.size) hnew hle rfl rfl (hp.de hv) (hx _ _ _ hle Cf.dK rfl (World.alloc_heap_new w o)),hold.upd hc hnew rfl rfl⟩
end
section
variable {P:Program} {X:Tx} (hX:mA P X) {W:Bs} {cs0:List Frame} {f0:Nat} {r:xN} (hΓ:GOk X.Γ W.c)
variable {R:Type} {al:Al R} {T:R→Prop} (hb:u7 al T) {K:Cfg→R} (hK:∀g,T (K g)→Snd P W cs0 f0 r g)
 {O:Orc R} (hO:yq P X T O) {fin:D→List (Nat×B)→R} (hfin:∀d h,T (fin d h)→r d h)
section
variable {c:Cf} {Ow:Nat→Nat→Prop} {w:World} {f N nx:Nat} {s:List (Nat×D)} {k:List KI} {ds:List (Nat×Nat)} {gro:Option (Nat×Nat)} {gcs:List Fm} {gh:List (Nat×B)}
 {a:Act} {todo:List Item} {ro:Option Nat} {frs:List Frame}
theorem Bp{f:Nat}{d:D}{u:Value}{g:FuncId}{l:Nat}{cs1:List D}(hd:D.rep c d u)(hc:d=.cl g cs1∨∃fs,d=.fr (.cl g fs)∧cs1=fs.map F.toD)(hcf:∀{P:Program},CF P g→CF P g) :
  ∃vs,u=.func (.func g) #[] vs.toArray∧D.aq c cs1 vs:=by
 rcases hc with rfl|⟨fs,rfl,rfl⟩
 ·unfold D.rep at hd;obtain⟨vs,h1,h2⟩:=hd;exact⟨vs,h1,h2⟩
 ·unfold D.rep F.rep at hd;obtain⟨vs,h1,h2⟩:=hd;exact⟨vs,h1,kk h2⟩
include hX hΓ hb hK in
theorem EP {x:Operand} {ps:Array Tmp} {asg body:Code} {t':List Item}
  (h:T (stepG al X O fin K ⟨⟨f,N,s,.code (.rangeFunc x ps asg body) :: k,ds,gro⟩,gcs,gh,nx⟩))
  (hs:bN c N s a.tmps) (hm:bQ c ds a.defers) (hro:lg c gro ro) (hcs:Fms c gcs frs) (hp:Hp c Ow (lk gh) w) (hold:Old W c Ow w) (hbot:fS ⟨f,N,s,k,ds,gro⟩ gcs=f0) (hk:KIs c k t') :
  jJ P W cs0 f0 r (lone ((bF f ro).atR a (.code (.rangeFunc x ps asg body) :: t')) (frs++cs0) w):=by
 have hg:GOk X.Γ c:=gok hΓ hold;simp only[stepG] at h
 split at h
 ·rename_i d hx;have hfv:D.rep c d (a.eval x):=m7 hs.sl hg hx;have fin_:∀{g:FuncId} {cs1:List D} {c2:Cf} {O2:Nat→Nat→Prop} {w2:World} {l:Nat} {b v:Nat} {h2:List (Nat×B)} {nx2:Nat} {mark:List Deferred} {fm2:Fm},(d=.cl g cs1∨∃fs,d=.fr (.cl g fs)∧cs1=fs.map F.toD)→
    T (gz al X K g (.yl b v :: cs1) (fm2 :: gcs) h2 nx2)→c.le c2→At0 c2 b v l→Hp c2 O2 (lk h2) w2→Old W c2 O2 w2→tB c2 fm2 ((bF f ro).atR { a with defers:=mark++a.defers } (.inRangeFunc l :: t'))→fS fm2 gcs=f0→
    (Instr.enterLoop f a.tmps ps asg body ro).run P w=.ok (l,mark) w2→jJ P W cs0 f0 r (lone ((bF f ro).atR a (.code (.rangeFunc x ps asg body) :: t')) (frs++cs0) w):=by
   intro g cs1 c2 O2 w2 l b v h2 nx2 mark fm2 hd hT hle hat hp2 hold2 hfm hbot2 hent;obtain⟨vs,hv1,hv2⟩:=Bp (f:=f) (l:=l) hfv hd (fun h=>h);refine pn hX hb hK (vs:=.func (.yield l) #[] #[] :: vs) hT ⟨_,vs,rfl,?_,D.aq.le hle _ _ hv2⟩ hfm (hcs.le hle) hp2 hold2 hbot2 fun hcf=>.one ?_
   ·unfold D.rep;exact⟨l,hat,rfl⟩
   ·refine stepR_rangeFunc (b:=bF f ro) (d:={ target:=.fn (.func g) vs.toArray,args:=#[.func (.yield l) #[] #[]] }) (w₁':=w2) hent ?_ ?_
    ·simp only[resolve,rangeCall];rw[hv1];simp[Deferred.ofValue,Act.eval]
    ·have:=hcf.run (#[.func (.yield l) #[] #[]]++vs.toArray) w2;simpa [invoke] using this
  cases gro with
  | none=>
   have hro:ro=none:=hro;subst hro;simp only at h;obtain⟨c1,O1,l1,a1,p1,o1⟩:=ye (o:=.deferred (some [])) (b:=nx) (x:=.df (nv (lk gh) nx)) hp hold rfl (fun c' S w' _ h1 h2 h3=>⟨[w.heap.size],.inl ⟨_,rfl,h1⟩,by simp,fun g hg=>by simp at hg;subst hg;exact⟨h2,h3⟩⟩);obtain⟨c2,O2,l2,a2,p2,o2⟩:=ye (o:=.loop { state:=.ready,pending:=none,fn:=f,tmps:=a.tmps,params:=ps,assign:=asg,body,defers:=w.heap.size }) (b:=nx+1)
    (x:=.lp (nv (lk ((nx,.df (nv (lk gh) nx)) :: gh)) (nx+1)) ⟨0,none,f,N,s,ps.toList,asg,body,nx,nv (lk gh) nx⟩) p1 o1 rfl
    (fun c' S w' hle h1 h2 h3=>⟨_,_,w.heap.size,h1,h2,h3,rfl,rfl,rfl,by simp,rfl,rfl,(hs.le l1).le hle,hle.ι _ _ _ a1,rfl⟩)
   have hent:=run_enterLoop_outer (P:=P) (w:=w) f a.tmps ps asg body;have hle:=l1.trans l2;rw[World.size_alloc] at a2;have key:∀{g:FuncId} {cs1:List D},(d=.cl g cs1∨∃fs,d=.fr (.cl g fs)∧cs1=fs.map F.toD)→T (gz al X K g (.yl (nx+1) (nv (up (lk gh) nx (.df (nv (lk gh) nx))) (nx+1)) :: cs1)
     (⟨f,N,s,.rf (nx+1) (nv (up (lk gh) nx (.df (nv (lk gh) nx))) (nx+1)) :: k,(nx,nv (lk gh) nx) :: ds,none⟩ :: gcs)
     ((nx+1,.lp (nv (up (lk gh) nx (.df (nv (lk gh) nx))) (nx+1)) ⟨0,none,f,N,s,ps.toList,asg,body,nx,nv (lk gh) nx⟩) :: (nx,.df (nv (lk gh) nx)) :: gh) (nx+2))→
     jJ P W cs0 f0 r (lone ((bF f none).atR a (.code (.rangeFunc x ps asg body) :: t')) (frs++cs0) w):=fun hd hT=>
    fin_ (l:=w.heap.size+1) hd hT hle a2 p2 o2 ⟨_,_,none,rfl,hs.le hle,⟨_,t',rfl,⟨_,rfl,a2⟩,hk.le hle⟩,⟨[w.heap.size],_,rfl,.inl ⟨_,rfl,l2.ι _ _ _ a1⟩,hm.le hle⟩,rfl⟩ (by rw[←hbot];exact eW) hent
   split at h
   ·exact key (.inl rfl) h
   ·exact key (.inr ⟨_,rfl,rfl⟩) h
   ·exact(hb.bot h).elim
  | some p=>
   obtain⟨b0,v0⟩:=p;obtain⟨g0,rfl,hg0⟩:=hro;simp only at h
   split at h
   ·rename_i v' L hlp;obtain⟨h1,hx1⟩:=aE hb h;clear h;have h1:=Nat.eq_of_beq_eq_true h1;subst h1;obtain⟨g',L',gd,e1,e2,e3,e4,e5,e6,e7,e8,e9,e10,e11,e12⟩:=hp.pc b0 _ hlp;have hg0:c.ι b0 v0=some (some ⟨g0,0,none⟩,0,0):=hg0;rw[hg0] at e1
    cases e1;obtain⟨c2,O2,l2,a2,p2,o2⟩:=ye (o:=.loop { state:=.ready,pending:=none,fn:=f,tmps:=a.tmps,params:=ps,assign:=asg,body,defers:=L'.defers }) (b:=nx)
     (x:=.lp (nv (lk gh) nx) ⟨0,none,f,N,s,ps.toList,asg,body,L.db,L.dv⟩) hp hold rfl
     (fun c' S w' hle h1 h2 h3=>⟨_,_,gd,h1,h2,h3,rfl,rfl,rfl,by simp,rfl,rfl,hs.le hle,hle.ι _ _ _ e11,e12⟩)
    have hent:=run_enterLoop_inner (P:=P) (w:=w) e3 f a.tmps ps asg body;have key:∀{g:FuncId} {cs1:List D},(d=.cl g cs1∨∃fs,d=.fr (.cl g fs)∧cs1=fs.map F.toD)→T (gz al X K g (.yl nx (nv (lk gh) nx) :: cs1)
      (⟨f,N,s,.rf nx (nv (lk gh) nx) :: k,ds,some (b0,v0)⟩ :: gcs) ((nx,.lp (nv (lk gh) nx) ⟨0,none,f,N,s,ps.toList,asg,body,L.db,L.dv⟩) :: gh) (nx+1))→
      jJ P W cs0 f0 r (lone ((bF f (some g0)).atR a (.code (.rangeFunc x ps asg body) :: t')) (frs++cs0) w):=fun hd hT=>
     fin_ (l:=w.heap.size) (mark:=[]) hd hT l2 a2 p2 o2 ⟨_,_,some g0,rfl,hs.le l2,⟨_,t',rfl,⟨_,rfl,a2⟩,hk.le l2⟩,hm.le l2,⟨g0,rfl,l2.ι _ _ _ hg0⟩⟩ (by rw[←hbot];exact eW) hent
    split at hx1
    ·exact key (.inl rfl) hx1
    ·exact key (.inr ⟨_,rfl,rfl⟩) hx1
    ·exact(hb.bot hx1).elim
   ·exact(hb.bot h).elim
 ·exact(hb.bot h).elim
theorem E5{cd:Code}{t':List Item}{m':Machine}(h:jJ P W cs0 f0 r (lone ((bF f ro).atR a (.inLoop cd :: t')) (frs++cs0) w)):jJ P W cs0 f0 r (lone ((bF f ro).atR a (.code (.loop cd) :: t')) (frs++cs0) w):=by
 obtain⟨v,w',fr,d,hh,c',O',⟨n,hn⟩,h2,h3,h4⟩:=h
 cases n with
 | zero=>
  simp only[runN] at hn;have e:=congrArg (fun m:Stepped=>match m with | .next m=>(m.gs[0]?).map (fun g:Goroutine=>g.frame.mode)|_=>none) hn;have hm:=h3.1;simp[lone,Frame.atR] at e;rw[hm] at e
  cases e
 | succ n=>
  simp only[runN] at hn;rw[stepR_inLoop] at hn;exact⟨v,w',fr,d,hh,c',O',.head stepR_loop ⟨n,hn⟩,h2,h3,h4⟩
include hX hΓ hb hK hO hfin in
theorem F7{g:Cfg}(h:T (stepG al X O fin K g)):Snd P W cs0 f0 r g:=by
 intro c Ow fr frs w ⟨⟨a,todo,ro,hfr,hs,hk,hm,hro⟩,hcs,hp,hold,hbot⟩;subst hfr;obtain⟨⟨f,N,s,k,ds,gro⟩,gcs,gh,nx⟩:=g;simp only at hs hk hm hro hcs hp hbot ⊢;have hg:GOk X.Γ c:=gok hΓ hold
 cases k with
 | nil=>
  have hk:todo=[]:=hk;subst hk;exact nw hX hb hK hfin (j:=none) h hs hm hro hcs hp hold hbot (fun _=>stepR_end rfl) (fun l v w' c1 cs hr=>stepR_round_end rfl rfl hr)
 | cons x k=>
  obtain⟨it,t',rfl,hit,hk⟩:=hk;have hbt:∀(k:List KI),fS ⟨f,N,s,k,ds,gro⟩ gcs=f0:=fun k=>by rw[←hbot];exact eW
  cases x with
  | code cd=>
   have hit:it=.code cd:=hit;subst hit
   cases cd with
   | skip=>simp only[stepG] at h;exact pV hK h hs hm hro hcs hp hold (hbt []) hk stepR_skip
   | label l=>simp only[stepG] at h;exact pV hK h hs hm hro hcs hp hold (hbt []) hk stepR_label
   | seq x y=>simp only[stepG] at h;exact pV hK h hs hm hro hcs hp hold (hbt []) ⟨_,_,rfl,rfl,_,_,rfl,rfl,hk⟩ stepR_seq
   | cond x y z=>
    simp only[stepG] at h;unfold F6 at h
    split at h
    ·rename_i q hq;have hx:evD X.Γ s x=some (.fr (.vl (.bool q))):=by
      cases he:evD X.Γ s x with
      | none=>rw[he] at hq;cases hq
      | some d=>rw[he] at hq;simp at hq;rw[hq]
     have hv:=aO (m7 hs.sl hg hx);have h:=CN hb h
     cases q with
     | true=>exact pV hK (h.1 rfl) hs hm hro hcs hp hold (hbt []) ⟨_,_,rfl,rfl,hk⟩ (by rw[stepR_cond hv];rfl)
     | false=>exact pV hK (h.2 rfl) hs hm hro hcs hp hold (hbt []) ⟨_,_,rfl,rfl,hk⟩ (by rw[stepR_cond hv];rfl)
    ·exact(hb.bot h).elim
   | block id b=>simp only[stepG] at h;exact pV hK h hs hm hro hcs hp hold (hbt []) ⟨_,_,rfl,rfl,_,_,rfl,rfl,hk⟩ stepR_block
   | loop b=>
    simp only[stepG] at h;exact E5 (m':=lone ((bF f ro).atR a []) [] w) (hK _ h c Ow _ frs w ⟨⟨a,.inLoop b :: t',ro,rfl,hs,⟨_,_,rfl,rfl,hk⟩,hm,hro⟩,hcs,hp,hold,hbt _⟩)
   | scope b=>simp only[stepG] at h;exact pV hK h hs hm hro hcs hp hold (hbt []) ⟨_,_,rfl,rfl,_,_,rfl,rfl,hk⟩ (step_lone_go (by simp[Go.stepG,Go.stepG.exec,Frame.atR]))
   | exit id=>
    simp only[stepG] at h
    split at h
    ·rename_i k' hk';obtain⟨t2,h1,h2⟩:=gC hk' hk;exact pV hK h hs hm hro hcs hp hold (hbt []) h2 (stepR_exit h1)
    ·rename_i hk';have h1:=cg hk' hk;exact nw hX hb hK hfin (j:=some (.exit id)) h hs hm hro hcs hp hold (hbt _) (fun e=>by rcases e with e|e<;>cases e) (fun l v w' c1 cs hr=>stepR_round_exit rfl rfl h1 hr)
   | goto l=>
    simp only[stepG] at h
    split at h
    ·rename_i k' hk';obtain⟨t2,h1,h2⟩:=gu hk' hk;exact pV hK h hs hm hro hcs hp hold (hbt []) h2 (stepR_goto h1)
    ·rename_i hk';have h1:=ca hk' hk;exact nw hX hb hK hfin (j:=some (.goto l)) h hs hm hro hcs hp hold (hbt _) (fun e=>by rcases e with e|e<;>cases e) (fun l v w' c1 cs hr=>stepR_round_goto rfl rfl h1 hr)
   | ret=>simp only[stepG] at h;exact nw hX hb hK hfin (j:=some .ret) h hs hm hro hcs hp hold (hbt _) (fun _=>stepR_ret rfl) (fun l v w' c1 cs hr=>stepR_round_ret rfl rfl hr)
   | region id ops draw=>
    cases draw with
    | false=>simp only[stepG] at h;exact pV hK h hs hm hro hcs hp hold (hbt []) ⟨_,_,rfl,JF ops,hk⟩ stepR_region
    | true=>
     simp only[stepG] at h;obtain⟨h1,h⟩:=aE hb h;exact H5 hX hΓ hb hK hO h1 h hs hm hro hcs hp hold (hbt _) hk
   | rangeFunc x ps asg body=>exact EP (O:=O) (fin:=fin) hX hΓ hb hK h hs hm hro hcs hp hold (hbt _) hk
   | refuse _=>simp only[stepG] at h;exact(hb.bot h).elim
  | blk id=>have hit:it=.inBlock id:=hit;subst hit;simp only[stepG] at h;exact pV hK h hs hm hro hcs hp hold (hbt []) hk stepR_inBlock
  | scope cd=>have hit:it=.inScope cd:=hit;subst hit;simp only[stepG] at h;exact pV hK h hs hm hro hcs hp hold (hbt []) hk (step_lone_go (by simp[Go.stepG,Go.stepG.exec,Frame.atR]))
  | loop cd=>have hit:it=.inLoop cd:=hit;subst hit;simp only[stepG] at h;exact pV hK h hs hm hro hcs hp hold (hbt []) ⟨_,_,rfl,rfl,_,_,rfl,rfl,hk⟩ stepR_inLoop
  | reg ops l=>
   cases l with
   | nil=>
    obtain⟨il,rfl,hil⟩:=hit;have:il=[]:=by simpa using hil
    subst this;simp only[stepG] at h;exact pV hK h hs hm hro hcs hp hold (hbt []) hk stepR_region_end
   | cons o l=>
    obtain⟨i,il,rfl,ho,hil⟩:=yB hit;simp only[stepG] at h;have skip:∀{s:List (Nat×D)},bN c N s a.tmps→¬Region.wanted o (yielded ops a.tmps)=true→T (al.au (dOk N o.dst) (K ⟨⟨f,N,nD s o.dst Un,.reg ops l :: k,ds,gro⟩,gcs,gh,nx⟩))→jJ P W cs0 f0 r (lone ((bF f ro).atR a (.inRegion ops (i :: il) :: t')) (frs++cs0) w):=by
     intro s hs hw hT;obtain⟨hd,hT⟩:=aE hb hT;have hw':Region.wanted o (yielded ops a.tmps)=false:=by simpa using hw
     have hst:=stepR_op_skip (P:=P) (b:=bF f ro) (a:=a) (k:=t') (cs:=frs++cs0) (w:=w) (ops:=ops) (i:=i) (rest:=il) (by simp[ho,hw']);simp only[ho,QR] at hst;refine nI hK hT (.one hst) ⟨⟨a.put o.dst undef,_,ro,rfl,hs.put hd (bc _),⟨_,t',rfl,hil,hk⟩,?_,hro⟩,hcs,hp,hold,by rw[←hbt []];exact eW⟩;have:(a.put o.dst undef).defers=a.defers:=by cases o.dst<;>rfl
     rw[this];exact hm
    split at h
    ·rename_i hgd;exact yy hX hΓ hb hK hO h hs hm hro hcs hp hold (hbt _) ho hil hk (by simp[Region.wanted,hgd])
    ·rename_i j want hgd
     split at h
     ·rename_i dj hj;obtain⟨hN,h⟩:=aE hb h
      split at h
      ·rename_i b hbj;have hv:=aO (hs.get dj _ hbj);have hy:=sN (ops:=ops) hj (Hr hs.sl) (by rw[CD _ _ _ hbj,hv]) (by exact hN);simp only at hy;obtain⟨h1,h2⟩:=CN hb h
       by_cases e:b=want
       ·subst e;have h1:=h1 (by cases b<;>rfl);refine yy hX hΓ hb hK hO h1 (hs.Mn hbj) hm hro hcs hp hold (by rw[←hbt []];exact eW) ho hil hk ?_;simp only[Region.wanted,hgd,hy];simp
       ·have e':b=!want:=by cases b<;>cases want<;>simp_all
        have h2:=h2 (by rw[e'];cases want<;>rfl);rw[←e'] at h2;refine skip (hs.Mn hbj) ?_ h2;simp only[Region.wanted,hgd,hy,e']
        cases want<;>simp
      ·rename_i vs hbj;have hv:=aO (hs.get dj _ hbj);have hy:=sN (ops:=ops) hj (Hr hs.sl) (by rw[CD _ _ _ hbj,hv]) (by exact hN);simp only at hy;refine skip hs ?_ h;simp only[Region.wanted,hgd,hy];simp
      ·exact(hb.bot h).elim
     ·exact(hb.bot h).elim
  | rf b v=>simp only[stepG] at h;exact(hb.bot h).elim
  | erf b v=>
   obtain⟨g,rfl,hgι⟩:=hit;simp only[stepG] at h
   split at h
   ·rename_i v' L hlp;obtain⟨h1,hx1⟩:=aE hb h;clear h;rw[Oi] at h1;obtain⟨h1,hst⟩:=h1;have h1:=Nat.eq_of_beq_eq_true h1;subst h1;obtain⟨g',L',gd,e1,e2,e3,e4,e5,e6,e7,e8,e9,e10,e11,e12⟩:=hp.pc b _ hlp;have hgι:c.ι b v=some (some ⟨g,0,none⟩,0,0):=hgι;rw[hgι] at e1
    cases e1;have hbusy:L'.state≠.busy:=by
     rw[e4]
     match hl:L.st with
     | 0=>simp[IN]
     | 1=>rw[hl] at hst;simp at hst
     | 2=>simp[IN]
     | n+3=>simp[IN]
    have hr:=run_endLoop (P:=P) e3 hbusy;obtain⟨O',hp',hold'⟩:=xW (o':=.loop { L' with state:=.exhausted }) (x':=.lp v { L with st:=3 }) hp hold hlp rfl e2 e3
     (fun w' hw'=>⟨g,_,gd,hgι,e2,hw',rfl,e5,e6,e7,e8,e9,e10,e11,e12⟩)
    refine nI hK hx1 (.one (stepR_endRangeFunc hr)) ⟨⟨a,_,ro,rfl,hs,?_,hm,hro⟩,hcs,hp',hold',by rw[←hbt []];exact eW⟩;rw[e5]
    cases L.jR with
    | none=>exact hk
    | some j=>exact⟨_,_,rfl,rfl,hk⟩
   ·exact(hb.bot h).elim
  | br=>
   have hit:it=.beginRound:=hit;subst hit;simp only[stepG] at h
   split at h
   ·rename_i b v;obtain⟨g,rfl,hgι⟩:=hro
    split at h
    ·rename_i v' L hlp;obtain⟨h1,hx1⟩:=aE hb h;clear h;rw[Oi] at h1;obtain⟨h1,hst⟩:=h1;have h1:=Nat.eq_of_beq_eq_true h1;have hst:=Nat.eq_of_beq_eq_true hst;subst h1;obtain⟨g',L',gd,e1,e2,e3,e4,e5,e6,e7,e8,e9,e10,e11,e12⟩:=hp.pc b _ hlp;have hgι:c.ι b v=some (some ⟨g,0,none⟩,0,0):=hgι;rw[hgι] at e1
     cases e1;have hr:=run_beginRound (P:=P) e3 (by rw[e4,hst];rfl);obtain⟨O',hp',hold'⟩:=xW (o':=.loop { L' with state:=.busy }) (x':=.lp v { L with st:=1 }) hp hold hlp rfl e2 e3
      (fun w' hw'=>⟨g,_,gd,hgι,e2,hw',rfl,e5,e6,e7,e8,e9,e10,e11,e12⟩)
     exact nI hK hx1 (.one (stepR_beginRound rfl hr)) ⟨⟨a,t',some g,rfl,hs,hk,hm,g,rfl,hgι⟩,hcs,hp',hold',by rw[←hbt []];exact eW⟩
    ·exact(hb.bot h).elim
   ·exact(hb.bot h).elim
end
end
class lR (ρ:Type) where
 post:ρ→xN
def Sn{ρ:Type}[lR ρ](P:Program)(X:Tx)(f0:Nat)(r:ρ)(g:Cfg):Prop:=∀(W:Bs) (cs0:List Frame),GOk X.Γ W.c→Snd P W cs0 f0 (lR.post r) g
instance:lR (F×Bool):=⟨fun r d h=>∃x is,D.toF (lk h) 6 d=some (x,is)∧x=r.1∧(r.2=true→cY (lk h) d=true)⟩
def xq(f:Nat)(fi:Fi)(l:List D):Cfg:=⟨⟨f,fi.N,pP 0 l,[.code fi.body],[],none⟩,[],[],0⟩
section
variable {P:Program} {X:Tx} (hX:mA P X) {f0:Nat}
section
variable {ρ:Type} [lR ρ] {r:ρ}
variable {R:Type} {al:Al R} {T:R→Prop} (hb:u7 al T) {K:Cfg→R} (hK:∀g,T (K g)→Sn P X f0 r g)
 {O:Orc R} (hO:yq P X T O) {fin:D→List (Nat×B)→R} (hfin:∀d h,T (fin d h)→lR.post r d h)
include hX hb hK hO hfin in
theorem IU{g:Cfg}(h:T (stepG al X O fin K g)):Sn P X f0 r g:=fun W cs0 hΓ=>F7 hX hΓ hb (fun g hg=>hK g hg W cs0 hΓ) hO hfin h
end
variable {r:F×Bool}
theorem Ft(l:List F):(l.map F.toD).length=l.length:=Ok _
include hX in
theorem Js{f:FuncId}{fi:Fi}{l:List F}(hf:X.fi f=some fi)(hN:Nat.ble l.length fi.N=true)(h:Sn P X f r (xq f fi (l.map F.toD))):Pure P X.Γ f l r.1 r.2:=by
 obtain⟨hcf,fn,hfn,hbd,hNn,hrs⟩:=hX.fi _ _ hf;refine⟨hcf,fun Z w vs hZ hΓ hvs=>?_⟩
 let W:Bs:=⟨w,fun _=>False,⟨fun _ _=>none,w,Z⟩⟩
 have hvs':D.aq W.c (l.map F.toD) vs:=kk hvs;intro cs;have hs:=nZ (N:=fi.N) hvs' (by rw[Ft];exact hN);obtain⟨v,w',fr,d,h1,c1,O1,q1,q2,q3,⟨x,is,q4,q5,q6⟩,q7,q8,q9⟩:=h W cs hΓ W.c (fun _ _=>False) ((bF f none).atR ⟨vs.toArray++Array.replicate (fi.N - vs.toArray.size) undef,[]⟩ [.code fi.body]) [] w
  ⟨⟨_,_,none,rfl,hs,⟨_,_,rfl,rfl,rfl⟩,rfl,rfl⟩,rfl,⟨fun b x hx=>(by simp[xq,lk] at hx),fun b v y hy=>(by cases hy),fun b b' g h=>h.elim,fun g hg=>⟨hZ g hg,rfl,fun _ h=>h⟩,fun b g h=>h.elim⟩,
   ⟨rfl,rfl,rfl,Ov _,fun _ _ _=>rfl,fun _ _ h=>h.elim,fun g hg=>.inl hg,Ext.refl _ _⟩,rfl⟩
 have hWO:∀g,¬W.O g:=fun _ h=>h
 have h4:=kY q8 is 6 _ _ _ _ q4 (fun b h=>h) q7;refine⟨.returned v,w',fr,⟨v,rfl,⟨q9.os,q9.tape,q9.output,q9.size,fun g hg=>q9.dZ g hg (hWO g)⟩,?_⟩,?_,q2,q3⟩
 ·rw[←q5]
  cases hfr:cY (lk h1) d with
  | true=>
   have h6:=wH q8 is 6 _ _ _ _ q4 (fun b h=>h) hfr q7;refine F.rep.ext ⟨fun g hg=>?_,fun g _=>rfl⟩ _ _ h6;obtain⟨b,_,hg⟩:=hg;rcases q9.own b g hg with h5|h5
   ·exact(hWO g h5).elim
   ·exact .inr ⟨h5,q8.lt b g hg⟩
  | false=>
   have hr2:r.2=false:=by
    cases hr:r.2 with
    | false=>rfl
    | true=>rw[q6 hr] at hfr;cases hfr
   refine F.rep.ext ⟨fun g hg=>?_,fun g _=>rfl⟩ _ _ h4;rcases hg with hg|⟨b,_,hg⟩
   ·rcases q9.vm g hg with h5|h5|h5
    ·exact .inl ⟨hr2,h5⟩
    ·exact(hWO g h5).elim
    ·exact .inr ⟨h5,(q8.fz g hg).1⟩
   ·rcases q9.own b g hg with h5|h5
    ·exact(hWO g h5).elim
    ·exact .inr ⟨h5,q8.lt b g hg⟩
 rw[tl hfn hbd,hNn];exact q1
include hX in
end
attribute [irreducible] Sn
abbrev Rn:=List (Nat×Nat)
def cW:Rn→Nat→Nat→Nat→Option Nat
 | [],_,_,_=>none
 | (b',v') :: m,b,v,i=>bif Nat.beq b b' then (bif Nat.beq v v' then some i else none) else cW m b v (i+1)
mutual
def cj(m:Rn):D→Option D
 | .fr x=>some (.fr x)
 | .fx r=>some (.fx r)
 | .ag l=>match bm m l with|some l=>some (.ag l)|none=>none
 | .tp l=>match bm m l with|some l=>some (.tp l)|none=>none
 | .cl f l=>match bm m l with|some l=>some (.cl f l)|none=>none
 | .mcl f k l=>match bm m k,bm m l with|some k,some l=>some (.mcl f k l)|_,_=>none
 | .ptr b v o=>match cW m b v 0 with|some i=>some (.ptr i 0 o)|none=>none
 | .rp b v sz j o=>match cW m b v 0 with|some i=>some (.rp i 0 sz j o)|none=>none
 | .own b v=>match cW m b v 0 with|some i=>some (.own i 0)|none=>none
 | .mv b v=>match cW m b v 0 with|some i=>some (.mv i 0)|none=>none
 | .yl b v=>match cW m b v 0 with|some i=>some (.yl i 0)|none=>none
 | .sub b v sz lo hi ex=>match cW m b v 0 with|some i=>some (.sub i 0 sz lo hi ex)|none=>none
def bm(m:Rn):List D→Option (List D)
 | []=>some []
 | d :: l=>match cj m d,bm m l with|some d,some l=>some (d :: l)|_,_=>none
end
def Av(m:Rn)(s:List (Nat×D)):List Nat→List (Nat×D)
 | []=>[]
 | k :: ks=>match lk s k with
  | some d=>(match cj m d with
   | some d=>(k,d) :: Av m s ks
   | none=>Av m s ks)
  | none=>Av m s ks
def iA(m:Rn)(kc:List Nat):B→Option B
 | .va v t cs=>match bm m cs with|some cs=>some (.va 0 t cs)|none=>none
 | .ro v e sz rows=>some (.ro 0 e sz rows)
 | .gone _=>none
 | .mp v rows=>some (.mp 0 rows)
 | .lp v l=>match cW m l.db l.dv 0 with|some i=>some (.lp 0 { l with s:=Av m l.s kc,db:=i,dv:=0 })|none=>none
 | .df v=>some (.df 0)
 | .gh v vs ds=>match bm m ds with|some ds=>some (.gh 0 vs ds)|none=>none
def iW(m:Rn)(kc:List Nat)(h:List (Nat×B)):Rn→Nat→Option (List (Nat×B))
 | [],_=>some []
 | (b,v) :: l,i=>match lk h b with
  | some x=>bif Nat.beq x.ver v then (match iA m kc x,iW m kc h l (i+1) with
   | some x,some h=>some ((i,x) :: h)
   | _,_=>none) else none
  | none=>none
def Hl(m:Rn):List KI→Option (List KI)
 | []=>some []
 | x :: l=>match (match x with
   | .rf b v=>(match cW m b v 0 with|some i=>some (.rf i 0)|none=>none)
   | .erf b v=>(match cW m b v 0 with|some i=>some (.erf i 0)|none=>none)
   | x=>some x),Hl m l with
  | some x,some l=>some (x :: l)
  | _,_=>none
def Iq(m:Rn):List (Nat×Nat)→Option (List (Nat×Nat))
 | []=>some []
 | (b,v) :: l=>match cW m b v 0,Iq m l with
  | some i,some l=>some ((i,0) :: l)
  | _,_=>none
def Cr(m:Rn):Option (Nat×Nat)→Option (Option (Nat×Nat))
 | none=>some none
 | some (b,v)=>match cW m b v 0 with|some i=>some (some (i,0))|none=>none
def yi(m:Rn)(keys:List Nat)(f:Fm):Option Fm:=match Hl m f.k,Iq m f.ds,Cr m f.ro with
 | some k,some ds,some ro=>some { f with s:=Av m f.s keys,k:=k,ds:=ds,ro:=ro }
 | _,_,_=>none
def ma(m:Rn)(kc:List Nat):List Fm→Option (List Fm)
 | []=>some []
 | f :: l=>match yi m kc f,ma m kc l with
  | some f,some l=>some (f :: l)
  | _,_=>none
def eN:Rn→Bool
 | []=>true
 | (b,_) :: m=>!(m.any fun p=>Nat.beq p.1 b)&&eN m
def cut(m:Rn)(kc keys:List Nat)(g:Cfg):Option Cfg:=bif eN m then (match yi m keys g.top,ma m kc g.cs,iW m kc g.h m 0 with
 | some top,some cs,some h=>some ⟨top,cs,h,m.length⟩
 | _,_,_=>none) else none
def rι(m:Rn)(c:Cf):Nat→Nat→Option (Option Addr×Nat×Nat):=fun i v=>match v,m[i]? with
 | 0,some (b,v)=>c.ι b v
 | _,_=>none
def rC(m:Rn)(c:Cf):Cf:=⟨rι m c,c.R,c.Z⟩
def rO(m:Rn)(O:Nat→Nat→Prop):Nat→Nat→Prop:=fun i g=>∃b v,m[i]?=some (b,v)∧O b g
theorem fA:∀{m:Rn} {b v i j:Nat},cW m b v i=some j→i≤j∧m[j - i]?=some (b,v)
 | [],b,v,i,j,h=>by cases h
 | (b',v') :: m,b,v,i,j,h=>by
  simp only[cW] at h
  cases hb:Nat.beq b b' with
  | true=>
   rw[hb] at h
   cases hv:Nat.beq v v' with
   | true=>
    rw[hv] at h;simp at h;subst h;rw[Nat.eq_of_beq_eq_true hb,Nat.eq_of_beq_eq_true hv];simp
   | false=>rw[hv] at h;cases h
  | false=>
   rw[hb] at h;obtain⟨h1,h2⟩:=fA (m:=m) h;refine⟨by omega,?_⟩;rw[show j - i=(j - (i+1))+1 by omega];simpa using h2
theorem jk{m:Rn}{b v i:Nat}{c:Cf}(h:cW m b v 0=some i):(rC m c).ι i 0=c.ι b v:=by
 have:=(fA h).2;rw[O9] at this;simp[rC,rι,this]
section
variable {m:Rn} {kc:List Nat} {c:Cf}
mutual
theorem tU:∀{d d':D} {u:Value},cj m d=some d'→D.rep c d u→D.rep (rC m c) d' u
 | .fr x,d',u,h,hd=>by simp only[cj] at h;cases h;unfold D.rep at hd ⊢;exact hd
 | .fx x,d',u,h,hd=>by simp only[cj] at h;cases h;unfold D.rep at hd ⊢;exact hd
 | .ag l,d',u,h,hd=>by
  simp only[cj] at h
  split at h<;>cases h
  rename_i l' hl;unfold D.rep at hd ⊢;obtain⟨vs,h1,h2⟩:=hd;exact⟨vs,h1,ey hl h2⟩
 | .tp l,d',u,h,hd=>by
  simp only[cj] at h
  split at h<;>cases h
  rename_i l' hl;unfold D.rep at hd ⊢;obtain⟨vs,h1,h2⟩:=hd;exact⟨vs,h1,ey hl h2⟩
 | .cl f l,d',u,h,hd=>by
  simp only[cj] at h
  split at h<;>cases h
  rename_i l' hl;unfold D.rep at hd ⊢;obtain⟨vs,h1,h2⟩:=hd;exact⟨vs,h1,ey hl h2⟩
 | .mcl f k l,d',u,h,hd=>by
  simp only[cj] at h
  split at h<;>cases h
  rename_i k' l' hk hl;unfold D.rep at hd ⊢;obtain⟨us,vs,h1,h2,h3⟩:=hd;exact⟨us,vs,h1,ey hk h2,ey hl h3⟩
 | .ptr b v o,d',u,h,hd=>by
  simp only[cj] at h
  split at h<;>cases h
  rename_i i hi;unfold D.rep at hd ⊢
  rwa [jk hi]
 | .rp b v sz j o,d',u,h,hd=>by
  simp only[cj] at h
  split at h<;>cases h
  rename_i i hi;unfold D.rep at hd ⊢
  rwa [jk hi]
 | .own b v,d',u,h,hd=>by
  simp only[cj] at h
  split at h<;>cases h
  rename_i i hi;unfold D.rep at hd ⊢
  rwa [jk hi]
 | .mv b v,d',u,h,hd=>by
  simp only[cj] at h
  split at h<;>cases h
  rename_i i hi;unfold D.rep at hd ⊢
  rwa [jk hi]
 | .yl b v,d',u,h,hd=>by
  simp only[cj] at h
  split at h<;>cases h
  rename_i i hi;unfold D.rep at hd ⊢
  rwa [jk hi]
 | .sub b v sz lo hi ex,d',u,h,hd=>by
  simp only[cj] at h
  split at h<;>cases h
  rename_i i hi;unfold D.rep at hd ⊢
  rwa [jk hi]
theorem ey:∀{d d':List D} {u:List Value},bm m d=some d'→D.aq c d u→D.aq (rC m c) d' u
 | [],d',u,h,hd=>by simp only[bm] at h;cases h;unfold D.aq at hd ⊢;exact hd
 | x :: l,d',u,h,hd=>by
  simp only[bm] at h
  split at h<;>cases h
  rename_i x' l' hx hl;unfold D.aq at hd ⊢;obtain⟨a,b,h1,h2,h3⟩:=hd;exact⟨a,b,h1,tU hx h2,ey hl h3⟩
end
theorem pB{s:List (Nat×D)}:∀{ks:List Nat} {k:Nat} {d:D},lk (Av m s ks) k=some d→∃d',lk s k=some d'∧cj m d'=some d
 | [],k,d,h=>by cases h
 | j :: ks,k,d,h=>by
  simp only[Av] at h
  split at h
  ·rename_i d1 h1
   split at h
   ·rename_i d2 h2;simp only[lk] at h
    cases e:Nat.beq j k with
    | true=>
     rw[e] at h;simp at h;subst h;have:=Nat.eq_of_beq_eq_true e;subst this;exact⟨d1,h1,h2⟩
    | false=>rw[e] at h;exact pB h
   ·exact pB h
  ·exact pB h
theorem CM{N:Nat}{s:List (Nat×D)}{ks:List Nat}{tmps:Array Value}(h:bN c N s tmps):bN (rC m c) N (Av m s ks) tmps:=⟨h.size,fun k d hk=>by
 obtain⟨d',h1,h2⟩:=pB hk;exact tU h2 (h.get k d' h1)⟩
theorem CA{b i:Nat}{x x':B}{S:Nat→Prop}{w:World}(hi:m[i]?=some (b,x.ver))(h:iA m kc x=some x')(hx:x.on c b S w):x'.on (rC m c) i S w:=by
 have hι:(rC m c).ι i 0=c.ι b x.ver:=by simp[rC,rι,hi]
 cases x with
 | va v t cs=>
  simp only[iA] at h
  split at h<;>cases h
  rename_i cs' hcs;obtain⟨g,vs,h1,h2,h3,h4⟩:=hx;exact⟨g,vs,hι.trans h1,ey hcs h2,h3,h4⟩
 | ro v e sz rows=>
  simp only[iA] at h
  cases h;obtain⟨A,k,vr,h1,h2,h3,h4⟩:=hx;exact⟨A,k,vr,hι.trans h1,h2,h3,h4⟩
 | gone v=>cases h
 | mp v rows=>
  simp only[iA] at h
  cases h;obtain⟨g,es,k,h1,h2,h3,h4⟩:=hx;exact⟨g,es,k,hι.trans h1,h2,h3,h4⟩
 | lp v l=>
  simp only[iA] at h
  split at h<;>cases h
  rename_i j hj;obtain⟨g,L,gd,h1,h2,h3,h4,h5,h6,h7,h8,h9,h10,h11,h12⟩:=hx;exact⟨g,L,gd,hι.trans h1,h2,h3,h4,h5,h6,h7,h8,h9,CM h10,(jk hj).trans h11,h12⟩
 | df v=>
  simp only[iA] at h
  cases h;obtain⟨gs,h1,h2,h3⟩:=hx;exact⟨gs,h1.of hι,h2,h3⟩
 | gh v vs ds=>
  simp only[iA] at h
  split at h<;>cases h
  rename_i ds' hds;exact ey hds hx
theorem mf{h:List (Nat×B)}:∀{l:Rn} {i:Nat} {h':List (Nat×B)} {j:Nat} {x':B},iW m kc h l i=some h'→lk h' j=some x'→i≤j∧∃b x,l[j - i]?=some (b,x.ver)∧lk h b=some x∧iA m kc x=some x'
 | [],i,h',j,x',e,hj=>by simp only[iW] at e;cases e;cases hj
 | (b,v) :: l,i,h',j,x',e,hj=>by
  simp only[iW] at e
  split at e
  ·rename_i x hx
   cases hv:Nat.beq x.ver v with
   | false=>rw[hv] at e;cases e
   | true=>
    rw[hv] at e;simp only[cond_true] at e;have hv:=Nat.eq_of_beq_eq_true hv
    split at e<;>cases e
    rename_i y h2 hy hh;simp only[lk] at hj
    cases hij:Nat.beq i j with
    | true=>
     rw[hij] at hj;simp at hj;subst hj;have:=Nat.eq_of_beq_eq_true hij;subst this;exact⟨Ov _,b,x,by simp[hv],hx,hy⟩
    | false=>
     rw[hij] at hj;obtain⟨q1,b',x1,q2,q3,q4⟩:=mf hh hj;refine⟨by omega,b',x1,?_,q3,q4⟩;rw[show j - i=(j - (i+1))+1 by omega];simpa using q2
  ·cases e
theorem oX{h:List (Nat×B)}:∀{l:Rn} {i:Nat} {h':List (Nat×B)} {j:Nat} {p:Nat×Nat},iW m kc h l i=some h'→l[j]?=some p→∃x',lk h' (i+j)=some x'
 | [],i,h',j,p,e,hj=>by simp at hj
 | (b,v) :: l,i,h',j,p,e,hj=>by
  simp only[iW] at e
  split at e
  ·rename_i x hx
   cases hv:Nat.beq x.ver v with
   | false=>rw[hv] at e;cases e
   | true=>
    rw[hv] at e;simp only[cond_true] at e
    split at e<;>cases e
    rename_i y h2 hy hh
    cases j with
    | zero=>exact⟨y,by simp[lk]⟩
    | succ j=>
     obtain⟨x',hx'⟩:=oX (j:=j) (p:=p) hh (by simpa using hj);refine⟨x',?_⟩;simp only[lk];rw[show Nat.beq i (i+(j+1))=false from by rw[←Bool.not_eq_true];intro e;have:=Nat.eq_of_beq_eq_true e;omega];rw[show i+(j+1)=i+1+j by omega];exact hx'
  ·cases e
theorem pw:∀{m:Rn} {i j b v v':Nat},eN m=true→m[i]?=some (b,v)→m[j]?=some (b,v')→i=j
 | [],i,j,b,v,v',_,hi,_=>by simp at hi
 | (b0,v0) :: m,i,j,b,v,v',h,hi,hj=>by
  simp only[eN,Oi,Pc,Pn] at h;obtain⟨h1,h2⟩:=h
  cases i with
  | zero=>
   cases j with
   | zero=>rfl
   | succ j=>
    simp at hi hj;obtain⟨rfl,rfl⟩:=hi;exact absurd (by simp) (h1 _ (OI hj))
  | succ i=>
   cases j with
   | zero=>
    simp at hi hj;obtain⟨rfl,rfl⟩:=hj;exact absurd (by simp) (h1 _ (OI hi))
   | succ j=>
    simp at hi hj;rw[pw h2 hi hj]
theorem Cz:∀{k k':List KI} {t:List Item},Hl m k=some k'→KIs c k t→KIs (rC m c) k' t
 | [],k',t,h,ht=>by simp only[Hl] at h;cases h;exact ht
 | x :: l,k',t,h,⟨it,t',e,hx,hl⟩=>by
  simp only[Hl] at h
  split at h<;>cases h
  rename_i y l' hy hl';refine⟨it,t',e,?_,Cz hl' hl⟩
  cases x with
  | rf b v=>
   simp only at hy
   split at hy<;>cases hy
   rename_i i hi;obtain⟨g,h1,h2⟩:=hx;exact⟨g,h1,(jk hi).trans h2⟩
  | erf b v=>
   simp only at hy
   split at hy<;>cases hy
   rename_i i hi;obtain⟨g,h1,h2⟩:=hx;exact⟨g,h1,(jk hi).trans h2⟩
  | _=>simp only at hy;cases hy;exact hx
theorem Cq:∀{k k':List (Nat×Nat)} {t:List Deferred},Iq m k=some k'→bQ c k t→bQ (rC m c) k' t
 | [],k',t,h,ht=>by simp only[Iq] at h;cases h;exact ht
 | (b,v) :: l,k',t,h,⟨g,t',e,hx,hl⟩=>by
  simp only[Iq] at h
  split at h<;>cases h
  rename_i i l' hi hl';exact⟨g,t',e,hx.of (jk hi),Cq hl' hl⟩
theorem FO{r:Option (Nat×Nat)}{r':Option (Nat×Nat)}{t:Option Nat}(h:Cr m r=some r')(ht:lg c r t):lg (rC m c) r' t:=by
 cases r with
 | none=>simp only[Cr] at h;cases h;exact ht
 | some p=>
  simp only[Cr] at h
  split at h<;>cases h
  rename_i i hi;obtain⟨g,h1,h2⟩:=ht;exact⟨g,h1,(jk hi).trans h2⟩
theorem zj{ks:List Nat}{f f':Fm}{fr:Frame}(h:yi m ks f=some f')(hf:tB c f fr):tB (rC m c) f' fr∧f'.f=f.f:=by
 simp only[yi] at h
 split at h<;>cases h
 rename_i k ds ro h1 h2 h3;obtain⟨a,todo,r,g1,g2,g3,g4,g5⟩:=hf;exact⟨⟨a,todo,r,g1,CM g2,Cz h1 g3,Cq h2 g4,FO h3 g5⟩,rfl⟩
theorem vK:∀{l l':List Fm} {t:List Frame},ma m kc l=some l'→Fms c l t→Fms (rC m c) l' t
 | [],l',t,h,ht=>by simp only[ma] at h;cases h;exact ht
 | x :: l,l',t,h,⟨fr,t',e,hx,hl⟩=>by
  simp only[ma] at h
  split at h<;>cases h
  rename_i y l2 hy hl';exact⟨fr,t',e,(zj hy hx).1,vK hl' hl⟩
theorem rG:∀{l l':List Fm} {f f':Fm},f'.f=f.f→ma m kc l=some l'→fS f' l'=fS f l
 | [],l',f,f',e,h=>by simp only[ma] at h;cases h;exact e
 | x :: l,l',f,f',e,h=>by
  simp only[ma] at h
  split at h<;>cases h
  rename_i y l2 hy hl';show fS y l2=fS x l
  refine rG ?_ hl';simp only[yi] at hy
  split at hy<;>cases hy
  rfl
end
theorem Sn.cut{ρ:Type}[lR ρ]{P:Program}{X:Tx}{f0:Nat}{r:ρ}{m:Rn}{kc keys:List Nat}{g g':Cfg}(hc:Km.cut m kc keys g=some g')(h:Sn P X f0 r g'):Sn P X f0 r g:=by
 unfold Km.cut at hc
 cases ho:eN m with
 | false=>rw[ho] at hc;cases hc
 | true=>
  rw[ho] at hc;simp only[cond_true] at hc
  split at hc<;>cases hc
  rename_i top cs h' h1 h2 h3;unfold Sn at h ⊢;intro W cs0 hΓ c O fr frs w hr;obtain⟨q1,q2⟩:=zj h1 hr.top;refine h W cs0 hΓ (rC m c) (rO m O) fr frs w ⟨q1,vK h2 hr.cs,⟨fun i x' hx'=>?_,fun i v y hy=>?_,fun i j g hi hj=>?_,fun g hg=>?_,fun i g hi=>?_⟩,⟨hr.old.os,hr.old.tape,hr.old.output,hr.old.size,hr.old.dZ,fun i g hi=>?_,hr.old.vm,hr.old.le⟩,(rG q2 h2).trans hr.bot⟩
  ·obtain⟨_,b,x,k1,k2,k3⟩:=mf h3 hx';rw[O9] at k1;have hS:rO m O i=O b:=funext fun g=>propext ⟨fun ⟨b',v',e,hO⟩=>by rw[k1] at e;cases e;exact hO,fun hO=>⟨b,_,k1,hO⟩⟩
   rw[hS];exact CA k1 k3 (hr.hp.pc b x k2)
  ·simp only[rC,rι] at hy
   split at hy
   ·rename_i b v0 hm;obtain⟨x',hx'⟩:=oX h3 hm;rw[OS] at hx';exact⟨x',hx',Oq _⟩
   ·cases hy
  ·obtain⟨b,v,e1,o1⟩:=hi;obtain⟨b',v',e2,o2⟩:=hj;have:=hr.hp.apart b b' g o1 o2;subst this;exact pw ho e1 e2
  ·obtain⟨k1,k2,k3⟩:=hr.hp.fz g hg;exact⟨k1,k2,fun i ⟨b,v,_,o⟩=>k3 b o⟩
  ·obtain⟨b,v,_,o⟩:=hi;exact hr.hp.lt b g o
  ·obtain⟨b,v,_,o⟩:=hi;exact hr.old.own b g o
mutual
def hnd:D→List (Nat×Nat)
 | .ag l=>xV l
 | .tp l=>xV l
 | .cl _ l=>xV l
 | .mcl _ k l=>xV k++xV l
 | .ptr b v _=>[(b,v)]
 | .rp b v _ _ _=>[(b,v)]
 | .own b v=>[(b,v)]
 | .mv b v=>[(b,v)]
 | .yl b v=>[(b,v)]
 | .sub b v _ _ _ _=>[(b,v)]
 | _=>[]
def xV:List D→List (Nat×Nat)
 | []=>[]
 | d :: l=>hnd d++xV l
end
def IV(s:List (Nat×D)):List Nat→List (Nat×Nat)
 | []=>[]
 | k :: ks=>match lk s k with
  | some d=>hnd d++IV s ks
  | none=>IV s ks
def IF:List KI→List (Nat×Nat)
 | []=>[]
 | .rf b v :: l=>(b,v) :: IF l
 | .erf b v :: l=>(b,v) :: IF l
 | _ :: l=>IF l
def J7(keys:List Nat)(f:Fm):List (Nat×Nat):=IV f.s keys++IF f.k++f.ds++f.ro.toList
def NU(kc:List Nat):B→List (Nat×Nat)
 | .va _ _ cs=>xV cs
 | .lp _ l=>(l.db,l.dv) :: IV l.s kc
 | .gh _ _ ds=>xV ds
 | _=>[]
def Mv(h:List (Nat×B))(b v:Nat):Bool:=match lk h b with
 | some (.gone _)=>false
 | some x=>Nat.beq x.ver v
 | none=>false
def reach(kc:List Nat)(h:List (Nat×B)):Nat→List (Nat×Nat)→Rn→Rn
 | 0,_,m=>m
 | _,[],m=>m
 | n+1,(b,v) :: l,m=>bif m.any (fun p=>Nat.beq p.1 b) || !Mv h b v then reach kc h n l m else reach kc h n (NU kc ((lk h b).getD (.gone 0))++l) (m++[(b,v)])
def ux:List (Nat×B)→List (Nat×Nat)
 | []=>[]
 | (b,.gh v _ _) :: l=>(b,v) :: ux l
 | _ :: l=>ux l
def roots(kc keys:List Nat)(g:Cfg):List (Nat×Nat):=J7 keys g.top++(g.cs.flatMap fun f=>J7 kc f)++ux g.h
def short(kc keys:List Nat)(g:Cfg):Option Cfg:=cut (reach kc g.h 10000 (roots kc keys g) []) kc keys g
theorem Sn.short{ρ:Type}[lR ρ]{P:Program}{X:Tx}{f0:Nat}{r:ρ}(kc keys:List Nat){g g':Cfg}(hc:Km.short kc keys g=some g')(h:Sn P X f0 r g'):Sn P X f0 r g:=Sn.cut hc h
end Go.Km
end
section
namespace Go.Proofs.YthebhpcjcihjgaaGreatDoor
open Go Go.Sl Go.Vc Go.Km
set_option maxRecDepth 100000
noncomputable def fiR(f:Func):Fi:=⟨f.body.getD .skip,f.ntmps,f.results.toList⟩
def D2(f:Nat)(i:Fi):Prop:=CF Tryz.prog f∧∃fn,Tryz.prog.funcs[f]?=some fn∧fn.body=some i.body∧fn.ntmps=i.N∧fn.results.toList=i.rs
theorem fk{f:Nat}{fn:Func}(h:Tryz.prog.funcs[f]?=some fn)(c:(!(fn.name== "runtime.NumGoroutine") && !fn.body.isNone)=true:=by kernel_rfl):D2 f (fiR fn):=by
 rw[Oi,Pc,Pc] at c;refine⟨CF.of h c.1 c.2,fn,h,?_,rfl,rfl⟩
 cases hb:fn.body with
 | none=>rw[hb] at c;cases c.2
 | some b=>show some b=some (fn.body.getD .skip);rw[hb];rfl
noncomputable def fiL:List (Nat×Fi):=[(3,fiR Tryz.f3),(4,fiR Tryz.f4),(5,fiR Tryz.f5),(6,fiR Tryz.f6),(7,fiR Tryz.f7),(8,fiR Tryz.f8),(9,fiR Tryz.f9),(10,fiR Tryz.f10),(11,fiR Tryz.f11),(12,fiR Tryz.f12),(13,fiR Tryz.f13),(14,fiR Tryz.f14),(15,fiR Tryz.f15),(16,fiR Tryz.f16),(17,fiR Tryz.f17),(18,fiR Tryz.f18),(19,fiR Tryz.f19),(20,fiR Tryz.f20),(21,fiR Tryz.f21),(22,fiR Tryz.f22),(23,fiR Tryz.f23),(24,fiR Tryz.f24),(25,fiR Tryz.f25),(26,fiR Tryz.f26),(27,fiR Tryz.f27),(28,fiR Tryz.f28),(29,fiR Tryz.f29),(30,fiR Tryz.f30),(31,fiR Tryz.f31),(32,fiR Tryz.f32),(33,fiR Tryz.f33),(34,fiR Tryz.f34),(35,fiR Tryz.f35),(36,fiR Tryz.f36),(37,fiR Tryz.f37),(38,fiR Tryz.f38),(39,fiR Tryz.f39),(40,fiR Tryz.f40),(41,fiR Tryz.f41),(42,fiR Tryz.f42),(43,fiR Tryz.f43),(44,fiR Tryz.f44),(45,fiR Tryz.f45),(46,fiR Tryz.f46),(47,fiR Tryz.f47),(48,fiR Tryz.f48),(49,fiR Tryz.f49),(50,fiR Tryz.f50),(51,fiR Tryz.f51),(52,fiR Tryz.f52),(53,fiR Tryz.f53),(54,fiR Tryz.f54),(55,fiR Tryz.f55),(56,fiR Tryz.f56),(57,fiR Tryz.f57),(58,fiR Tryz.f58),(59,fiR Tryz.f59),(60,fiR Tryz.f60),(61,fiR Tryz.f61),(62,fiR Tryz.f62),(63,fiR Tryz.f63),(64,fiR Tryz.f64),(65,fiR Tryz.f65),(66,fiR Tryz.f66),(67,fiR Tryz.f67),(68,fiR Tryz.f68),(69,fiR Tryz.f69),(70,fiR Tryz.f70),(71,fiR Tryz.f71),(72,fiR Tryz.f72),(73,fiR Tryz.f73),(74,fiR Tryz.f74),(75,fiR Tryz.f75),(76,fiR Tryz.f76),(77,fiR Tryz.f77),(78,fiR Tryz.f78),(79,fiR Tryz.f79),(80,fiR Tryz.f80),(81,fiR Tryz.f81),(82,fiR Tryz.f82),(83,fiR Tryz.f83),(84,fiR Tryz.f84),(85,fiR Tryz.f85),(86,fiR Tryz.f86),(87,fiR Tryz.f87),(88,fiR Tryz.f88),(89,fiR Tryz.f89),(90,fiR Tryz.f90),(91,fiR Tryz.f91),(92,fiR Tryz.f92),(93,fiR Tryz.f93),(94,fiR Tryz.f94),(95,fiR Tryz.f95),(96,fiR Tryz.f96),(97,fiR Tryz.f97),(98,fiR Tryz.f98),(99,fiR Tryz.f99),(100,fiR Tryz.f100),(101,fiR Tryz.f101),(102,fiR Tryz.f102),(103,fiR Tryz.f103),(104,fiR Tryz.f104),(105,fiR Tryz.f105),(106,fiR Tryz.f106),(107,fiR Tryz.f107),(108,fiR Tryz.f108),(109,fiR Tryz.f109),(110,fiR Tryz.f110),(111,fiR Tryz.f111),(112,fiR Tryz.f112),(113,fiR Tryz.f113),(114,fiR Tryz.f114),(115,fiR Tryz.f115),(116,fiR Tryz.f116),(117,fiR Tryz.f117),(118,fiR Tryz.f118),(119,fiR Tryz.f119),(120,fiR Tryz.f120),(121,fiR Tryz.f121),(122,fiR Tryz.f122),(123,fiR Tryz.f123),(124,fiR Tryz.f124),(125,fiR Tryz.f125),(126,fiR Tryz.f126),(127,fiR Tryz.f127),(128,fiR Tryz.f128),(129,fiR Tryz.f129),(130,fiR Tryz.f130),(131,fiR Tryz.f131),(132,fiR Tryz.f132),(133,fiR Tryz.f133),(134,fiR Tryz.f134),(135,fiR Tryz.f135),(136,fiR Tryz.f136),(137,fiR Tryz.f137),(138,fiR Tryz.f138),(139,fiR Tryz.f139),(140,fiR Tryz.f140),(141,fiR Tryz.f141),(142,fiR Tryz.f142),(143,fiR Tryz.f143),(144,fiR Tryz.f144),(145,fiR Tryz.f145),(146,fiR Tryz.f146),(147,fiR Tryz.f147),(148,fiR Tryz.f148),(149,fiR Tryz.f149),(150,fiR Tryz.f150),(151,fiR Tryz.f151),(152,fiR Tryz.f152),(153,fiR Tryz.f153),(154,fiR Tryz.f154),(155,fiR Tryz.f155),(156,fiR Tryz.f156),(157,fiR Tryz.f157),(158,fiR Tryz.f158),(159,fiR Tryz.f159),(160,fiR Tryz.f160),(161,fiR Tryz.f161),(162,fiR Tryz.f162),(163,fiR Tryz.f163),(164,fiR Tryz.f164),(165,fiR Tryz.f165),(166,fiR Tryz.f166),(167,fiR Tryz.f167),(168,fiR Tryz.f168),(169,fiR Tryz.f169),(170,fiR Tryz.f170),(171,fiR Tryz.f171),(172,fiR Tryz.f172),(173,fiR Tryz.f173),(174,fiR Tryz.f174),(175,fiR Tryz.f175),(176,fiR Tryz.f176),(177,fiR Tryz.f177),(178,fiR Tryz.f178),(179,fiR Tryz.f179),(181,fiR Tryz.f181),(182,fiR Tryz.f182),(183,fiR Tryz.f183),(184,fiR Tryz.f184),(185,fiR Tryz.f185),(186,fiR Tryz.f186),(187,fiR Tryz.f187),(188,fiR Tryz.f188),(189,fiR Tryz.f189),(190,fiR Tryz.f190),(191,fiR Tryz.f191),(192,fiR Tryz.f192),(193,fiR Tryz.f193),(194,fiR Tryz.f194),(195,fiR Tryz.f195),(196,fiR Tryz.f196),(197,fiR Tryz.f197),(198,fiR Tryz.f198),(199,fiR Tryz.f199),(200,fiR Tryz.f200),(201,fiR Tryz.f201),(202,fiR Tryz.f202),(203,fiR Tryz.f203),(204,fiR Tryz.f204),(205,fiR Tryz.f205),(206,fiR Tryz.f206),(207,fiR Tryz.f207),(208,fiR Tryz.f208),(209,fiR Tryz.f209),(211,fiR Tryz.f211),(212,fiR Tryz.f212)]
theorem FQ:∀(l:List (Nat×Fi)),(∀p∈l,D2 p.1 p.2)→∀f i,Vc.lk l f=some i→D2 f i
 | [],_,f,i,h=>by cases h
 | (k,x) :: l,hl,f,i,h=>by
  simp only[Vc.lk] at h
  cases e:Nat.beq k f with
  | true=>
   rw[e] at h;simp at h;subst h;have:=Nat.eq_of_beq_eq_true e;subst this;exact hl (k,x) (by simp)
  | false=>
   rw[e] at h;exact FQ l (fun p hp=>hl p (by simp[hp])) f i h
def Aa:List (Nat×Fi)→Prop
 | []=>True
 | p :: l=>D2 p.1 p.2∧Aa l
theorem Aa.mem:∀{l:List (Nat×Fi)},Aa l→∀p∈l,D2 p.1 p.2
 | [],_,p,h=>by cases h
 | q :: l,⟨h1,h2⟩,p,h=>by
  rcases OD.1 h with rfl|h
  ·exact h1
  ·exact Aa.mem h2 p h
theorem Hd:∀f i,Vc.lk fiL f=some i→D2 f i:=FQ fiL (Aa.mem (⟨fk Tryz.func3,⟨fk Tryz.func4,⟨fk Tryz.func5,⟨fk Tryz.func6,⟨fk Tryz.func7,⟨fk Tryz.func8,⟨fk Tryz.func9,⟨fk Tryz.func10,⟨fk Tryz.func11,⟨fk Tryz.func12,⟨fk Tryz.func13,⟨fk Tryz.func14,⟨fk Tryz.func15,⟨fk Tryz.func16,⟨fk Tryz.func17,⟨fk Tryz.func18,⟨fk Tryz.func19,⟨fk Tryz.func20,⟨fk Tryz.func21,⟨fk Tryz.func22,⟨fk Tryz.func23,⟨fk Tryz.func24,⟨fk Tryz.func25,⟨fk Tryz.func26,⟨fk Tryz.func27,⟨fk Tryz.func28,⟨fk Tryz.func29,⟨fk Tryz.func30,⟨fk Tryz.func31,⟨fk Tryz.func32,⟨fk Tryz.func33,⟨fk Tryz.func34,⟨fk Tryz.func35,⟨fk Tryz.func36,⟨fk Tryz.func37,⟨fk Tryz.func38,⟨fk Tryz.func39,⟨fk Tryz.func40,⟨fk Tryz.func41,⟨fk Tryz.func42,⟨fk Tryz.func43,⟨fk Tryz.func44,⟨fk Tryz.func45,⟨fk Tryz.func46,⟨fk Tryz.func47,⟨fk Tryz.func48,⟨fk Tryz.func49,⟨fk Tryz.func50,⟨fk Tryz.func51,⟨fk Tryz.func52,⟨fk Tryz.func53,⟨fk Tryz.func54,⟨fk Tryz.func55,⟨fk Tryz.func56,⟨fk Tryz.func57,⟨fk Tryz.func58,⟨fk Tryz.func59,⟨fk Tryz.func60,⟨fk Tryz.func61,⟨fk Tryz.func62,⟨fk Tryz.func63,⟨fk Tryz.func64,⟨fk Tryz.func65,⟨fk Tryz.func66,⟨fk Tryz.func67,⟨fk Tryz.func68,⟨fk Tryz.func69,⟨fk Tryz.func70,⟨fk Tryz.func71,⟨fk Tryz.func72,⟨fk Tryz.func73,⟨fk Tryz.func74,⟨fk Tryz.func75,⟨fk Tryz.func76,⟨fk Tryz.func77,⟨fk Tryz.func78,⟨fk Tryz.func79,⟨fk Tryz.func80,⟨fk Tryz.func81,⟨fk Tryz.func82,⟨fk Tryz.func83,⟨fk Tryz.func84,⟨fk Tryz.func85,⟨fk Tryz.func86,⟨fk Tryz.func87,⟨fk Tryz.func88,⟨fk Tryz.func89,⟨fk Tryz.func90,⟨fk Tryz.func91,⟨fk Tryz.func92,⟨fk Tryz.func93,⟨fk Tryz.func94,⟨fk Tryz.func95,⟨fk Tryz.func96,⟨fk Tryz.func97,⟨fk Tryz.func98,⟨fk Tryz.func99,⟨fk Tryz.func100,⟨fk Tryz.func101,⟨fk Tryz.func102,⟨fk Tryz.func103,⟨fk Tryz.func104,⟨fk Tryz.func105,⟨fk Tryz.func106,⟨fk Tryz.func107,⟨fk Tryz.func108,⟨fk Tryz.func109,⟨fk Tryz.func110,⟨fk Tryz.func111,⟨fk Tryz.func112,⟨fk Tryz.func113,⟨fk Tryz.func114,⟨fk Tryz.func115,⟨fk Tryz.func116,⟨fk Tryz.func117,⟨fk Tryz.func118,⟨fk Tryz.func119,⟨fk Tryz.func120,⟨fk Tryz.func121,⟨fk Tryz.func122,⟨fk Tryz.func123,⟨fk Tryz.func124,⟨fk Tryz.func125,⟨fk Tryz.func126,⟨fk Tryz.func127,⟨fk Tryz.func128,⟨fk Tryz.func129,⟨fk Tryz.func130,⟨fk Tryz.func131,⟨fk Tryz.func132,⟨fk Tryz.func133,⟨fk Tryz.func134,⟨fk Tryz.func135,⟨fk Tryz.func136,⟨fk Tryz.func137,⟨fk Tryz.func138,⟨fk Tryz.func139,⟨fk Tryz.func140,⟨fk Tryz.func141,⟨fk Tryz.func142,⟨fk Tryz.func143,⟨fk Tryz.func144,⟨fk Tryz.func145,⟨fk Tryz.func146,⟨fk Tryz.func147,⟨fk Tryz.func148,⟨fk Tryz.func149,⟨fk Tryz.func150,⟨fk Tryz.func151,⟨fk Tryz.func152,⟨fk Tryz.func153,⟨fk Tryz.func154,⟨fk Tryz.func155,⟨fk Tryz.func156,⟨fk Tryz.func157,⟨fk Tryz.func158,⟨fk Tryz.func159,⟨fk Tryz.func160,⟨fk Tryz.func161,⟨fk Tryz.func162,⟨fk Tryz.func163,⟨fk Tryz.func164,⟨fk Tryz.func165,⟨fk Tryz.func166,⟨fk Tryz.func167,⟨fk Tryz.func168,⟨fk Tryz.func169,⟨fk Tryz.func170,⟨fk Tryz.func171,⟨fk Tryz.func172,⟨fk Tryz.func173,⟨fk Tryz.func174,⟨fk Tryz.func175,⟨fk Tryz.func176,⟨fk Tryz.func177,⟨fk Tryz.func178,⟨fk Tryz.func179,⟨fk Tryz.func181,⟨fk Tryz.func182,⟨fk Tryz.func183,⟨fk Tryz.func184,⟨fk Tryz.func185,⟨fk Tryz.func186,⟨fk Tryz.func187,⟨fk Tryz.func188,⟨fk Tryz.func189,⟨fk Tryz.func190,⟨fk Tryz.func191,⟨fk Tryz.func192,⟨fk Tryz.func193,⟨fk Tryz.func194,⟨fk Tryz.func195,⟨fk Tryz.func196,⟨fk Tryz.func197,⟨fk Tryz.func198,⟨fk Tryz.func199,⟨fk Tryz.func200,⟨fk Tryz.func201,⟨fk Tryz.func202,⟨fk Tryz.func203,⟨fk Tryz.func204,⟨fk Tryz.func205,⟨fk Tryz.func206,⟨fk Tryz.func207,⟨fk Tryz.func208,⟨fk Tryz.func209,⟨fk Tryz.func211,⟨fk Tryz.func212,trivial⟩⟩⟩⟩⟩⟩⟩⟩⟩⟩⟩⟩⟩⟩⟩⟩⟩⟩⟩⟩⟩⟩⟩⟩⟩⟩⟩⟩⟩⟩⟩⟩⟩⟩⟩⟩⟩⟩⟩⟩⟩⟩⟩⟩⟩⟩⟩⟩⟩⟩⟩⟩⟩⟩⟩⟩⟩⟩⟩⟩⟩⟩⟩⟩⟩⟩⟩⟩⟩⟩⟩⟩⟩⟩⟩⟩⟩⟩⟩⟩⟩⟩⟩⟩⟩⟩⟩⟩⟩⟩⟩⟩⟩⟩⟩⟩⟩⟩⟩⟩⟩⟩⟩⟩⟩⟩⟩⟩⟩⟩⟩⟩⟩⟩⟩⟩⟩⟩⟩⟩⟩⟩⟩⟩⟩⟩⟩⟩⟩⟩⟩⟩⟩⟩⟩⟩⟩⟩⟩⟩⟩⟩⟩⟩⟩⟩⟩⟩⟩⟩⟩⟩⟩⟩⟩⟩⟩⟩⟩⟩⟩⟩⟩⟩⟩⟩⟩⟩⟩⟩⟩⟩⟩⟩⟩⟩⟩⟩⟩⟩⟩⟩⟩⟩⟩⟩⟩⟩⟩⟩⟩⟩⟩⟩⟩⟩⟩⟩⟩⟩⟩⟩⟩⟩⟩⟩⟩⟩))
def Kq:List (Nat×List F):=[(0,[.vl (.int .i64 0),.vl (.int .i64 0),.vl (.int .i64 0),.vl (.int .i64 0),.vl (.int .i64 0),.vl (.int .i64 0),.vl (.int .i64 0),.vl (.int .i64 0),.vl (.int .i64 2),.vl (.int .i64 (-1)),.vl (.int .i64 2),.vl (.int .i64 (-1)),.vl (.int .i64 1),.vl (.int .i64 1),.vl (.int .i64 1),.vl (.int .i64 1),.vl (.int .i64 1),.vl (.int .i64 1),.vl (.int .i64 1),.vl (.int .i64 1)]),
 (1,[.vl (.string ⟨#[]⟩),.vl (.string ⟨#[]⟩),.vl (.string ⟨#[]⟩),.vl (.string ⟨#[]⟩),.vl (.string ⟨#[]⟩),.vl (.string ⟨#[]⟩),.vl (.string ⟨#[]⟩),.vl (.string ⟨#[]⟩),.vl (.string ⟨#[]⟩),.vl (.string ⟨#[]⟩),.vl (.string ⟨#[]⟩),.vl (.string ⟨#[]⟩),.vl (.string ⟨#[]⟩),.vl (.string ⟨#[32]⟩),.vl (.string ⟨#[]⟩),.vl (.string ⟨#[]⟩),.vl (.string ⟨#[32,47,32]⟩),.vl (.string ⟨#[]⟩),.vl (.string ⟨#[]⟩),.vl (.string ⟨#[]⟩),.vl (.string ⟨#[]⟩),.vl (.string ⟨#[38]⟩),.vl (.string ⟨#[]⟩),.vl (.string ⟨#[]⟩),.vl (.string ⟨#[33]⟩),.vl (.string ⟨#[]⟩),.vl (.string ⟨#[]⟩),.vl (.string ⟨#[60]⟩),.vl (.string ⟨#[]⟩),.vl (.string ⟨#[62]⟩)]),
 (2,[.vl (.int .i64 0),.vl (.int .i64 1),.vl (.string ⟨#[63]⟩),.vl (.int .i64 0),.vl (.int .i64 (-1)),.vl (.string ⟨#[42]⟩),.vl (.int .i64 1),.vl (.int .i64 (-1)),.vl (.string ⟨#[43]⟩)]),
 (3,[.vl (.int .u8 0),.vl (.int .u8 1),.vl (.int .u8 56),.vl (.int .u8 2),.vl (.int .u8 57),.vl (.int .u8 49),.vl (.int .u8 28),.vl (.int .u8 3),.vl (.int .u8 61),.vl (.int .u8 58),.vl (.int .u8 42),.vl (.int .u8 50),.vl (.int .u8 38),.vl (.int .u8 29),.vl (.int .u8 17),.vl (.int .u8 4),.vl (.int .u8 62),.vl (.int .u8 47),.vl (.int .u8 59),.vl (.int .u8 36),.vl (.int .u8 45),.vl (.int .u8 43),.vl (.int .u8 51),.vl (.int .u8 22),.vl (.int .u8 53),.vl (.int .u8 39),.vl (.int .u8 33),.vl (.int .u8 30),.vl (.int .u8 24),.vl (.int .u8 18),.vl (.int .u8 12),.vl (.int .u8 5),.vl (.int .u8 63),.vl (.int .u8 55),.vl (.int .u8 48),.vl (.int .u8 27),.vl (.int .u8 60),.vl (.int .u8 41),.vl (.int .u8 37),.vl (.int .u8 16),.vl (.int .u8 46),.vl (.int .u8 35),.vl (.int .u8 44),.vl (.int .u8 21),.vl (.int .u8 52),.vl (.int .u8 32),.vl (.int .u8 23),.vl (.int .u8 11),.vl (.int .u8 54),.vl (.int .u8 26),.vl (.int .u8 40),.vl (.int .u8 15),.vl (.int .u8 34),.vl (.int .u8 20),.vl (.int .u8 31),.vl (.int .u8 10),.vl (.int .u8 25),.vl (.int .u8 14),.vl (.int .u8 19),.vl (.int .u8 9),.vl (.int .u8 13),.vl (.int .u8 8),.vl (.int .u8 7),.vl (.int .u8 6)]),
 (5,[.vl (.int .u64 1),.vl (.int .u64 10),.vl (.int .u64 100),.vl (.int .u64 1000),.vl (.int .u64 10000),.vl (.int .u64 100000),.vl (.int .u64 1000000),.vl (.int .u64 10000000),.vl (.int .u64 100000000),.vl (.int .u64 1000000000),.vl (.int .u64 10000000000),.vl (.int .u64 100000000000),.vl (.int .u64 1000000000000),.vl (.int .u64 10000000000000),.vl (.int .u64 100000000000000),.vl (.int .u64 1000000000000000),.vl (.int .u64 10000000000000000),.vl (.int .u64 100000000000000000),.vl (.int .u64 1000000000000000000),.vl (.int .u64 10000000000000000000)]),
 (6,[.vl (.int .u8 0),.vl (.int .u8 1),.vl (.int .u8 28),.vl (.int .u8 2),.vl (.int .u8 29),.vl (.int .u8 14),.vl (.int .u8 24),.vl (.int .u8 3),.vl (.int .u8 30),.vl (.int .u8 22),.vl (.int .u8 20),.vl (.int .u8 15),.vl (.int .u8 25),.vl (.int .u8 17),.vl (.int .u8 4),.vl (.int .u8 8),.vl (.int .u8 31),.vl (.int .u8 27),.vl (.int .u8 13),.vl (.int .u8 23),.vl (.int .u8 21),.vl (.int .u8 19),.vl (.int .u8 16),.vl (.int .u8 7),.vl (.int .u8 26),.vl (.int .u8 12),.vl (.int .u8 18),.vl (.int .u8 6),.vl (.int .u8 11),.vl (.int .u8 5),.vl (.int .u8 10),.vl (.int .u8 9)])]
end Go.Proofs.YthebhpcjcihjgaaGreatDoor
end
section
namespace Go.Km
open Go Go.RowKit Go.Vc
open Go.Sl hiding lk
abbrev iN(c:Bool)(k:Prop):Prop:=@Bool.rec (fun _=>Prop) False k c
abbrev n7(c:Bool)(a b:Prop):Prop:=@Bool.rec (fun _=>Prop) b a c
abbrev zR{α:Type}(o:Option α)(k:α→Prop):Prop:=@Option.rec α (fun _=>Prop) False k o
abbrev Ng(n:Int)(k:Nat→Prop):Prop:=@Int.rec (fun _=>Prop) k (fun _=>False) n
structure F4(n:Int)(k:Int→Prop):Prop where
 h:∃m,n=m∧k m
structure jL(P:Program)(Γ:Nat→Option (List F))(f:Nat)(l:List F)(k:F×Bool→Prop):Prop where
 h:∃x:F×Bool,Pure P Γ f l x.1 x.2∧k x
structure fQ(P:Program)(Γ:Nat→Option (List F))(t:Nat)(η:Env)(f:Nat)(l:List D)(k:Kr Prop):Prop where
 h:∃d rd e,fj P Γ η f l d rd e∧k d rd e
structure aa(x r:F×Bool):Prop where
 h:x.1=r.1∧(r.2=true→x.2=true)
def alQ:Al Prop where
 bot:=False
 au:=iN
 oJ:=n7
 bC xs i k:=zR xs[i]? k
 cZ:=Ng
 kC:=F4
theorem KP:u7 alQ (fun p=>p) where
 bot h:=h
 au {c k} h:=by cases c with
  | true=>exact⟨rfl,h⟩
  | false=>exact h.elim
 oJ {c a b} h:=by cases c with
  | true=>exact⟨fun _=>h,fun e=>(by cases e)⟩
  | false=>exact⟨fun e=>(by cases e),fun _=>h⟩
 bC {α xs i k} h:=by
  revert h
  show zR xs[i]? k→_
  cases xs[i]? with
  | some x=>exact fun h=>⟨x,rfl,h⟩
  | none=>exact fun h=>h.elim
 cZ {n k} h:=by
  cases n with
  | ofNat i=>exact⟨i,rfl,h⟩
  | negSucc i=>exact h.elim
 kC h:=let ⟨⟨m,e,h⟩⟩:=h;e▸h
section
variable {R:Type}
def cc(n:Nat)(k:Nat→R):R:=match n with
 | 0=>k 0
 | 1=>k 1
 | n+2=>k (n+2)
def zH{α:Type}:List α→(List α→R)→R
 | [],k=>k []
 | a :: l,k=>zH l fun l=>k (a :: l)
mutual
def D.fo:D→(D→R)→R
 | .fr x,k=>k (.fr x)
 | .ag cs,k=>D.fos cs fun cs=>k (.ag cs)
 | .tp cs,k=>D.fos cs fun cs=>k (.tp cs)
 | .cl f cs,k=>D.fos cs fun cs=>k (.cl f cs)
 | .ptr b v o,k=>cc b fun b=>cc v fun v=>k (.ptr b v o)
 | .rp b v sz i o,k=>cc b fun b=>cc v fun v=>cc o fun o=>k (.rp b v sz i o)
 | .own b v,k=>cc b fun b=>cc v fun v=>k (.own b v)
 | .mv b v,k=>cc b fun b=>cc v fun v=>k (.mv b v)
 | .yl b v,k=>cc b fun b=>cc v fun v=>k (.yl b v)
 | .sub b v sz lo hi ex,k=>cc b fun b=>cc v fun v=>k (.sub b v sz lo hi ex)
 | .fx rows,k=>k (.fx rows)
 | .mcl f fs cs,k=>D.fos fs fun fs=>D.fos cs fun cs=>k (.mcl f fs cs)
def D.fos:List D→(List D→R)→R
 | [],k=>k []
 | x :: l,k=>D.fo x fun x=>D.fos l fun l=>k (x :: l)
end
def oQ:List (Nat×D)→(List (Nat×D)→R)→R
 | [],k=>k []
 | (t,d) :: l,k=>D.fo d fun d=>oQ l fun l=>k ((t,d) :: l)
def cdF(c:Code)(k:Code→R):R:=match c with
 | .seq a b=>k (.seq a b)
 | .region i o d=>k (.region i o d)
 | .block i b=>k (.block i b)
 | c=>k c
theorem LV(c:Code)(k:Code→R):cdF c k=k c:=by cases c<;>rfl
def B.fo(x:B)(k:B→R):R:=match x with
 | .va v t cs=>cc v fun v=>D.fos cs fun cs=>k (.va v t cs)
 | .ro v e sz rows=>cc v fun v=>k (.ro v e sz rows)
 | .gone v=>cc v fun v=>k (.gone v)
 | .mp v rows=>cc v fun v=>k (.mp v rows)
 | .lp v ⟨st,jR,f,N,s,ps,asg,body,db,dv⟩=>cc v fun v=>cc st fun st=>cc f fun f=>cc N fun N=>zH ps fun ps=>cdF asg fun asg=>cdF body fun body=>(match jR with
  | some c=>oQ s fun s=>cc db fun db=>cc dv fun dv=>k (.lp v ⟨st,some c,f,N,s,ps,asg,body,db,dv⟩)
  | none=>oQ s fun s=>cc db fun db=>cc dv fun dv=>k (.lp v ⟨st,none,f,N,s,ps,asg,body,db,dv⟩))
 | .df v=>cc v fun v=>k (.df v)
 | .gh v vs ds=>cc v fun v=>D.fos ds fun ds=>k (.gh v vs ds)
def xT:List (Nat×B)→(List (Nat×B)→R)→R
 | [],k=>k []
 | (b,x) :: l,k=>cc b fun b=>B.fo x fun x=>xT l fun l=>k ((b,x) :: l)
def rX:List (Nat×B)→List (Nat×B)→(List (Nat×B)→R)→R
 | [],h,k=>k h
 | (b,x) :: l,h,k=>cc b fun b=>B.fo x fun x=>rX l h fun l=>k ((b,x) :: l)
mutual
def F.fo:F→(F→R)→R
 | .ag cs,k=>F.fos cs fun cs=>k (.ag cs)
 | .tp cs,k=>F.fos cs fun cs=>k (.tp cs)
 | .cl f cs,k=>F.fos cs fun cs=>k (.cl f cs)
 | .vl x,k=>k (.vl x)
 | .sl x,k=>k (.sl x)
 | .pt sz rows i o,k=>k (.pt sz rows i o)
 | .mp x,k=>k (.mp x)
def F.fos:List F→(List F→R)→R
 | [],k=>k []
 | x :: l,k=>F.fo x fun x=>F.fos l fun l=>k (x :: l)
end
def CP(p:Option (Nat×Nat))(k:Option (Nat×Nat)→R):R:=match p with
 | none=>k none
 | some (a,b)=>cc a fun a=>cc b fun b=>k (some (a,b))
def oh:List (Nat×Nat)→(List (Nat×Nat)→R)→R
 | [],k=>k []
 | (a,b) :: l,k=>cc a fun a=>cc b fun b=>oh l fun l=>k ((a,b) :: l)
def kiF:List KI→(List KI→R)→R
 | [],k=>k []
 | x :: l,k=>(match x with
  | .code c=>kiF l fun l=>k (.code c :: l)
  | .blk i=>kiF l fun l=>k (.blk i :: l)
  | .loop c=>kiF l fun l=>k (.loop c :: l)
  | .scope c=>kiF l fun l=>k (.scope c :: l)
  | .reg o p=>kiF l fun l=>k (.reg o p :: l)
  | .rf b v=>cc b fun b=>cc v fun v=>kiF l fun l=>k (.rf b v :: l)
  | .erf b v=>cc b fun b=>cc v fun v=>kiF l fun l=>k (.erf b v :: l)
  | .br=>kiF l fun l=>k (.br :: l))
def fmF(f:Fm)(k:Fm→R):R:=match f with
 | ⟨f,N,s,ki,ds,ro⟩=>cc f fun f=>cc N fun N=>oQ s fun s=>kiF ki fun ki=>oh ds fun ds=>CP ro fun ro=>k ⟨f,N,s,ki,ds,ro⟩
def IA:List Fm→(List Fm→R)→R
 | [],k=>k []
 | f :: l,k=>fmF f fun f=>IA l fun l=>k (f :: l)
theorem bK(n:Nat)(k:Nat→R):cc n k=k n:=by
 match n with
 | 0=>rfl
 | 1=>rfl
 | n+2=>rfl
theorem uJ{α:Type}:∀(l:List α) (k:List α→R),zH l k=k l
 | [],_=>rfl
 | a :: l,k=>by unfold zH;exact uJ l _
mutual
theorem D.lO:∀(d:D) (k:D→R),D.fo d k=k d
 | .fr x,k=>by simp only[D.fo]
 | .ag cs,k=>by unfold D.fo;exact D.da cs _
 | .tp cs,k=>by unfold D.fo;exact D.da cs _
 | .cl f cs,k=>by unfold D.fo;exact D.da cs _
 | .ptr b v o,k=>by simp only[D.fo,bK]
 | .rp b v sz i o,k=>by simp only[D.fo,bK]
 | .own b v,k=>by simp only[D.fo,bK]
 | .mv b v,k=>by simp only[D.fo,bK]
 | .yl b v,k=>by simp only[D.fo,bK]
 | .sub b v sz lo hi ex,k=>by simp only[D.fo,bK]
 | .fx rows,k=>by simp only[D.fo]
 | .mcl f fs cs,k=>by unfold D.fo;rw[D.da fs];exact D.da cs _
theorem D.da:∀(l:List D) (k:List D→R),D.fos l k=k l
 | [],k=>by simp only[D.fos]
 | x :: l,k=>by unfold D.fos;rw[D.lO x];exact D.da l _
end
theorem j6:∀(l:List (Nat×D)) (k:List (Nat×D)→R),oQ l k=k l
 | [],k=>rfl
 | (t,d) :: l,k=>by unfold oQ;rw[D.lO];exact j6 l _
theorem B.lO(x:B)(k:B→R):B.fo x k=k x:=by
 cases x with
 | va v t cs=>simp only[B.fo,bK,D.da]
 | ro v e sz rows=>simp only[B.fo,bK]
 | gone v=>simp only[B.fo,bK]
 | mp v rows=>simp only[B.fo,bK]
 | lp v l=>obtain⟨st,jR,f,N,s,ps,asg,body,db,dv⟩:=l;cases jR<;>simp only[B.fo,bK,j6,uJ,LV]
 | df v=>simp only[B.fo,bK]
 | gh v vs ds=>simp only[B.fo,bK,D.da]
theorem o9:∀(l:List (Nat×B)) (k:List (Nat×B)→R),xT l k=k l
 | [],k=>rfl
 | (b,x) :: l,k=>by unfold xT;rw[bK,B.lO];exact o9 l _
theorem pg:∀(e h:List (Nat×B)) (k:List (Nat×B)→R),rX e h k=k (e++h)
 | [],h,k=>rfl
 | (b,x) :: l,h,k=>by unfold rX;rw[bK,B.lO];exact pg l h _
mutual
theorem F.lO:∀(x:F) (k:F→R),F.fo x k=k x
 | .ag cs,k=>by unfold F.fo;exact F.da cs _
 | .tp cs,k=>by unfold F.fo;exact F.da cs _
 | .cl f cs,k=>by unfold F.fo;exact F.da cs _
 | .vl x,k=>by simp only[F.fo]
 | .sl x,k=>by simp only[F.fo]
 | .pt sz rows i o,k=>by simp only[F.fo]
 | .mp x,k=>by simp only[F.fo]
theorem F.da:∀(l:List F) (k:List F→R),F.fos l k=k l
 | [],k=>by simp only[F.fos]
 | x :: l,k=>by unfold F.fos;rw[F.lO x];exact F.da l _
end
theorem yZ(p:Option (Nat×Nat))(k:Option (Nat×Nat)→R):CP p k=k p:=by
 rcases p with _|⟨a,b⟩
 ·rfl
 ·simp only[CP,bK]
theorem ky:∀(l:List (Nat×Nat)) (k:List (Nat×Nat)→R),oh l k=k l
 | [],k=>rfl
 | (a,b) :: l,k=>by unfold oh;rw[bK,bK];exact ky l _
theorem uK:∀(l:List KI) (k:List KI→R),kiF l k=k l
 | [],k=>rfl
 | x :: l,k=>by cases x<;>simp only[kiF,bK]<;>exact uK l _
theorem Lh(f:Fm)(k:Fm→R):fmF f k=k f:=by
 obtain⟨f,N,s,ki,ds,ro⟩:=f;simp only[fmF,bK,j6,uK,ky,yZ]
theorem Dw:∀(l:List Fm) (k:List Fm→R),IA l k=k l
 | [],k=>rfl
 | f :: l,k=>by unfold IA;rw[Lh];exact Dw l _
end
abbrev Kc(R:Type):=Nat→Nat→List (Nat×D)→List KI→List (Nat×Nat)→Option (Nat×Nat)→List Fm→List (Nat×B)→Nat→R
def Kc.un{R:Type}(K:Kc R)(c:Cfg):R:=K c.top.f c.top.N c.top.s c.top.k c.top.ds c.top.ro c.cs c.h c.nx
section
variable {R:Type} (al:Al R) (X:Tx) (O:Orc R) (fin:D→List (Nat×B)→R) (K:Kc R)
def fC(s:List (Nat×D))(dst:Option Nat)(d:D)(k:List (Nat×D)→R):R:=match dst with
 | some t=>D.fo d fun d=>k ((t,d) :: s)
 | none=>k s
def so(c:Fm)(d:D)(cs:List Fm)(h:List (Nat×B))(nx:Nat):R:=match c with
 | ⟨f,N,s,ki,ds,ro⟩=>match ki with
  | .reg ops (o :: l) :: k=>al.au (dOk N o.dst) (fC s o.dst d fun s=>xT h fun h=>K f N s (.reg ops l :: k) ds ro cs h nx)
  | .rf b v :: k=>xT h fun h=>K f N s (.erf b v :: k) ds ro cs h nx
  | _=>al.bot
def Jl(f:Nat)(s:List (Nat×D))(ds:List (Nat×Nat))(cs:List Fm)(h:List (Nat×B))(nx:Nat):R:=match X.fi f with
 | some fi=>(match uS ds h with
  | some h=>(match kN (fi.rs.map (EH X.E ⟨s,h⟩)) with
   | some rs=>(match cs with
    | []=>fin (qw rs) h
    | c1 :: cs=>so al K c1 (qw rs) cs h nx)
   | none=>al.bot)
  | none=>al.bot)
 | none=>al.bot
def qN(f:Nat)(s:List (Nat×D))(ds:List (Nat×Nat))(ro:Option (Nat×Nat))(cs:List Fm)(h:List (Nat×B))(nx:Nat)(j:Option Code):R:=match ro with
 | none=>(match j with
  | none=>Jl al X fin K f s ds cs h nx
  | some .ret=>Jl al X fin K f s ds cs h nx
  | _=>al.bot)
 | some (b,v)=>(match lk h b,cs,ds with
  | some (.lp v' L),c1 :: cs,[]=>al.au (Nat.beq v v') (so al K c1 (Bo j.isNone) cs ((b,.lp v { L with st:=bif j.isNone then 0 else 2,jR:=j }) :: h) nx)
  | _,_,_=>al.bot)
def nX(f:Nat)(l:List D)(cs:List Fm)(h:List (Nat×B))(nx:Nat):R:=match X.fi f with
 | some fi=>al.au (Nat.ble l.length fi.N) (D.fos l fun l=>oQ (pP 0 l) fun s=>K f fi.N s [.code fi.body] [] none cs h nx)
 | none=>al.bot
def Aq(dr:Bool):CR R:=fun t η f l k=>match X.hp f with
 | true=>D.fos l fun l=>O.he t η f l k
 | false=>match X.bd f with
 | kind+1=>(match bdX X.E (X.bt f) X.u8 (kind+1) t η l with
 | some (d,rd,e)=>k d rd e
 | none=>al.bot)
 | 0=>match cX (D.toF η 6) l with
 | some (fl,is)=>F.fos fl fun fl=>O.pu f fl fun r=>match r with
  | (x,fr)=>F.fo x fun x=>bif x.flat||fr then k x.toD is [] else bif dr && !is.isEmpty then al.bot else k x.toD is (aZ η is)
 | none=>al.bot
def Dl(f:Nat)(a:List D)(yes:Bool)(c:Fm)(cs:List Fm)(h:List (Nat×B))(nx:Nat)(put:Kr R):R:=bif yes then Aq al X O false nx (lk h) f a put else nX al X K f a (c :: cs) h nx
def Dr(f N:Nat)(s:List (Nat×D))(ds:List (Nat×Nat))(ro:Option (Nat×Nat))(cs:List Fm)(h:List (Nat×B))(nx:Nat)(o:Oper)(ops:Array Oper)(l:List Oper)(k:List KI):R:=
 al.au (dOk N o.dst) (match o.op with
  | .call ⟨.value x,args,tys⟩=>(match evD X.Γ s x,kN (args.toList.map (evD X.Γ s)) with
   | some (.cl g cp),some a=>Dl al X O K g (a++cp) (X.hp g||Nat.blt 0 (X.bd g)||(X.pu g && !jg (a++cp))) ⟨f,N,s,.reg ops (o :: l) :: k,ds,ro⟩ cs h nx fun d _ e=>fC s o.dst d fun s=>rX e h fun h=>cc (nx+1) fun nx=>K f N s (.reg ops l :: k) ds ro cs h nx
   | some (.fr (.cl g cp)),some a=>Dl al X O K g (a++cp.map F.toD) (X.hp g||Nat.blt 0 (X.bd g)||(X.pu g && !jg a)) ⟨f,N,s,.reg ops (o :: l) :: k,ds,ro⟩ cs h nx fun d _ e=>fC s o.dst d fun s=>rX e h fun h=>cc (nx+1) fun nx=>K f N s (.reg ops l :: k) ds ro cs h nx
   | some (.mcl g fs cp),some a=>Dl al X O K g (fs++a++cp) (X.hp g||Nat.blt 0 (X.bd g)||(X.pu g && !jg (fs++a++cp))) ⟨f,N,s,.reg ops (o :: l) :: k,ds,ro⟩ cs h nx fun d _ e=>fC s o.dst d fun s=>rX e h fun h=>cc (nx+1) fun nx=>K f N s (.reg ops l :: k) ds ro cs h nx
   | some (.yl b v),some a=>(match lk h b with
    | some (.lp v' L)=>al.au (Nat.beq v v'&&Nat.beq a.length L.ps.length&&L.ps.all fun p=>Nat.blt p L.N)
      (oQ (E0 L.ps a L.s) fun s'=>K L.f L.N s' [.code L.asg,.br,.code L.body] [] (some (b,v)) (⟨f,N,s,.reg ops (o :: l) :: k,ds,ro⟩ :: cs) h nx)
    | _=>al.bot)
   | _,_=>al.bot)
  | op=>opG al X.E (lk h) nx X.Q (fun _ _ _ _ _=>al.bot) (evD X.Γ s) op fun d _ e=>fC s o.dst d fun s=>rX e h fun h=>cc (nx+1) fun nx=>K f N s (.reg ops l :: k) ds ro cs h nx)
noncomputable def okE(ops:Array Oper)(acs:List Ac):Bool:=Classical.choose (p:=fun b=>b=okD ops acs) ⟨_,rfl⟩
theorem Ig(ops:Array Oper)(acs:List Ac):okE ops acs=okD ops acs:=Classical.choose_spec (p:=fun b=>b=okD ops acs) ⟨_,rfl⟩
noncomputable def za(N:Nat)(b0:Nat)(ops:Array Oper)(K:List (Nat×D)→List (Nat×B)→R):List Ac→List Oper→List (Nat×D)→List (Nat×B)→R
 | acc,[],s,h=>al.au (okE ops acc.reverse) (K s h)
 | acc,o :: l,s,h=>al.au (dOk N o.dst) (match o.guard with
  | none=>opG al X.E (lk h) (b0+o.dst.getD 0) X.Q (Aq al X O true) (evD X.Γ s) o.op fun d rd e=>fC s o.dst d fun s=>rX e h fun h=>za N b0 ops K (.ex d rd e :: acc) l s h
  | some (j,want)=>match gd ops j with
   | some dj=>al.au (Nat.blt dj N) (match lk s dj with
    | some (.fr (.vl (.bool b)))=>al.oJ (qj b want)
     (opG al X.E (lk h) (b0+o.dst.getD 0) X.Q (Aq al X O true) (evD X.Γ ((dj,.fr (.vl (.bool want))) :: s)) o.op fun d rd e=>fC ((dj,.fr (.vl (.bool want))) :: s) o.dst d fun s=>rX e h fun h=>za N b0 ops K (.ex d rd e :: acc) l s h)
     (fC ((dj,.fr (.vl (.bool (!want)))) :: s) o.dst Un fun s=>za N b0 ops K (.sk :: acc) l s h)
    | some (.fr (.vl (.tuple _)))=>fC s o.dst Un fun s=>za N b0 ops K (.sk :: acc) l s h
    | _=>al.bot)
   | none=>al.bot)
def Bd(f N:Nat)(s:List (Nat×D))(k:List KI)(ds:List (Nat×Nat))(ro:Option (Nat×Nat))(cs:List Fm)(h:List (Nat×B))(nx:Nat)(x:Operand)(ps:Array Nat)(a b:Code):R:=match evD X.Γ s x with
 | some d=>(match ro with
  | none=>cc (nv (lk h) nx) fun v0=>cc (nx+1) fun nx1=>cc (nx+2) fun nx2=>cc (nv (up (lk h) nx (.df v0)) nx1) fun v=>
   (match d with
   | .cl g cp=>nX al X K g (.yl nx1 v :: cp) (⟨f,N,s,.rf nx1 v :: k,(nx,v0) :: ds,none⟩ :: cs) ((nx1,.lp v ⟨0,none,f,N,s,ps.toList,a,b,nx,v0⟩) :: (nx,.df v0) :: h) nx2
   | .fr (.cl g cp)=>nX al X K g (.yl nx1 v :: cp.map F.toD) (⟨f,N,s,.rf nx1 v :: k,(nx,v0) :: ds,none⟩ :: cs) ((nx1,.lp v ⟨0,none,f,N,s,ps.toList,a,b,nx,v0⟩) :: (nx,.df v0) :: h) nx2
   | _=>al.bot)
  | some (b0,u0)=>(match lk h b0 with
   | some (.lp v' L)=>al.au (Nat.beq u0 v') (cc (nv (lk h) nx) fun v=>cc (nx+1) fun nx1=>
    match d with
    | .cl g cp=>nX al X K g (.yl nx v :: cp) (⟨f,N,s,.rf nx v :: k,ds,some (b0,u0)⟩ :: cs) ((nx,.lp v ⟨0,none,f,N,s,ps.toList,a,b,L.db,L.dv⟩) :: h) nx1
    | .fr (.cl g cp)=>nX al X K g (.yl nx v :: cp.map F.toD) (⟨f,N,s,.rf nx v :: k,ds,some (b0,u0)⟩ :: cs) ((nx,.lp v ⟨0,none,f,N,s,ps.toList,a,b,L.db,L.dv⟩) :: h) nx1
    | _=>al.bot)
   | _=>al.bot))
 | none=>al.bot
noncomputable def codeF(f N:Nat)(s:List (Nat×D))(k:List KI)(ds:List (Nat×Nat))(ro:Option (Nat×Nat))(cs:List Fm)(h:List (Nat×B))(nx:Nat)(cd:Code):R:=match cd with
 | .skip=>K f N s k ds ro cs h nx
 | .label _=>K f N s k ds ro cs h nx
 | .seq a b=>K f N s (.code a :: .code b :: k) ds ro cs h nx
 | .cond x a b=>F6 al ((evD X.Γ s x).getD Un) fun q=>al.oJ q (K f N s (.code a :: k) ds ro cs h nx) (K f N s (.code b :: k) ds ro cs h nx)
 | .block id b=>K f N s (.code b :: .blk id :: k) ds ro cs h nx
 | .loop b=>K f N s (.loop b :: k) ds ro cs h nx
 | .scope b=>K f N s (.code b :: .scope b :: k) ds ro cs h nx
 | .exit id=>(match eP id k with
  | some k'=>kiF k' fun k'=>K f N s k' ds ro cs h nx
  | none=>qN al X fin K f s ds ro cs h nx (some (.exit id)))
 | .goto l=>(match eV l k with
  | some k'=>kiF k' fun k'=>K f N s k' ds ro cs h nx
  | none=>qN al X fin K f s ds ro cs h nx (some (.goto l)))
 | .ret=>qN al X fin K f s ds ro cs h nx (some .ret)
 | .region id ops false=>zH ops.toList fun l=>K f N s (.reg ops l :: k) ds ro cs h nx
 | .region id ops true=>al.au (pv ops) <| za al X O N nx ops (fun s h=>cc (nx+N) fun nx=>K f N s k ds ro cs h nx) [] ops.toList s h
 | .rangeFunc x ps a b=>Bd al X K f N s k ds ro cs h nx x ps a b
 | .refuse _=>al.bot
noncomputable def yC(f N:Nat)(s:List (Nat×D))(k:List KI)(ds:List (Nat×Nat))(ro:Option (Nat×Nat))(cs:List Fm)(h:List (Nat×B))(nx:Nat):R:=match k with
 | []=>qN al X fin K f s ds ro cs h nx none
 | .code cd :: k=>codeF al X O fin K f N s k ds ro cs h nx cd
 | .blk _ :: k=>K f N s k ds ro cs h nx
 | .scope _ :: k=>K f N s k ds ro cs h nx
 | .loop b :: k=>K f N s (.code b :: .loop b :: k) ds ro cs h nx
 | .reg ops [] :: k=>K f N s k ds ro cs h nx
 | .reg ops (o :: l) :: k=>(match o.guard with
  | none=>Dr al X O K f N s ds ro cs h nx o ops l k
  | some (j,want)=>match gd ops j with
   | some dj=>al.au (Nat.blt dj N) (match lk s dj with
    | some (.fr (.vl (.bool b)))=>al.oJ (qj b want)
     (Dr al X O K f N ((dj,.fr (.vl (.bool want))) :: s) ds ro cs h nx o ops l k)
     (al.au (dOk N o.dst) (fC ((dj,.fr (.vl (.bool (!want)))) :: s) o.dst Un fun s=>K f N s (.reg ops l :: k) ds ro cs h nx))
    | some (.fr (.vl (.tuple _)))=>al.au (dOk N o.dst) (fC s o.dst Un fun s=>K f N s (.reg ops l :: k) ds ro cs h nx)
    | _=>al.bot)
   | none=>al.bot)
 | .rf _ _ :: _=>al.bot
 | .erf b v :: k=>(match lk h b with
  | some (.lp v' L)=>al.au (Nat.beq v v' && !Nat.beq L.st 1) (match L.jR with
   | some j=>rX [(b,.lp v { L with st:=3 })] h fun h=>K f N s (.code j :: k) ds ro cs h nx
   | none=>rX [(b,.lp v { L with st:=3 })] h fun h=>K f N s k ds ro cs h nx)
  | _=>al.bot)
 | .br :: k=>(match ro with
  | some (b,v)=>(match lk h b with
   | some (.lp v' L)=>al.au (Nat.beq v v'&&Nat.beq L.st 0) (rX [(b,.lp v { L with st:=1 })] h fun h=>K f N s k ds ro cs h nx)
   | _=>al.bot)
  | none=>al.bot)
end
section
variable {R:Type} {al:Al R} {X:Tx} {O:Orc R} {fin:D→List (Nat×B)→R} {K:Kc R}
theorem ss(s:List (Nat×D))(dst:Option Nat)(d:D)(k:List (Nat×D)→R):fC s dst d k=k (nD s dst d):=by
 cases dst<;>simp only[fC,nD,D.lO]
theorem zh(dr:Bool):Aq al X O dr=lS al X O dr:=by
 funext t η f l k
 simp only[Aq,lS,F.da,F.lO,D.da];rfl
theorem tY(c:Fm)(d:D)(cs:List Fm)(h:List (Nat×B))(nx:Nat):so al K c d cs h nx=na al K.un c d cs h nx:=by
 obtain⟨f,N,s,ki,ds,ro⟩:=c;simp only[so,na,ss,o9];rfl
theorem JY(f N:Nat)(s:List (Nat×D))(k:List KI)(ds:List (Nat×Nat))(ro:Option (Nat×Nat))(cs:List Fm)(h:List (Nat×B))(nx:Nat):Jl al X fin K f s ds cs h nx=Ew al X fin K.un ⟨⟨f,N,s,k,ds,ro⟩,cs,h,nx⟩:=by
 simp only[Jl,Ew,tY]
 cases h1:X.fi f<;>cases h2:uS ds h<;>rfl
theorem mO(f N:Nat)(s:List (Nat×D))(k:List KI)(ds:List (Nat×Nat))(ro:Option (Nat×Nat))(cs:List Fm)(h:List (Nat×B))(nx:Nat)(j:Option Code):qN al X fin K f s ds ro cs h nx j=mj al X fin K.un ⟨⟨f,N,s,k,ds,ro⟩,cs,h,nx⟩ j:=by
 simp only[qN,mj,JY f N s k ds ro cs h nx,tY];rfl
theorem vO(f:Nat)(l:List D)(cs:List Fm)(h:List (Nat×B))(nx:Nat):nX al X K f l cs h nx=gz al X K.un f l cs h nx:=by
 simp only[nX,gz,D.da,j6];rfl
theorem HW(f N:Nat)(s:List (Nat×D))(k0:List KI)(ds:List (Nat×Nat))(ro:Option (Nat×Nat))(cs:List Fm)(h:List (Nat×B))(nx:Nat)(o:Oper)(ops:Array Oper)(l:List Oper)(k:List KI) :
  Dr al X O K f N s ds ro cs h nx o ops l k=vU al X O K.un ⟨⟨f,N,s,k0,ds,ro⟩,cs,h,nx⟩ o ops l k:=by
 simp only[Dr,vU,Dl,vO,zh,ss,pg,bK,j6];rfl
theorem Du(N b0:Nat)(ops:Array Oper)(K:List (Nat×D)→List (Nat×B)→R):∀(l:List Oper) (acc:List Ac) (s:List (Nat×D)) (h:List (Nat×B)),za al X O N b0 ops K acc l s h=o7 al X O N b0 ops K acc l s h
 | [],acc,s,h=>by simp only[za,o7,Ig]
 | o :: l,acc,s,h=>by
  simp only[za,o7,ss,pg,zh,Du N b0 ops K l];rfl
theorem DU(f N:Nat)(s:List (Nat×D))(k:List KI)(ds:List (Nat×Nat))(ro:Option (Nat×Nat))(cs:List Fm)(h:List (Nat×B))(nx:Nat)(x:Operand)(ps:Array Nat)(a b:Code) :
  Bd al X K f N s k ds ro cs h nx x ps a b=stepG al X O fin K.un ⟨⟨f,N,s,.code (.rangeFunc x ps a b) :: k,ds,ro⟩,cs,h,nx⟩:=by
 simp only[Bd,stepG,bK,vO]
 cases ro<;>rfl
theorem Gt(f N:Nat)(s:List (Nat×D))(k:List KI)(ds:List (Nat×Nat))(ro:Option (Nat×Nat))(cs:List Fm)(h:List (Nat×B))(nx:Nat) :
  yC al X O fin K f N s k ds ro cs h nx=stepG al X O fin K.un ⟨⟨f,N,s,k,ds,ro⟩,cs,h,nx⟩:=by
 match k with
 | []=>exact mO f N s [] ds ro cs h nx none
 | .code cd :: k=>
  show codeF al X O fin K f N s k ds ro cs h nx cd=_
  cases cd with
  | exit id=>simp only[codeF,stepG,uK,mO f N s (.code (.exit id) :: k) ds ro cs h nx];rfl
  | goto l=>simp only[codeF,stepG,uK,mO f N s (.code (.goto l) :: k) ds ro cs h nx];rfl
  | ret=>exact mO f N s (.code .ret :: k) ds ro cs h nx (some .ret)
  | region id ops b=>cases b<;>simp only[codeF,stepG,uJ,Du,bK]<;>rfl
  | rangeFunc x ps a b=>exact DU ..
  | _=>rfl
 | .blk _ :: k=>rfl
 | .scope _ :: k=>rfl
 | .loop b :: k=>rfl
 | .reg ops [] :: k=>rfl
 | .reg ops (o :: l) :: k=>
  simp only[yC,stepG,ss,HW f N _ (.reg ops (o :: l) :: k) ds ro cs h nx];rfl
 | .rf _ _ :: _=>rfl
 | .erf b v :: k=>
  simp only[yC,stepG,pg]
  cases lk h b with
  | none=>rfl
  | some x=>cases x with
   | lp v' L=>obtain⟨st,jR,lf,lN,ls,ps,asg,body,db,dv⟩:=L;cases jR<;>rfl
   | _=>rfl
 | .br :: k=>
  simp only[yC,stepG,pg]
  cases ro<;>rfl
end
end Go.Km
end
section
namespace Go.Km
open Go Go.RowKit Go.Vc
open Go.Sl hiding lk
structure Stp(p:Prop):Prop where
 h:p
structure Lp(p:Prop):Prop where
 h:p
structure Nd(p:Prop):Prop where
 h:p
structure SdA(p q:Prop):Prop where
 h:p
 k:q
structure BrA(c d p q:Prop):Prop where
 h1:c→p
 h2:d→q
structure Br(c p:Prop):Prop where
 h:c→p
structure OkA(ops:Array Oper)(acs:List Ac)(k:Prop):Prop where
 h:okE ops acs=true
 k:k
structure OrA(p a b:Prop):Prop where
 h:(p∧a)∨b
structure ExS(p:Prop)(k:p→Prop):Prop where
 h:p
 k:k h
structure ExK{α:Type}(o:Option α)(k:α→Prop):Prop where
 h:∃y,o=some y∧k y
def Ak:Code→Bool
 | .skip=>true
 | .seq a _=>Ak a
 | _=>false
def DW:List KI→Bool
 | .scope _ :: _=>true
 | _=>false
def Ny:List KI→Bool
 | .loop _ :: _=>true
 | .code c :: k=>(match c with
  | .seq a _=>Ak a&&DW k
  | _=>false)
 | _=>false
class rF (ρ:Type) extends lR ρ where
 fin:ρ→D→List (Nat×B)→Prop
 ok:∀r d h,fin r d h→lR.post r d h
instance:rF (F×Bool) where
 fin r d h:=match D.toF (lk h) 6 d with
  | some (x,_)=>F.fo x fun x=>aa (x,cY (lk h) d) r
  | none=>False
 ok r d h hf:=by
  split at hf
  ·rename_i x is hx;rw[F.lO] at hf;exact⟨x,is,hx,hf.h⟩
  ·exact hf.elim
section
variable {ρ:Type} [rF ρ]
def g0(P:Program)(X:Tx)(f0:Nat)(r:ρ):Kc Prop:=fun f N s k ds ro cs h nx=>Sn P X f0 r ⟨⟨f,N,s,k,ds,ro⟩,cs,h,nx⟩
def goS(P:Program)(X:Tx)(f0:Nat)(r:ρ)(K:Kc Prop):Kc Prop:=yC alQ X ⟨jL P X.Γ,fQ P X.Γ⟩ (rF.fin r) fun f N s k ds ro cs h nx=>match Ny k with
  | true=>Stp (Sn P X f0 r ⟨⟨f,N,s,k,ds,ro⟩,cs,h,nx⟩)
  | false=>K f N s k ds ro cs h nx
def g1(P:Program)(X:Tx)(f0:Nat)(r:ρ):Kc Prop:=goS P X f0 r (g0 P X f0 r)
def g2(P:Program)(X:Tx)(f0:Nat)(r:ρ):Kc Prop:=goS P X f0 r (g1 P X f0 r)
def g3(P:Program)(X:Tx)(f0:Nat)(r:ρ):Kc Prop:=goS P X f0 r (g2 P X f0 r)
def g4(P:Program)(X:Tx)(f0:Nat)(r:ρ):Kc Prop:=goS P X f0 r (g3 P X f0 r)
def g5(P:Program)(X:Tx)(f0:Nat)(r:ρ):Kc Prop:=goS P X f0 r (g4 P X f0 r)
def g6(P:Program)(X:Tx)(f0:Nat)(r:ρ):Kc Prop:=goS P X f0 r (g5 P X f0 r)
def g7(P:Program)(X:Tx)(f0:Nat)(r:ρ):Kc Prop:=goS P X f0 r (g6 P X f0 r)
def g8(P:Program)(X:Tx)(f0:Nat)(r:ρ):Kc Prop:=goS P X f0 r (g7 P X f0 r)
def g9(P:Program)(X:Tx)(f0:Nat)(r:ρ):Kc Prop:=goS P X f0 r (g8 P X f0 r)
def g10(P:Program)(X:Tx)(f0:Nat)(r:ρ):Kc Prop:=goS P X f0 r (g9 P X f0 r)
def g11(P:Program)(X:Tx)(f0:Nat)(r:ρ):Kc Prop:=goS P X f0 r (g10 P X f0 r)
def g12(P:Program)(X:Tx)(f0:Nat)(r:ρ):Kc Prop:=goS P X f0 r (g11 P X f0 r)
def g13(P:Program)(X:Tx)(f0:Nat)(r:ρ):Kc Prop:=goS P X f0 r (g12 P X f0 r)
def g14(P:Program)(X:Tx)(f0:Nat)(r:ρ):Kc Prop:=goS P X f0 r (g13 P X f0 r)
def g15(P:Program)(X:Tx)(f0:Nat)(r:ρ):Kc Prop:=goS P X f0 r (g14 P X f0 r)
def g16(P:Program)(X:Tx)(f0:Nat)(r:ρ):Kc Prop:=goS P X f0 r (g15 P X f0 r)
def g17(P:Program)(X:Tx)(f0:Nat)(r:ρ):Kc Prop:=goS P X f0 r (g16 P X f0 r)
def g18(P:Program)(X:Tx)(f0:Nat)(r:ρ):Kc Prop:=goS P X f0 r (g17 P X f0 r)
def g19(P:Program)(X:Tx)(f0:Nat)(r:ρ):Kc Prop:=goS P X f0 r (g18 P X f0 r)
def g20(P:Program)(X:Tx)(f0:Nat)(r:ρ):Kc Prop:=goS P X f0 r (g19 P X f0 r)
def g21(P:Program)(X:Tx)(f0:Nat)(r:ρ):Kc Prop:=goS P X f0 r (g20 P X f0 r)
def g22(P:Program)(X:Tx)(f0:Nat)(r:ρ):Kc Prop:=goS P X f0 r (g21 P X f0 r)
def g23(P:Program)(X:Tx)(f0:Nat)(r:ρ):Kc Prop:=goS P X f0 r (g22 P X f0 r)
def g24(P:Program)(X:Tx)(f0:Nat)(r:ρ):Kc Prop:=goS P X f0 r (g23 P X f0 r)
end
def zc(g:Cfg)(K:Kc Prop):Prop:=match g with
 | ⟨⟨f,N,s,ki,ds,ro⟩,cs,h,nx⟩=>cc f fun f=>cc N fun N=>oQ s fun s=>kiF ki fun ki=>oh ds fun ds=>CP ro fun ro=>IA cs fun cs=>xT h fun h=>cc nx fun nx=>K f N s ki ds ro cs h nx
theorem De(g:Cfg)(K:Kc Prop):zc g K=K.un g:=by
 obtain⟨⟨f,N,s,k,ds,ro⟩,cs,h,nx⟩:=g;simp only[zc,j6,uK,ky,yZ,Dw,o9,bK];rfl
section
variable {ρ:Type} [rF ρ] {P:Program} {X:Tx} (hX:mA P X) {f0:Nat} {r:ρ}
def L5(P:Program)(X:Tx)(f0:Nat)(r:ρ)(K:Kc Prop):Prop:=∀{f N:Nat} {s:List (Nat×D)} {k:List KI} {ds:List (Nat×Nat)} {ro:Option (Nat×Nat)} {cs:List Fm} {h:List (Nat×B)} {nx:Nat},K f N s k ds ro cs h nx→Sn P X f0 r ⟨⟨f,N,s,k,ds,ro⟩,cs,h,nx⟩
include hX in
theorem cK{K:Kc Prop}(hK:L5 P X f0 r K):L5 P X f0 r (goS P X f0 r K):=by
 intro f N s k ds ro cs h nx hg;unfold goS at hg;rw[Gt] at hg;refine IU (R:=Prop) (al:=alQ) (T:=fun p=>p) hX KP (fun g' hg'=>?_) ⟨fun f l k (h:jL P X.Γ f l k)=>h.h,fun t η f l k (h:fQ P X.Γ t η f l k)=>h.h⟩ (fun d h hf=>rF.ok r d h hf) hg;obtain⟨⟨f,N,s,k,ds,ro⟩,cs,h,nx⟩:=g';simp only[Kc.un] at hg'
 split at hg'
 ·exact hg'.h
 ·exact hK hg'
include hX in
theorem LR:L5 P X f0 r (g24 P X f0 r):=(cK hX (cK hX (cK hX (cK hX (cK hX (cK hX (cK hX (cK hX (cK hX (cK hX (cK hX (cK hX (cK hX (cK hX (cK hX (cK hX (cK hX (cK hX (cK hX (cK hX (cK hX (cK hX (cK hX (cK hX (fun h=>h)))))))))))))))))))))))))
include hX in
theorem Sn.go{g:Cfg}(h:zc g (g24 P X f0 r)):Sn P X f0 r g:=by
 rw[De] at h;exact LR hX h
include hX in
theorem fK{f:FuncId}{fi:Fi}{l:List F}{r:F}{b:Bool}(hf:X.fi f=some fi)(hN:Nat.ble l.length fi.N=true)(h:zc (xq f fi (l.map F.toD)) (g24 P X f (r,b))):Pure P X.Γ f l r b:=
 Js (r:=(r,b)) hX hf hN (Sn.go hX h)
end
theorem kCt{ρ:Type}[rF ρ]{P:Program}{X:Tx}{f0:Nat}{r:ρ}(ks kc:List Nat){g:Cfg}(h:oh (reach kc g.h 10000 (roots kc ks g) []) fun m=>match cut m kc ks g with|some g'=>zc g' fun f N s k ds ro cs h nx=>Lp (Sn P X f0 r ⟨⟨f,N,s,k,ds,ro⟩,cs,h,nx⟩)|none=>False):Stp (Sn P X f0 r g):=by
 rw[ky] at h
 split at h
 ·rename_i g' hg;rw[De] at h;exact⟨Sn.short kc ks hg h.h⟩
 ·exact h.elim
theorem Stp.on{p:Prop}(h:p):Stp p:=⟨h⟩
def jX{α:Type}(u:List (Nat×α)):List (Nat×α)→List (Nat×α)
 | []=>[]
 | (k,x) :: l=>(k,(match lk u k with|some y=>y|none=>x)) :: jX u l
def Jv(s:List (Nat×D))(h:List (Nat×B))(g:Cfg):Cfg:={ g with top:={ g.top with s:=jX s g.top.s },h:=jX h g.h }
abbrev InD(n:Int):D:=.fr (.vl (.int .i64 n))
abbrev BoD(b:Bool):D:=.fr (.vl (.bool b))
def MV(g:Cfg)(s:List (Nat×D))(h:List (Nat×B)):Cfg:=⟨⟨g.top.f,g.top.N,s,g.top.k,g.top.ds,g.top.ro⟩,g.cs,h,g.nx⟩
theorem Lp.ind {ρ:Type} [rF ρ] {P:Program} {X:Tx} {f0:Nat} {r:ρ} {g:Cfg} {ι:Type} (m:ι→Nat) (I:ι→Prop) (σ:ι→List (Nat×D)) (τ:ι→List (Nat×B)) (R:ι→ρ) (i0:ι) (h0:I i0) (hr:r=R i0) (hs:g.top.s=jX (σ i0) g.top.s) (hh:g.h=jX (τ i0) g.h)
  (h:let G:=g;∀i,(∀j r' s' h',m j<m i→I j→r'=R j→s'=jX (σ j) G.top.s→h'=jX (τ j) G.h→Lp (Sn P X f0 r' (MV G s' h')))→I i→Sn P X f0 (R i) (Jv (σ i) (τ i) G)):Lp (Sn P X f0 r g):=by
 have key:∀n i,m i≤n→I i→Sn P X f0 (R i) (Jv (σ i) (τ i) g):=by
  intro n
  induction n with
  | zero=>
   intro i hi hI;exact h i (fun j r' s' h' hj _ _ _ _=>by omega) hI
  | succ n ih=>
   intro i hi hI;exact h i (fun j r' s' h' hj hJ e1 e2 e3=>by rw[e1,e2,e3];exact⟨ih j (by omega) hJ⟩) hI
 have hg:g=Jv (σ i0) (τ i0) g:=by
  unfold Jv;rw[←hs,←hh]
 rw[hr,hg];exact⟨key _ i0 (Ov _) h0⟩
class Arm(p:Prop)(q:outParam Prop):Prop where
 h:q→p
class KC(P:Program)(Γ:Nat→Option (List F))(f:Nat)(l:List F)(r:outParam F)(b:outParam Bool)(pre:outParam Prop):Prop where
 h:pre→Pure P Γ f l r b
theorem Nd.i{p:Prop}(h:p:=by first|with_reducible trivial|exact Or.inr rfl|with_reducible assumption|omega|(simp only[Ok,Oh,Qt,Og,Ol,Px,Ou,OX,jV,Oo,maxLen,true_and,and_true];omega)):Nd p:=⟨h⟩
theorem OkA.i{ops:Array Oper}{acs:List Ac}{k:Prop}(h:okD ops acs=true)(hk:k):OkA ops acs k:=⟨by rw[Ig];exact h,hk⟩
theorem OrA.l{p a b:Prop}(h:Nd p)(ha:a):OrA p a b:=⟨.inl ⟨h.h,ha⟩⟩
theorem OrA.r{p a b:Prop}(hb:b):OrA p a b:=⟨.inr hb⟩
theorem SdA.m{p q:Prop}(h:Nd p)(hq:q):SdA p q:=⟨h.h,hq⟩
theorem BrA.i{c d p q:Prop}(h1:Br c p)(h2:Br d q):BrA c d p q:=⟨h1.h,h2.h⟩
structure No(c:Prop):Prop where
 h:¬c
theorem nt{c:Bool}(h:c=false):¬c=true:=by rw[h];decide
theorem nf{c:Bool}(h:c=true):¬c=false:=by rw[h];decide
theorem No.i{c:Prop}(h:¬c:=by first|with_reducible assumption|(refine nt ?_;with_reducible assumption)|(refine nf ?_;with_reducible assumption)|omega|(simp only[Ok,Oh,Qt,Og,Ol,Px,Ou,OX,jV,Oo];omega)):No c:=⟨h⟩
theorem Br.no{c p:Prop}(h:No c):Br c p:=⟨fun hc=>(h.h hc).elim⟩
theorem Br.i{c p:Prop}(h:c→p):Br c p:=⟨h⟩
theorem ExS.m{p:Prop}{k:p→Prop}(h:Nd p)(hk:∀h,k h):ExS p k:=⟨h.h,hk h.h⟩
structure Kn(p:Prop):Prop where
 h:p
theorem Kn.i{p:Prop}(h:p:=by with_reducible assumption):Kn p:=⟨h⟩
theorem ExK.m{α:Type}{o:Option α}{k:α→Prop}{y:α}(h:Kn (o=some y))(hk:k y):ExK o k:=⟨y,h.h,hk⟩
section
variable {c a b:Bool} {k A B:Prop} {m n:Nat} {x y:Int} {s t:ByteArray}
instance(priority:=low):Arm (iN c k) (SdA (c=true) k):=⟨fun ⟨h,hk⟩=>by have:c=true:=h;subst this;exact hk⟩
instance{ops:Array Oper}{acs:List Ac}:Arm (iN (okE ops acs) k) (OkA ops acs k):=⟨fun ⟨h,hk⟩=>by rw[h];exact hk⟩
instance:Arm (iN (a&&b) k) (iN a (iN b k)):=⟨fun h=>by cases a<;>cases b<;>exact h⟩
instance:Arm (iN (Nat.ble m n) k) (SdA (m≤n) k):=⟨fun ⟨h,hk⟩=>by rw[Rc h];exact hk⟩
instance:Arm (iN (Nat.blt m n) k) (SdA (m<n) k):=⟨fun ⟨h,hk⟩=>by unfold Nat.blt;rw[Rc h];exact hk⟩
instance:Arm (iN (Nat.beq m n) k) (SdA (m=n) k):=⟨fun ⟨h,hk⟩=>by have:m=n:=h;subst this;rw[Pm];exact hk⟩
instance{p q:Nat}:Arm (iN (Nat.beq m n||Nat.beq p q) k) (SdA (m=n∨p=q) k):=⟨fun ⟨h,hk⟩=>by
 rcases h with h|h
 ·have:m=n:=h;subst this;rw[Pm];exact hk
 ·have:p=q:=h;subst this;rw[Pm,Bool.or_true];exact hk⟩
instance:Arm (iN (I3 x) k) (SdA (-9223372036854775808≤x∧x≤9223372036854775807) k):=⟨fun ⟨h,hk⟩=>by rw[(y7 x).2 h];exact hk⟩
instance:Arm (iN (!c) k) (SdA (c=false) k):=⟨fun ⟨h,hk⟩=>by have:c=false:=h;subst this;exact hk⟩
instance:Arm (iN (leI x y) k) (SdA (x≤y) k):=⟨fun ⟨h,hk⟩=>by rw[ed,decide_eq_true (show x≤y from h)];exact hk⟩
instance(priority:=low):Arm (n7 c A B) (BrA (c=true) (c=false) A B):=⟨fun ⟨h1,h2⟩=>by cases c;exact h2 rfl;exact h1 rfl⟩
instance{p:Prop}[Decidable p]:Arm (n7 (decide p) A B) (BrA p (¬p) A B):=⟨fun ⟨h1,h2⟩=>by
 by_cases e:p
 ·rw[decide_eq_true e];exact h1 e
 ·rw[decide_eq_false e];exact h2 e⟩
instance:Arm (n7 (!c) A B) (n7 c B A):=⟨fun h=>by cases c<;>exact h⟩
instance:Arm (n7 (qj c true) A B) (n7 c A B):=⟨fun h=>by cases c<;>exact h⟩
instance:Arm (n7 (qj c false) A B) (n7 c B A):=⟨fun h=>by cases c<;>exact h⟩
instance:Arm (n7 (ltI x y) A B) (BrA (x<y) (y≤x) A B):=⟨fun ⟨h1,h2⟩=>by
 rw[mB]
 by_cases e:x<y
 ·rw[decide_eq_true e];exact h1 e
 ·rw[decide_eq_false e];exact h2 (by omega)⟩
instance:Arm (n7 (leI x y) A B) (BrA (x≤y) (y<x) A B):=⟨fun ⟨h1,h2⟩=>by
 rw[ed]
 by_cases e:x≤y
 ·rw[decide_eq_true e];exact h1 e
 ·rw[decide_eq_false e];exact h2 (by omega)⟩
instance:Arm (n7 (eqI x y) A B) (BrA (x=y) (x≠y) A B):=⟨fun ⟨h1,h2⟩=>by
 rw[dG]
 by_cases e:x=y
 ·rw[decide_eq_true e];exact h1 e
 ·rw[decide_eq_false e];exact h2 e⟩
instance:Arm (n7 (eqS s t) A B) (BrA (s=t) (s≠t) A B):=⟨fun ⟨h1,h2⟩=>by
 rw[sV]
 by_cases e:s=t
 ·rw[decide_eq_true e];exact h1 e
 ·rw[decide_eq_false e];exact h2 e⟩
theorem Lj{s:ByteArray}(h:s≠⟨#[]⟩):0<s.size:=by
 rcases QF s.size with h0|h0
 ·exact absurd (Qb (P6 h0)) h
 ·exact h0
instance(priority:=high):Arm (n7 (eqS s ⟨#[]⟩) A B) (BrA (s=⟨#[]⟩) (s≠⟨#[]⟩∧0<s.size) A B):=⟨fun ⟨h1,h2⟩=>by
 rw[sV]
 by_cases e:s=⟨#[]⟩
 ·rw[decide_eq_true e];exact h1 e
 ·rw[decide_eq_false e];exact h2 ⟨e,Lj e⟩⟩
instance{α:Type}{f:α→List F}{L:List α}{i:Nat}{k:List F→Prop}:Arm (zR (L.map f)[i]? k) (ExS (i<L.length) fun h=>k (f (L[i]'h))):=⟨fun ⟨h,hk⟩=>by
 have h':i<L.length:=h;rw[Pv,Oe h'];exact hk⟩
instance{s:ByteArray}{i:Nat}{k:UInt8→Prop}:Arm (zR s.data.toList[i]? k) (ExS (i<s.size) fun h=>k (s.data.toList[i]'h)):=⟨fun ⟨h,hk⟩=>by
 have h':i<s.data.toList.length:=h;rw[Oe h'];exact hk⟩
instance(priority:=low){α:Type}{xs:List α}{i:Nat}{k:α→Prop}:Arm (zR xs[i]? k) (ExK xs[i]? k):=⟨fun ⟨y,h,hk⟩=>by
 have h':xs[i]?=some y:=h;rw[h'];exact hk⟩
instance{α:Type}{xs:List α}{i j:Nat}{y:α}{k:α→Prop}:Arm (zR (xs.set i y)[j]? k) (OrA (i≠j) (zR xs[j]? k) (OrA (i=j∧j<xs.length) (k y) (ExK (xs.set i y)[j]? k))):=⟨fun ⟨h⟩=>by
 rcases h with ⟨h,hk⟩|⟨⟨⟨h,h2⟩,hk⟩|⟨z,h,hk⟩⟩
 ·have h':i≠j:=h;rw[Qq h'];exact hk
 ·subst h;rw[Qf h2];exact hk
 ·rw[h];exact hk⟩
instance{k:Nat→Prop}:Arm (Ng x k) (SdA (0≤x) (k x.toNat)):=⟨fun ⟨h,hk⟩=>by
 have h':0≤x:=h
 cases x with
 | ofNat i=>exact hk
 | negSucc i=>omega⟩
instance(priority:=low){k:Int→Prop}:Arm (F4 x k) (k x):=⟨fun h=>⟨x,rfl,h⟩⟩
instance{k:Int→Prop}:Arm (F4 (IntKind.i64.wrap x) k) (OrA (-9223372036854775808≤x∧x≤9223372036854775807) (k x) (k (IntKind.i64.wrap x))):=⟨fun ⟨h⟩=>by
 rcases h with ⟨h,hk⟩|hk
 ·exact⟨x,wrap_i64 (by unfold I64;exact h),hk⟩
 ·exact⟨_,rfl,hk⟩⟩
instance{k:Int→Prop}:Arm (F4 (IntKind.u8.wrap x) k) (OrA (0≤x∧x≤255) (k x) (k (IntKind.u8.wrap x))):=⟨fun ⟨h⟩=>by
 rcases h with ⟨h,hk⟩|hk
 ·exact⟨x,wrap_u8 h,hk⟩
 ·exact⟨_,rfl,hk⟩⟩
instance{k:Int→Prop}:Arm (F4 (IntKind.u64.wrap x) k) (OrA (0≤x∧x≤18446744073709551615) (k x) (k (IntKind.u64.wrap x))):=⟨fun ⟨h⟩=>by
 rcases h with ⟨h,hk⟩|hk
 ·exact⟨x,wrap_u64 h,hk⟩
 ·exact⟨_,rfl,hk⟩⟩
instance{l m:List Int}:Arm (n7 (xt l m) A B) (BrA (l=m) (l≠m) A B):=⟨fun ⟨h1,h2⟩=>by
 rw[o6]
 by_cases e:l=m
 ·rw[decide_eq_true e];exact h1 e
 ·rw[decide_eq_false e];exact h2 e⟩
end
structure FoA{α:Type}(l:α)(k k':α→Prop):Prop where
 h:k' l∨∃l',l=l'∧k l'
theorem FoA.m{α:Type}{l l':α}{k k':α→Prop}(h:Kn (l=l'))(hk:k l'):FoA l k k':=⟨.inr ⟨l',h.h,hk⟩⟩
instance(priority:=low){l:List D}{k:List D→Prop}:Arm (D.fos l k) (FoA l (fun l=>D.fos l k) k):=⟨fun ⟨h⟩=>by
 rcases h with h|⟨l',rfl,h⟩
 ·rw[D.da];exact h
 ·exact h⟩
class mb{α:Type}(f:α→List F)(n:outParam Nat):Prop where
 h:∀x,(f x).length=n
theorem zb{α:Type}{f:α→List F}{n:Nat}[h:mb f n](L:List α):kF n (L.map f)=true:=by
 simp only[kF,List.all_map,OF];intro x _;show Nat.beq (f x).length n=true
 rw[h.h];exact Pm n
instance{α:Type}{f:α→List F}{n:Nat}{L:List α}{k:Prop}[mb f n]:Arm (iN (kF n (L.map f)) k) k:=⟨fun h=>by rw[zb];exact h⟩
instance{α:Type}{f:α→List F}{n:Nat}{L:List α}{k:Prop}[mb f n]:Arm (iN (rB n (L.map f)) k) k:=⟨fun h=>by rw[show rB n (L.map f)=kF n (L.map f) from rfl,zb];exact h⟩
instance{P:Program}{Γ:Nat→Option (List F)}{f:Nat}{l:List F}{r:F}{b:Bool}{pre:Prop}{k:F×Bool→Prop}[hc:KC P Γ f l r b pre]:Arm (jL P Γ f l k) (SdA pre (k (r,b))):=⟨fun ⟨h,hk⟩=>⟨(r,b),hc.h h,hk⟩⟩
theorem aa.r{x:F}{b:Bool}:aa (x,b) (x,false):=⟨rfl,fun h=>(by cases h)⟩
theorem aa.t{x:F}{b:Bool}(h:b=true):aa (x,b) (x,true):=⟨rfl,fun _=>h⟩
theorem aa.i{x y:F}{b:Bool}(h:x=y):aa (x,b) (y,false):=⟨h,fun h=>(by cases h)⟩
theorem aa.j{x y:F}{b:Bool}(h:x=y)(hb:b=true):aa (x,b) (y,true):=⟨h,fun _=>hb⟩
theorem aa.b{a b c:Bool}(h:a=b)(hc:c=true):aa (.vl (.bool a),c) (.vl (.bool b),true):=⟨by rw[h],fun _=>hc⟩
theorem aa.n{a b:Int}{c:Bool}(h:a=b)(hc:c=true):aa (.vl (.int .i64 a),c) (.vl (.int .i64 b),true):=⟨by rw[h],fun _=>hc⟩
theorem aa.s{a b:ByteArray}{c:Bool}(h:a=b)(hc:c=true):aa (.vl (.string a),c) (.vl (.string b),true):=⟨by rw[h],fun _=>hc⟩
theorem Hp.ren{c:Cf}{O:Nat→Nat→Prop}{η:Env}{w:World}{m:Rn}{h h':List (Nat×B)}(hp:Hp c O η w)(ho:eN m=true)(hη:∀b x,lk h b=some x→η b=some x)(hr:iW m [] h m 0=some h'):Hp (rC m c) (rO m O) (lk h') w:=by
 refine⟨fun i x' hx'=>?_,fun i v y hy=>?_,fun i j g hi hj=>?_,fun g hg=>?_,fun i g hi=>?_⟩
 ·obtain⟨_,b,x,k1,k2,k3⟩:=mf hr hx';rw[O9] at k1;have hS:rO m O i=O b:=funext fun g=>propext ⟨fun ⟨b',v',e,hO⟩=>by rw[k1] at e;cases e;exact hO,fun hO=>⟨b,_,k1,hO⟩⟩
  rw[hS];exact CA k1 k3 (hp.pc b x (hη b x k2))
 ·simp only[rC,rι] at hy
  split at hy
  ·rename_i b v0 hm;obtain⟨x',hx'⟩:=oX hr hm;rw[OS] at hx';exact⟨x',hx',Oq _⟩
  ·cases hy
 ·obtain⟨b,v,e1,o1⟩:=hi;obtain⟨b',v',e2,o2⟩:=hj;have:=hp.apart b b' g o1 o2;subst this;exact pw ho e1 e2
 ·obtain⟨k1,k2,k3⟩:=hp.fz g hg;exact⟨k1,k2,fun i ⟨b,v,_,o⟩=>k3 b o⟩
 ·obtain⟨b,v,_,o⟩:=hi;exact hp.lt b g o
section
variable {m:Rn} {c c4:Cf} (hι:∀i b v,m[i]?=some (b,v)→c4.ι b v=c.ι i 0) (hZ:c4.Z=c.Z) (hR:c4.R=c.R)
include hι hZ hR
mutual
theorem vt:∀{d d':D} {u:Value},cj m d=some d'→D.rep c d' u→D.rep c4 d u
 | .fr x,d',u,h,hd=>by simp only[cj] at h;cases h;unfold D.rep at hd ⊢;rw[hZ,hR];exact hd
 | .fx x,d',u,h,hd=>by simp only[cj] at h;cases h;unfold D.rep at hd ⊢;rw[hZ,hR];exact hd
 | .ag l,d',u,h,hd=>by
  simp only[cj] at h
  split at h<;>cases h
  rename_i l' hl;unfold D.rep at hd ⊢;obtain⟨vs,h1,h2⟩:=hd;exact⟨vs,h1,eM hl h2⟩
 | .tp l,d',u,h,hd=>by
  simp only[cj] at h
  split at h<;>cases h
  rename_i l' hl;unfold D.rep at hd ⊢;obtain⟨vs,h1,h2⟩:=hd;exact⟨vs,h1,eM hl h2⟩
 | .cl f l,d',u,h,hd=>by
  simp only[cj] at h
  split at h<;>cases h
  rename_i l' hl;unfold D.rep at hd ⊢;obtain⟨vs,h1,h2⟩:=hd;exact⟨vs,h1,eM hl h2⟩
 | .mcl f k l,d',u,h,hd=>by
  simp only[cj] at h
  split at h<;>cases h
  rename_i k' l' hk hl;unfold D.rep at hd ⊢;obtain⟨us,vs,h1,h2,h3⟩:=hd;exact⟨us,vs,h1,eM hk h2,eM hl h3⟩
 | .ptr b v o,d',u,h,hd=>by
  simp only[cj] at h
  split at h<;>cases h
  rename_i i hi;have:=(fA hi).2;rw[O9] at this;unfold D.rep at hd ⊢
  rwa [hι _ _ _ this]
 | .rp b v sz j o,d',u,h,hd=>by
  simp only[cj] at h
  split at h<;>cases h
  rename_i i hi;have:=(fA hi).2;rw[O9] at this;unfold D.rep at hd ⊢
  rwa [hι _ _ _ this]
 | .own b v,d',u,h,hd=>by
  simp only[cj] at h
  split at h<;>cases h
  rename_i i hi;have:=(fA hi).2;rw[O9] at this;unfold D.rep at hd ⊢
  rwa [hι _ _ _ this]
 | .mv b v,d',u,h,hd=>by
  simp only[cj] at h
  split at h<;>cases h
  rename_i i hi;have:=(fA hi).2;rw[O9] at this;unfold D.rep at hd ⊢
  rwa [hι _ _ _ this]
 | .yl b v,d',u,h,hd=>by
  simp only[cj] at h
  split at h<;>cases h
  rename_i i hi;have:=(fA hi).2;rw[O9] at this;unfold D.rep at hd ⊢
  rwa [hι _ _ _ this]
 | .sub b v sz lo hi ex,d',u,h,hd=>by
  simp only[cj] at h
  split at h<;>cases h
  rename_i i hi;have:=(fA hi).2;rw[O9] at this;unfold D.rep at hd ⊢
  rwa [hι _ _ _ this]
theorem eM:∀{d d':List D} {u:List Value},bm m d=some d'→D.aq c d' u→D.aq c4 d u
 | [],d',u,h,hd=>by simp only[bm] at h;cases h;unfold D.aq at hd ⊢;exact hd
 | x :: l,d',u,h,hd=>by
  simp only[bm] at h
  split at h<;>cases h
  rename_i x' l' hx hl;unfold D.aq at hd ⊢;obtain⟨a,b,h1,h2,h3⟩:=hd;exact⟨a,b,h1,vt hx h2,eM hl h3⟩
end
theorem Ek{b i:Nat}{x x':B}{S:Nat→Prop}{w:World}(hi:m[i]?=some (b,x.ver))(h:iA m [] x=some x')(hl:(match x with | .lp _ _=>false|_=>true)=true)(hx:x'.on c i S w):x.on c4 b S w:=by
 have hι':=hι _ _ _ hi
 cases x with
 | va v t cs=>
  simp only[iA] at h
  split at h<;>cases h
  rename_i cs' hcs;obtain⟨g,vs,h1,h2,h3,h4⟩:=hx;exact⟨g,vs,hι'.trans h1,eM hι hZ hR hcs h2,h3,h4⟩
 | ro v e sz rows=>
  simp only[iA] at h
  cases h;obtain⟨A,k,vr,h1,h2,h3,h4⟩:=hx;exact⟨A,k,vr,hι'.trans h1,by rw[hZ,hR];exact h2,h3,h4⟩
 | gone v=>cases h
 | mp v rows=>
  simp only[iA] at h
  cases h;obtain⟨g,es,k,h1,h2,h3,h4⟩:=hx;exact⟨g,es,k,hι'.trans h1,h2,h3,by rw[hZ,hR];exact h4⟩
 | lp v l=>cases hl
 | df v=>
  simp only[iA] at h
  cases h;obtain⟨gs,h1,h2,h3⟩:=hx;exact⟨gs,h1.of hι',h2,h3⟩
 | gh v vs ds=>
  simp only[iA] at h
  split at h<;>cases h
  rename_i ds' hds;exact eM hι hZ hR hds hx
end
structure wS where
 d:D
 h:List (Nat×B)
mutual
theorem DR(m:Rn):∀x:F,cj m x.Bw=some x.Bw
 | .ag cs=>by simp only[F.Bw,cj,pN]
 | .vl _=>rfl
 | .sl _=>rfl
 | .tp _=>rfl
 | .cl _ _=>rfl
 | .pt _ _ _ _=>rfl
 | .mp _=>rfl
theorem pN(m:Rn):∀l:List F,bm m (l.map D.fr)=some (l.map D.fr)
 | []=>rfl
 | x :: l=>by simp only[OB,bm,cj,pN m l]
end
theorem tV(m:Rn):∀l:List F,bm m (l.map F.Bw)=some (l.map F.Bw)
 | []=>rfl
 | x :: l=>by simp only[OB,bm,DR,tV m l]
theorem kv(m:Rn):∀x:F,cj m x.toD=some x.toD
 | .ag cs=>by simp only[F.toD,cj,pN]
 | .tp cs=>by simp only[F.toD,cj,tV]
 | .vl _=>rfl
 | .sl _=>rfl
 | .cl _ _=>rfl
 | .pt _ _ _ _=>rfl
 | .mp _=>rfl
theorem ja(m:Rn):∀l:List F,bm m (l.map F.toD)=some (l.map F.toD)
 | []=>rfl
 | x :: l=>by simp only[OB,bm,kv,ja m l]
instance:lR wS:=⟨fun r d h=>∃x is m,D.toF (lk h) 6 d=some (x,is)∧eN m=true∧x.toD=r.d∧iW m [] (aZ (lk h) is++h) m 0=some r.h⟩
structure dI(d:D)(h:List (Nat×B))(r:wS):Prop where
 h:d=r.d∧h=r.h
def ghD:List (Nat×B)→List (Nat×Nat)
 | []=>[]
 | (_,.gh _ _ ds) :: l=>xV ds++ghD l
 | _ :: l=>ghD l
instance:rF wS where
 fin r d h:=match D.toF (lk h) 6 d with
  | some (x,is)=>F.fo x fun x=>xT (aZ (lk h) is++h) fun h=>oh (reach [] h 10000 (ghD h++ux h) []) fun m=>iN (eN m) (match iW m [] h m 0 with
   | some h'=>D.fo x.toD fun d'=>xT h' fun h'=>dI d' h' r
   | none=>False)
  | none=>False
 ok r d h hf:=by
  split at hf
  ·rename_i x is hx;rw[F.lO,o9,ky] at hf
   cases ho:eN (reach [] (aZ (lk h) is++h) 10000 (ghD (aZ (lk h) is++h)++ux (aZ (lk h) is++h)) []) with
   | false=>rw[ho] at hf;exact hf.elim
   | true=>
    rw[ho] at hf
    change (match iW _ [] _ _ 0 with|some h'=>D.fo x.toD fun d'=>xT h' fun h'=>dI d' h' r|none=>False) at hf
    split at hf
    ·rename_i h' h2;rw[D.lO,o9] at hf;exact⟨x,is,_,hx,ho,hf.h.1,by rw[h2,hf.h.2]⟩
    ·exact hf.elim
  ·exact hf.elim
theorem Jk(e h:List (Nat×B)):Res.lk2 e (lk h)=lk (e++h):=by
 induction e with
 | nil=>rfl
 | cons a e ih=>
  obtain⟨j,y⟩:=a;show up (Res.lk2 e (lk h)) j y=_
  rw[ih,List.cons_append,cB]
theorem DI{α:Type}(h:List (Nat×α))(k:Nat)(x:α)(i:Nat):lk (h++[(k,x)]) i=match lk h i with|some y=>some y|none=>bif Nat.beq k i then some x else none:=by
 induction h with
 | nil=>rfl
 | cons a h ih=>
  obtain⟨j,y⟩:=a;simp only[List.cons_append,lk,ih]
  cases Nat.beq j i<;>rfl
theorem wo:∀{m:Rn} {b v i:Nat} (k:Nat),eN m=true→m[i]?=some (b,v)→cW m b v k=some (k+i)
 | [],b,v,i,k,_,h=>by simp at h
 | (b0,v0) :: m,b,v,i,k,ho,h=>by
  simp only[eN,Oi,Pc,Pn] at ho;simp only[cW]
  cases i with
  | zero=>
   simp at h;obtain⟨rfl,rfl⟩:=h;simp
  | succ i=>
   simp at h;have hne:Nat.beq b b0=false:=by
    rw[←Bool.not_eq_true];intro e;have:=Nat.eq_of_beq_eq_true e;subst this;exact ho.1 _ (OI h) (by simp)
   rw[hne];simp only[cond_false];rw[wo (k+1) ho.2 h]
   congr 1
   omega
theorem pj:∀{e:List (Nat×B)} {η:Env} {b:Nat} {x:B},lk e b=some x→Res.lk2 e η b=some x
 | [],η,b,x,h=>by cases h
 | (j,y) :: e,η,b,x,h=>by
  simp only[lk] at h;simp only[Res.lk2,up]
  cases hj:Nat.beq j b with
  | true=>rw[hj] at h;exact h
  | false=>rw[hj] at h;exact pj h
theorem tZ:∀{e:List (Nat×B)} {η:Env} {b:Nat},lk e b=none→Res.lk2 e η b=η b
 | [],η,b,h=>rfl
 | (j,y) :: e,η,b,h=>by
  simp only[lk] at h;simp only[Res.lk2,up]
  cases hj:Nat.beq j b with
  | true=>rw[hj] at h;cases h
  | false=>rw[hj] at h;exact tZ h
structure MQ(η:Env)(l:List D)(m0:Rn)(hb:List (Nat×B))(μ:Rn)(ds':List D)(rd:List Nat)(e:List (Nat×B)):Prop where
 once:eN m0=true
 J4:eN μ=true
 blk:∀b x,lk hb b=some x→η b=some x∧b∈rd
 m0e:∀b v,(b,v)∈m0→∃x,lk e b=some x
 erd:∀b x,lk e b=some x→b∈rd
 kind:∀b x,lk e b=some x→(match x with | .lp _ _=>false | .gh _ _ _=>false|_=>true)=true∧((∃i:Nat,μ[i]?=some (b,x.ver))∨∃v,x=.gone v)
 ver:∀b x y,lk e b=some x→η b=some y→y.ver≤x.ver
 dZ:∀(i b v:Nat),μ[i]?=some (b,v)→v=nv η b∨(∃j o:Nat,l[j]?=some (.ptr b v o)∧ds'[j]?=some (.ptr i 0 o))∨∃j:Nat,l[j]?=some (.own b v)∧ds'[j]?=some (.own i 0)
theorem j5 {P:Program} {X:Tx} (hX:mA P X) {f:FuncId} {fi:Fi} (hf:X.fi f=some fi) {η:Env} {l l0 x x0:List D} {m0 μ:Rn} {hb h0:List (Nat×B)} {d d':D} {ds':List D} {rd:List Nat} {e h'':List (Nat×B)}
  (hs:MQ η (l++x) m0 hb μ ds' rd e) (hm0:iW m0 [] hb m0 0=some h0) (hl:bm m0 l=some l0) (hxr:bm m0 x=some x0) (hxv:∀η' c O w,(∀b∈rd,η' b=η b)→Hp c O η' w→∃us,D.aq c x us) (hN:Nat.ble l0.length fi.N=true) (hd:cj μ d=some d') (he:iW μ [] e μ 0=some h'')
  (hrun:∀vs,Sn P X f (⟨d',h''++[(μ.length,.gh 0 vs ds')]⟩:wS) ⟨⟨f,fi.N,pP 0 l0,[.code fi.body],[],none⟩,[],(m0.length,.gh 0 vs (l0++x0)) :: h0,m0.length+1⟩):fj P X.Γ η f l d rd e:=by
 obtain⟨hcf,fn,hfn,hbd,hNn,hrs⟩:=hX.fi _ _ hf;refine⟨fun η' hη' W c O w vs hΓ hp hold hvs=>⟨hcf,fun cs=>?_⟩⟩;have hblk:∀b x,lk hb b=some x→η' b=some x:=fun b x hx=>(hη' b (hs.blk b x hx).2).trans (hs.blk b x hx).1
 have hp1:=Hp.ren hp hs.once hblk hm0;have hvs1:D.aq (rC m0 c) l0 vs:=ey hl hvs;obtain⟨us,hus⟩:=hxv η' c O w hη' hp;have hvx:=D.bZ hvs hus;have hvx1:D.aq (rC m0 c) (l0++x0) (vs++us):=D.bZ hvs1 (ey hxr hus);have hkeys:∀{h h':List (Nat×B)} {m:Rn},iW m [] h m 0=some h'→∀i x,lk h' i=some x→i<m.length:=by
  intro h h' m hm i x hx;obtain⟨_,b,y,k1,_⟩:=mf hm hx;rw[O9] at k1;exact(Ox.1 k1).1
 have hp2:Hp (rC m0 c) (rO m0 O) (lk ((m0.length,.gh 0 (vs++us) (l0++x0)) :: h0)) w:=by
  rw[cB];refine⟨fun i x hx=>?_,fun i v y hy=>?_,hp1.apart,hp1.fz,hp1.lt⟩
  ·by_cases e:m0.length=i
   ·subst e;rw[bY] at hx
    cases hx;exact hvx1
   ·rw[aK e] at hx;exact hp1.pc i x hx
  ·obtain⟨x,hx,hv⟩:=hp1.bound i v y hy;have:m0.length≠i:=by
    have:=hkeys hm0 i x hx;omega
   exact⟨x,by rw[aK this];exact hx,hv⟩
 have hlen:=D.bl hvs1;have hs0:=nZ (N:=fi.N) hvs1 hN;have hrun:=hrun (vs++us);unfold Sn at hrun;obtain⟨v,w',fr,d0,h0',c0,O0,q1,q2,q3,⟨x0,is0,m,qx,qo,qe,qh⟩,q7,q8,q9⟩:=hrun ⟨w,fun g=>∃i,rO m0 O i g,rC m0 c⟩ cs hΓ (rC m0 c) (rO m0 O) ((bF f none).atR ⟨vs.toArray++Array.replicate (fi.N - vs.toArray.size) undef,[]⟩ [.code fi.body]) [] w
  ⟨⟨_,_,none,rfl,hs0,⟨_,_,rfl,rfl,rfl⟩,rfl,rfl⟩,rfl,hp2,⟨rfl,rfl,rfl,Ov _,fun _ _ _=>rfl,fun i g h=>.inl ⟨i,h⟩,fun g hg=>.inl hg,Ext.refl _ _⟩,rfl⟩
 have q7:=pz (c:=cfz c0 O0 is0 w') (kY q8 is0 6 d0 x0 is0 v qx (fun b h=>h) q7);have q9:=q9.fz_ q8 is0;have q8:=q8.fz_ is0 (iQ 6 d0 x0 is0 qx);rw[Jk] at q8;have qe:x0.toD=d':=qe;rw[qe] at q7;generalize cfz c0 O0 is0 w'=c2 at *;generalize Ofz O0 is0=O2 at *;generalize aZ (lk h0') is0++h0'=h2 at *;have qd:cj m d'=some d':=by rw[←qe];exact kv m x0
 have p3:=Hp.ren q8 qo (fun _ _ h=>h) qh;have hv3:=tU qd q7;have hW:∀g,(∃i,rO m0 O i g)→∃b v,(b,v)∈m0∧O b g:=fun g ⟨i,b,v,e1,e2⟩=>⟨b,v,OI e1,e2⟩
 have hgn:lk h'' μ.length=none:=by
  cases h:lk h'' μ.length with
  | none=>rfl
  | some x=>exact absurd (hkeys he _ _ h) (Nat.lt_irrefl _)
 have hg3:D.aq (rC m c2) ds' (vs++us):=p3.pc μ.length (.gh 0 (vs++us) ds') (by rw[DI,hgn];simp);have hlive:∀i b v,μ[i]?=some (b,v)→∃x x',lk e b=some x∧x.ver=v∧iA μ [] x=some x'∧lk h'' i=some x':=by
  intro i b v hi;obtain⟨x',hx'⟩:=oX he hi;rw[OS] at hx';obtain⟨_,b',x,k1,k2,k3⟩:=mf he hx';rw[O9,hi] at k1
  cases k1;exact⟨x,x',k2,rfl,k3,hx'⟩
 let c4:Cf:=⟨fun b v=>match cW μ b v 0 with|some i=>(rC m c2).ι i 0|none=>c.ι b v,c2.R,c2.Z⟩
 have hι:∀i b v,μ[i]?=some (b,v)→c4.ι b v=(rC m c2).ι i 0:=by
  intro i b v hi;show(match cW μ b v 0 with|some i=>(rC m c2).ι i 0|none=>c.ι b v)=_
  rw[wo 0 hs.J4 hi,OS]
 have hle:c.le c4:=by
  refine⟨fun b v x hx=>?_,q9.le⟩;show(match cW μ b v 0 with|some i=>(rC m c2).ι i 0|none=>c.ι b v)=some x
  cases hpos:cW μ b v 0 with
  | none=>exact hx
  | some i=>
   have hi:=(fA hpos).2;rw[O9] at hi;obtain⟨y,y',k1,k2,k3,k4⟩:=hlive i b v hi;rcases hs.dZ i b v hi with rfl|⟨j,o,g1,g2⟩|⟨j,g1,g2⟩
   ·exfalso
    have:=hp.fresh b;rw[dq (hη' b (hs.erd b y k1)),hx] at this
    cases this
   ·obtain⟨u,hu1,hu2⟩:=D.cQ hvx g1;obtain⟨u',hu3,hu4⟩:=D.cQ hg3 g2;rw[hu1] at hu3
    cases hu3;unfold D.rep at hu2 hu4;obtain⟨g,a1,a2⟩:=hu2;obtain⟨g',a3,a4⟩:=hu4;rw[a2] at a4
    cases a4;simp only;rw[a3,←a1,hx]
   ·obtain⟨u,hu1,hu2⟩:=D.cQ hvx g1;obtain⟨u',hu3,hu4⟩:=D.cQ hg3 g2;rw[hu1] at hu3
    cases hu3;unfold D.rep at hu2 hu4;obtain⟨A1,m1,k1',a1,a2⟩:=hu2;obtain⟨A2,m2,k2',a3,a4⟩:=hu4;rw[a2] at a4
    cases a4;simp only;rw[a3,←a1,hx]
 have hO4:∀b g,O b g→lk e b=none→¬∃i,rO m0 O i g:=by
  intro b g h1 h2 h3;obtain⟨b',v',k1,k2⟩:=hW g h3;have:=hp.apart b b' g h1 k2;subst this;obtain⟨x,hx⟩:=hs.m0e b v' k1;rw[h2] at hx
  cases hx
 have hnew:∀i g,rO m O2 i g→(∃j,rO m0 O j g)∨w.heap.size≤g:=fun i g ⟨b,v,_,h⟩=>q9.own b g h
 refine⟨.returned v,w',fr,⟨v,rfl,d,rd,e,c4,fun b g=>(∃i v,μ[i]?=some (b,v)∧rO m O2 i g)∨(lk e b=none∧O b g),⟨rfl,rfl,rfl⟩,hle,vt hι rfl rfl hd hv3,⟨fun b x hx=>?_,fun b u y hy=>?_,fun b b' g h1 h2=>?_,fun g hg=>?_,fun b g hg=>?_⟩,?_⟩,?_,q2,q3⟩
 ·cases hl:lk e b with
  | some y=>
   rw[pj hl] at hx
   cases hx;obtain⟨k1,k2⟩:=hs.kind b _ hl;rcases k2 with ⟨i,hi⟩|⟨v,rfl⟩
   ·obtain⟨z,x',l1,l2,l3,l4⟩:=hlive i b _ hi;rw[hl] at l1
    cases l1;have hS:(fun g=>(∃i v,μ[i]?=some (b,v)∧rO m O2 i g)∨(some x=none∧O b g))=rO m O2 i:=by
     funext g
     refine propext ⟨fun h=>?_,fun h=>.inl ⟨i,_,hi,h⟩⟩;rcases h with ⟨i',v',e1,e2⟩|⟨e1,_⟩
     ·rw[pw hs.J4 hi e1];exact e2
     ·cases e1
    rw[hS];refine Ek hι rfl rfl hi l3 ?_ (p3.pc i x' (by rw[DI,l4]))
    revert k1
    cases x<;>simp
   ·trivial
  | none=>
   rw[tZ hl] at hx;have hS:(fun g=>(∃i v,μ[i]?=some (b,v)∧rO m O2 i g)∨((none:Option B)=none∧O b g))=O b:=by
    funext g
    refine propext ⟨fun h=>?_,fun h=>.inr ⟨rfl,h⟩⟩;rcases h with ⟨i',v',e1,e2⟩|⟨_,h⟩
    ·obtain⟨z,x',l1,_⟩:=hlive i' b _ e1;rw[hl] at l1
     cases l1
    ·exact h
   rw[hS];exact(hp.pc b x hx).le hle fun g hg=>q9.dZ g (hp.lt b g hg) (hO4 b g hg hl)
 ·have hy':(match cW μ b u 0 with|some i=>(rC m c2).ι i 0|none=>c.ι b u)=some y:=hy
  cases hpos:cW μ b u 0 with
  | some i=>
   have hi:=(fA hpos).2;rw[O9] at hi;obtain⟨z,x',l1,l2,_⟩:=hlive i b u hi;exact⟨z,pj l1,by rw[l2];exact Ov _⟩
  | none=>
   rw[hpos] at hy';obtain⟨x,hx,hv⟩:=hp.bound b u y hy'
   cases hl:lk e b with
   | some z=>
    have:=hs.ver b z x hl (by rw[←hη' b (hs.erd b z hl)];exact hx);exact⟨z,pj hl,OA hv this⟩
   | none=>exact⟨x,by rw[tZ hl];exact hx,hv⟩
 ·rcases h1 with ⟨i,v1,e1,o1⟩|⟨n1,o1⟩<;>rcases h2 with ⟨j,v2,e2,o2⟩|⟨n2,o2⟩
  ·have:=p3.apart i j g o1 o2;subst this;rw[e1] at e2
   cases e2;rfl
  ·exfalso
   rcases hnew i g o1 with h|h
   ·exact hO4 b' g o2 n2 h
   ·have:=hp.lt b' g o2;omega
  ·exfalso
   rcases hnew j g o2 with h|h
   ·exact hO4 b g o1 n1 h
   ·have:=hp.lt b g o1;omega
  ·exact hp.apart b b' g o1 o2
 ·obtain⟨k1,k2,k3⟩:=p3.fz g hg;refine⟨k1,k2,fun b h=>?_⟩;rcases h with ⟨i,v1,e1,o1⟩|⟨n1,o1⟩
  ·exact k3 i o1
  ·rcases q9.vm g hg with h|h|h
   ·exact(hp.fz g h).2.2 b o1
   ·exact hO4 b g o1 n1 h
   ·have:=hp.lt b g o1;exact absurd h (Nat.not_le.2 this)
 ·rcases hg with ⟨i,v1,e1,o1⟩|⟨n1,o1⟩
  ·exact p3.lt i g o1
  ·exact OY (hp.lt b g o1) q9.size
 ·refine⟨q9.os.trans hold.os,q9.tape.trans hold.tape,q9.output.trans hold.output,OA hold.size q9.size,fun g hg hn=>?_,fun b g h=>?_,fun g hg=>?_,hold.le.trans q9.le⟩
  ·rw[q9.dZ g (OY hg hold.size) (fun h=>?_)]
   ·exact hold.dZ g hg hn
   ·obtain⟨b,v1,k1,k2⟩:=hW g h;rcases hold.own b g k2 with h|h
    ·exact hn h
    ·omega
  ·rcases h with ⟨i,v1,e1,o1⟩|⟨n1,o1⟩
   ·rcases hnew i g o1 with h|h
    ·obtain⟨b',v1,k1,k2⟩:=hW g h;exact hold.own b' g k2
    ·exact .inr (OA hold.size h)
   ·exact hold.own b g o1
  ·rcases q9.vm g hg with h|h|h
   ·exact hold.vm g h
   ·obtain⟨b',v1,k1,k2⟩:=hW g h;rcases hold.own b' g k2 with h|h
    ·exact .inr (.inl h)
    ·exact .inr (.inr h)
   ·exact .inr (.inr (OA hold.size h))
 ·rw[tl hfn hbd,hNn];exact q1
theorem D.tw{c:Cf}:∀(x y:List D) (u:List Value),D.aq c (x++y) u→∃u1 u2,u=u1++u2∧D.aq c x u1∧D.aq c y u2
 | [],y,u,h=>⟨[],u,rfl,by unfold D.aq;rfl,h⟩
 | a :: x,y,u,h=>by
  rw[List.cons_append] at h;unfold D.aq at h;obtain⟨v,us,rfl,h1,h2⟩:=h;obtain⟨u1,u2,rfl,h3,h4⟩:=D.tw x y us h2;exact⟨v :: u1,u2,rfl,by unfold D.aq;exact⟨v,u1,rfl,h1,h3⟩,h4⟩
theorem dV{η η':Env}:∀(is:List Nat),(∀b∈is,η' b=η b)→aZ η' is=aZ η is
 | [],_=>rfl
 | b :: l,h=>by
  simp only[aZ,h b (O3 ..),dV l fun b hb=>h b (ON _ hb)]
theorem fj.fz{P:Program}{Γ:Nat→Option (List F)}{η:Env}{f:FuncId}{l1 l2:List D}{fl:List F}{is rd:List Nat}{d:D}{e:List (Nat×B)}(hm:cX (D.toF η 6) l2=some (fl,is))(h:fj P Γ (Res.lk2 (aZ η is) η) f (l1++fl.map F.toD) d rd e):fj P Γ η f (l1++l2) d (rd++is) (e++aZ η is):=by
 refine⟨fun η' hη' W c O w vs hΓ hp ho hvs=>?_⟩;have hi:∀b∈is,η' b=η b:=fun b hb=>hη' b (Re _ hb)
 have hm':cX (D.toF η' 6) l2=some (fl,is):=gS (fun d x is' h3 h4=>gJ 6 d x is' h3 (fun b' hb'=>hi b' (h4 b' hb'))) hm;have hg:=dV is hi;obtain⟨u1,u2,rfl,hu1,hu2⟩:=D.tw l1 l2 vs hvs;have hfl:=gW (kY hp is 6) hm' (fun b h=>h) hu2;have hp1:=hp.fz_ is (eK (iQ 6) hm');have ho1:=ho.fz_ hp is;have hle1:=qU hp is;have hη2:∀b∈rd,Res.lk2 (aZ η' is) η' b=Res.lk2 (aZ η is) η b:=by
  intro b hb;rw[hg]
  by_cases hbi:b∈is
  ·obtain⟨x,hx⟩:=eK (iQ 6) hm b hbi;rw[(bg η η' is b).2 hbi x hx,(bg η η is b).2 hbi x hx]
  ·rw[(bg η η' is b).1 hbi,(bg η η is b).1 hbi];exact hη' b (QM _ hb)
 obtain⟨q1,q2⟩:=h.go (Res.lk2 (aZ η' is) η') hη2 W (cfz c O is w) (Ofz O is) w (u1++u2) (fun g cs hg=>F.rep.ext hle1.ext _ _ (hΓ g cs hg)) hp1 ho1 (D.bZ (D.aq.le hle1 _ _ hu1) (kk hfl));refine⟨q1,q2.mono fun e1 w' ⟨v,h3,h4⟩=>⟨v,h3,?_⟩⟩;refine Res.after (rd0:=rd++is) hp h4 fun d' rd' e' hk=>?_
 obtain⟨rfl,rfl,rfl⟩:=hk;rw[hg];exact⟨rfl,rfl,rfl⟩
theorem m6 {P:Program} {X:Tx} (hX:mA P X) {f:FuncId} {fi:Fi} (hf:X.fi f=some fi) {tc e sz:Nat} {rows rows':List (List F)} {l:List F} {r:F} (hN:Nat.ble (l.length+1) fi.N=true)
  (hrun:∀vs,Sn P X f (⟨r.toD,[(0,.va 0 tc [.own 1 0]),(1,.ro 0 e sz rows'),(2,.gh 0 vs (.ptr 0 0 0 :: l.map F.toD))]⟩:wS) ⟨⟨f,fi.N,pP 0 (.ptr 0 0 0 :: l.map F.toD),[.code fi.body],[],none⟩,[],[(2,.gh 0 vs (.ptr 0 0 0 :: l.map F.toD)),(0,.va 0 tc [.own 1 0]),(1,.ro 0 e sz rows)],3⟩)
  {η:Env} {b v b2 v2:Nat} (h1:η b=some (.va v tc [.own b2 v2])) (h2:η b2=some (.ro v2 e sz rows)) :
  fj P X.Γ η f (.ptr b v 0 :: l.map F.toD) r.toD [b,b2] [(b,.va v tc [.own b2 (nv η b2)]),(b2,.ro (nv η b2) e sz rows')]:=by
 have hne:Nat.beq b b2=false:=by
  rw[←Bool.not_eq_true];intro h;have:=Nat.eq_of_beq_eq_true h;subst this;rw[h1] at h2
  cases h2
 have hne':Nat.beq b2 b=false:=by rw[←Bool.not_eq_true];intro h;rw[Nat.eq_of_beq_eq_true h,Pm] at hne;cases hne
 have hlk:∀{x y:B} {i:Nat} {z:B},lk [(b,x),(b2,y)] i=some z→(i=b∧z=x)∨(i=b2∧z=y):=by
  intro x y i z h;simp only[lk] at h
  cases e1:Nat.beq b i with
  | true=>rw[e1] at h;cases h;exact .inl ⟨(Nat.eq_of_beq_eq_true e1).symm,rfl⟩
  | false=>
   rw[e1] at h
   cases e2:Nat.beq b2 i with
   | true=>rw[e2] at h;cases h;exact .inr ⟨(Nat.eq_of_beq_eq_true e2).symm,rfl⟩
   | false=>rw[e2] at h;cases h
 have l1:∀{x y:B},lk [(b,x),(b2,y)] b=some x:=by intro x y;simp[lk]
 have l2:∀{x y:B},lk [(b,x),(b2,y)] b2=some y:=by intro x y;simp[lk,hne]
 have ho:∀{u u2:Nat},eN [(b,u),(b2,u2)]=true:=by intro u u2;simp[eN,hne']
 have hp:∀{u u2:Nat},cW [(b,u),(b2,u2)] b u 0=some 0:=by intro u u2;simp[cW]
 have hp2:∀{u u2:Nat},cW [(b,u),(b2,u2)] b2 u2 0=some 1:=by intro u u2;simp[cW,hne']
 refine j5 hX hf (x:=[]) (x0:=[]) (l:=.ptr b v 0 :: l.map F.toD) (l0:=.ptr 0 0 0 :: l.map F.toD) (m0:=[(b,v),(b2,v2)]) (μ:=[(b,v),(b2,nv η b2)]) (hb:=[(b,.va v tc [.own b2 v2]),(b2,.ro v2 e sz rows)]) (h0:=[(0,.va 0 tc [.own 1 0]),(1,.ro 0 e sz rows)]) (d':=r.toD) (ds':=.ptr 0 0 0 :: l.map F.toD) (h'':=[(0,.va 0 tc [.own 1 0]),(1,.ro 0 e sz rows')]) ⟨ho,ho,?_,?_,?_,?_,?_,?_⟩ ?_ ?_ rfl (fun _ _ _ _ _ _=>⟨[],by simp[D.aq]⟩) ?_ (kv _ _) ?_ (fun vs=>by rw[Oj];exact hrun vs)
 ·intro i x h;rcases hlk h with ⟨rfl,rfl⟩|⟨rfl,rfl⟩
  ·exact⟨h1,O3 ..⟩
  ·exact⟨h2,ON _ (O3 ..)⟩
 ·intro i u h;simp only[OD,Pz,or_false,Qa] at h;rcases h with ⟨rfl,rfl⟩|⟨rfl,rfl⟩
  ·exact⟨_,l1⟩
  ·exact⟨_,l2⟩
 ·intro i x h;rcases hlk h with ⟨rfl,rfl⟩|⟨rfl,rfl⟩
  ·exact O3 ..
  ·exact ON _ (O3 ..)
 ·intro i x h;rcases hlk h with ⟨rfl,rfl⟩|⟨rfl,rfl⟩
  ·exact⟨rfl,.inl ⟨0,rfl⟩⟩
  ·exact⟨rfl,.inl ⟨1,rfl⟩⟩
 ·intro i x y h hy;rcases hlk h with ⟨rfl,rfl⟩|⟨rfl,rfl⟩
  ·rw[h1] at hy
   cases hy;exact Ov _
  ·rw[h2] at hy
   cases hy;show v2≤nv η i
   unfold nv;rw[h2];exact Nat.le_succ _
 ·intro i j u h
  match i,h with
  | 0,h=>cases h;exact .inr (.inl ⟨0,0,rfl,rfl⟩)
  | 1,h=>cases h;exact .inl rfl
 ·simp only[iW,l1,l2,B.ver,Pm,cond_true,iA,bm,cj,hp2]
 ·simp only[bm,cj,hp,ja]
 ·rw[Og,Ok];exact hN
 ·simp only[iW,l1,l2,B.ver,Pm,cond_true,iA,bm,cj,hp2]
theorem yT{η:Env}:∀{e:List (Nat×B)},(∀p∈e,η p.1=some p.2)→Res.lk2 e η=η
 | [],_=>rfl
 | (b,x) :: l,h=>by
  show up (Res.lk2 l η) b x=η
  rw[yT fun p hp=>h p (ON _ hp)]
  funext i
  by_cases e:b=i
  ·subst e;rw[bY];exact(h (b,x) (O3 ..)).symm
  ·rw[aK e]
theorem fj.idle{P:Program}{Γ:Nat→Option (List F)}{η:Env}{f:FuncId}{l:List D}{d:D}{rd:List Nat}{e:List (Nat×B)}(h:fj P Γ η f l d rd e)(he:∀p∈e,η p.1=some p.2∧p.1∈rd):fj P Γ η f l d rd []:=⟨fun η' hη' W c O w vs hΓ hp ho hvs=>by
 obtain⟨q1,q2⟩:=h.go η' hη' W c O w vs hΓ hp ho hvs;refine⟨q1,q2.mono fun e1 w' ⟨v,h3,d',rd',e',c',O',⟨hd,hr,hee⟩,k2,k3,k4,k5⟩=>⟨v,h3,_,_,_,c',O',⟨rfl,rfl,rfl⟩,k2,by rw[←hd];exact k3,?_,k5⟩⟩;rw[hee,yT fun p hp=>(hη' _ (he p hp).2).trans (he p hp).1] at k4;exact k4⟩
theorem Ku {P:Program} {X:Tx} (hX:mA P X) {f:FuncId} {fi:Fi} (hf:X.fi f=some fi) {tc e sz:Nat} {rows:List (List F)} {l:List F} {r:F} (hN:Nat.ble (l.length+1) fi.N=true)
  (hrun:∀vs,Sn P X f (⟨r.toD,[(0,.va 0 tc [.own 1 0]),(1,.ro 0 e sz rows),(2,.gh 0 vs (.ptr 0 0 0 :: l.map F.toD++[.own 1 0]))]⟩:wS) ⟨⟨f,fi.N,pP 0 (.ptr 0 0 0 :: l.map F.toD),[.code fi.body],[],none⟩,[],[(2,.gh 0 vs (.ptr 0 0 0 :: l.map F.toD++[.own 1 0])),(0,.va 0 tc [.own 1 0]),(1,.ro 0 e sz rows)],3⟩)
  {η:Env} {b v b2 v2:Nat} (h1:η b=some (.va v tc [.own b2 v2])) (h2:η b2=some (.ro v2 e sz rows)) :
  fj P X.Γ η f (.ptr b v 0 :: l.map F.toD) r.toD [b,b2] []:=by
 have hne:Nat.beq b b2=false:=by
  rw[←Bool.not_eq_true];intro h;have:=Nat.eq_of_beq_eq_true h;subst this;rw[h1] at h2
  cases h2
 have hne':Nat.beq b2 b=false:=by rw[←Bool.not_eq_true];intro h;rw[Nat.eq_of_beq_eq_true h,Pm] at hne;cases hne
 have hlk:∀{x y:B} {i:Nat} {z:B},lk [(b,x),(b2,y)] i=some z→(i=b∧z=x)∨(i=b2∧z=y):=by
  intro x y i z h;simp only[lk] at h
  cases e1:Nat.beq b i with
  | true=>rw[e1] at h;cases h;exact .inl ⟨(Nat.eq_of_beq_eq_true e1).symm,rfl⟩
  | false=>
   rw[e1] at h
   cases e2:Nat.beq b2 i with
   | true=>rw[e2] at h;cases h;exact .inr ⟨(Nat.eq_of_beq_eq_true e2).symm,rfl⟩
   | false=>rw[e2] at h;cases h
 have l1:∀{x y:B},lk [(b,x),(b2,y)] b=some x:=by intro x y;simp[lk]
 have l2:∀{x y:B},lk [(b,x),(b2,y)] b2=some y:=by intro x y;simp[lk,hne]
 have ho:eN [(b,v),(b2,v2)]=true:=by simp[eN,hne']
 have hp:cW [(b,v),(b2,v2)] b v 0=some 0:=by simp[cW]
 have hp2:cW [(b,v),(b2,v2)] b2 v2 0=some 1:=by simp[cW,hne']
 have key:fj P X.Γ η f (.ptr b v 0 :: l.map F.toD) r.toD [b,b2] [(b,.va v tc [.own b2 v2]),(b2,.ro v2 e sz rows)]:=by
  refine j5 hX hf (x:=[.own b2 v2]) (x0:=[.own 1 0]) (l:=.ptr b v 0 :: l.map F.toD) (l0:=.ptr 0 0 0 :: l.map F.toD) (m0:=[(b,v),(b2,v2)]) (μ:=[(b,v),(b2,v2)]) (hb:=[(b,.va v tc [.own b2 v2]),(b2,.ro v2 e sz rows)]) (h0:=[(0,.va 0 tc [.own 1 0]),(1,.ro 0 e sz rows)]) (d':=r.toD) (ds':=D.ptr 0 0 0 :: l.map F.toD++[D.own 1 0]) (h'':=[(0,.va 0 tc [.own 1 0]),(1,.ro 0 e sz rows)]) ⟨ho,ho,?_,?_,?_,?_,?_,?_⟩ ?_ ?_ ?_ ?_ ?_ (kv _ _) ?_ hrun
  ·intro i x h;rcases hlk h with ⟨rfl,rfl⟩|⟨rfl,rfl⟩
   ·exact⟨h1,O3 ..⟩
   ·exact⟨h2,ON _ (O3 ..)⟩
  ·intro i u h;simp only[OD,Pz,or_false,Qa] at h;rcases h with ⟨rfl,rfl⟩|⟨rfl,rfl⟩
   ·exact⟨_,l1⟩
   ·exact⟨_,l2⟩
  ·intro i x h;rcases hlk h with ⟨rfl,rfl⟩|⟨rfl,rfl⟩
   ·exact O3 ..
   ·exact ON _ (O3 ..)
  ·intro i x h;rcases hlk h with ⟨rfl,rfl⟩|⟨rfl,rfl⟩
   ·exact⟨rfl,.inl ⟨0,rfl⟩⟩
   ·exact⟨rfl,.inl ⟨1,rfl⟩⟩
  ·intro i x y h hy;rcases hlk h with ⟨rfl,rfl⟩|⟨rfl,rfl⟩
   ·rw[h1] at hy
    cases hy;exact Ov _
   ·rw[h2] at hy
    cases hy;exact Ov _
  ·intro i j u h
   match i,h with
   | 0,h=>cases h;exact .inr (.inl ⟨0,0,rfl,rfl⟩)
   | 1,h=>cases h;exact .inr (.inr ⟨l.length+1,by simp,by simp⟩)
  ·simp only[iW,l1,l2,B.ver,Pm,cond_true,iA,bm,cj,hp2]
  ·simp only[bm,cj,hp,ja]
  ·simp only[bm,cj,hp2]
  ·intro η' c O w hη hpw;obtain⟨A,k,vr,k1,_⟩:=hpw.pc b2 _ ((hη b2 (by simp)).trans h2);exact⟨[.slice A rows.length k],by unfold D.aq;exact⟨_,_,rfl,by unfold D.rep;exact⟨A,_,k,k1,rfl⟩,by unfold D.aq;rfl⟩⟩
  ·rw[Og,Ok];exact hN
  ·simp only[iW,l1,l2,B.ver,Pm,cond_true,iA,bm,cj,hp2]
 refine key.idle fun p hp=>?_;simp only[OD,Pz,or_false] at hp;rcases hp with rfl|rfl
 ·exact⟨h1,by simp⟩
 ·exact⟨h2,by simp⟩
structure Nx(P:Program)(Γ:Nat→Option (List F))(f:FuncId)(tc e sz:Nat)(rows:List (List F))(l:List F)(r:F)(rows':List (List F)):Prop where
 own:∀(η:Env) (b v b2 v2:Nat),η b=some (.va v tc [.own b2 v2])→η b2=some (.ro v2 e sz rows)→fj P Γ η f (.ptr b v 0 :: l.map F.toD) r.toD [b,b2] [(b,.va v tc [.own b2 (nv η b2)]),(b2,.ro (nv η b2) e sz rows')]
structure NW(P:Program)(Γ:Nat→Option (List F))(f:FuncId)(tc e sz:Nat)(l:List F)(r:F)(rows':List (List F)):Prop where
 nil:∀(η:Env) (b v t:Nat),η b=some (.va v tc [.fr (.vl (.slice none 0 0))])→η t=none→fj P Γ η f (.ptr b v 0 :: l.map F.toD) r.toD [b,t] [(b,.va v tc [.own t (nv η t)]),(t,.ro (nv η t) e sz rows')]
structure M7(P:Program)(Γ:Nat→Option (List F))(f:FuncId)(tc e sz:Nat)(rows:List (List F))(l:List F)(r:F):Prop where
 own:∀(η:Env) (b v b2 v2:Nat),η b=some (.va v tc [.own b2 v2])→η b2=some (.ro v2 e sz rows)→fj P Γ η f (.ptr b v 0 :: l.map F.toD) r.toD [b,b2] []
class HR(P:Program)(Γ:Nat→Option (List F))(f:Nat)(tc e sz:Nat)(rows:List (List F))(l:List F)(r:outParam F)(pre:outParam Prop):Prop where
 h:pre→M7 P Γ f tc e sz rows l r
structure Nk(P:Program)(Γ:Nat→Option (List F))(f tc e sz:Nat)(rows:List (List F))(l:List F)(k:F→Prop):Prop where
 h:∃r,M7 P Γ f tc e sz rows l r∧k r
instance{P:Program}{Γ:Nat→Option (List F)}{f tc e sz:Nat}{rows:List (List F)}{l:List F}{r:F}{pre:Prop}{k:F→Prop}[hc:HR P Γ f tc e sz rows l r pre]:Arm (Nk P Γ f tc e sz rows l k) (SdA pre (k r)):=⟨fun ⟨h,hk⟩=>⟨r,hc.h h,hk⟩⟩
class Mz(f:Nat):Prop where
 h:True
def Lv(P:Program)(Γ:Nat→Option (List F))(t:Nat)(η:Env)(f:Nat)(l:List D)(k:Kr Prop):Prop:=match l with
 | .ptr b v 0 :: ds=>(match η b,cX (D.toF η 6) ds with
  | some (.va v' tc [.own b2 v2]),some (fl,[])=>(match η b2 with
   | some (.ro v2' e sz rows)=>bif Nat.beq v v'&&Nat.beq v2 v2' then F.fos fl fun fl=>Nk P Γ f tc e sz rows fl fun r=>k r.toD [b,b2] [] else False
   | _=>False)
  | _,_=>False)
 | _=>False
theorem I0{P:Program}{Γ:Nat→Option (List F)}{t:Nat}{η:Env}{f:Nat}{l:List D}{k:Kr Prop}(h:Lv P Γ t η f l k):fQ P Γ t η f l k:=by
 unfold Lv at h
 split at h
 ·rename_i b v ds
  split at h
  ·rename_i v' tc b2 v2 fl hb hm
   split at h
   ·rename_i v2' e sz rows hb2
    cases hc:(Nat.beq v v'&&Nat.beq v2 v2') with
    | false=>rw[hc] at h;exact h.elim
    | true=>
     rw[hc,cond_true,F.da] at h;simp only[Oi] at hc;obtain⟨c1,c2⟩:=hc
     cases Nat.eq_of_beq_eq_true c1
     cases Nat.eq_of_beq_eq_true c2;obtain⟨r,hp,hk⟩:=h.h;have q:=fj.fz (l1:=[.ptr b v 0]) hm (hp.own _ b v b2 v2 (by exact hb) (by exact hb2));exact⟨_,_,_,q,hk⟩
   ·exact h.elim
  ·exact h.elim
 ·exact h.elim
instance{P:Program}{Γ:Nat→Option (List F)}{t:Nat}{η:Env}{f:Nat}{l:List D}{k:Kr Prop}[Mz f]:Arm (fQ P Γ t η f l k) (Lv P Γ t η f l k):=⟨I0⟩
class HA(P:Program)(Γ:Nat→Option (List F))(f:Nat)(tc e sz:Nat)(rows:List (List F))(l:List F)(r:outParam F)(rows':outParam (List (List F)))(pre:outParam Prop):Prop where
 h:pre→Nx P Γ f tc e sz rows l r rows'
structure M8(P:Program)(Γ:Nat→Option (List F))(f tc e sz:Nat)(rows:List (List F))(l:List F)(k:F→List (List F)→Prop):Prop where
 h:∃r rows',Nx P Γ f tc e sz rows l r rows'∧k r rows'
structure NC(P:Program)(Γ:Nat→Option (List F))(f tc:Nat)(l:List F)(k:Nat→Nat→F→List (List F)→Prop):Prop where
 h:∃e sz r rows',NW P Γ f tc e sz l r rows'∧k e sz r rows'
instance{P:Program}{Γ:Nat→Option (List F)}{f tc e sz:Nat}{rows rows':List (List F)}{l:List F}{r:F}{pre:Prop}{k:F→List (List F)→Prop}[hc:HA P Γ f tc e sz rows l r rows' pre]:Arm (M8 P Γ f tc e sz rows l k) (SdA pre (k r rows')):=⟨fun ⟨h,hk⟩=>⟨r,rows',hc.h h,hk⟩⟩
class Bt(f:Nat):Prop where
 h:True
def LK(P:Program)(Γ:Nat→Option (List F))(t:Nat)(η:Env)(f:Nat)(l:List D)(k:Kr Prop):Prop:=match l with
 | .ptr b v 0 :: ds=>(match η b,cX (D.toF η 6) ds with
  | some (.va v' tc [.own b2 v2]),some (fl,is)=>(match η b2 with
   | some (.ro v2' e sz rows)=>bif Nat.beq v v'&&Nat.beq v2 v2' && !is.elem b && !is.elem b2 then F.fos fl fun fl=>M8 P Γ f tc e sz rows fl fun r rows'=>k r.toD (b :: b2 :: is) ((b,.va v tc [.own b2 (nv η b2)]) :: (b2,.ro (nv η b2) e sz rows') :: aZ η is) else False
   | _=>False)
  | some (.va v' tc [.fr (.vl (.slice none 0 0))]),some (fl,is)=>(match η t with
   | none=>bif Nat.beq v v' && !is.elem b && !is.elem t then F.fos fl fun fl=>NC P Γ f tc fl fun e sz r rows'=>k r.toD (b :: t :: is) ((b,.va v tc [.own t (nv η t)]) :: (t,.ro (nv η t) e sz rows') :: aZ η is) else False
   | some _=>False)
  | _,_=>False)
 | _=>False
theorem I8{P:Program}{Γ:Nat→Option (List F)}{t:Nat}{η:Env}{f:Nat}{l:List D}{k:Kr Prop}(h:LK P Γ t η f l k):fQ P Γ t η f l k:=by
 unfold LK at h
 split at h
 ·rename_i b v ds
  split at h
  ·rename_i v' tc b2 v2 fl is hb hm
   split at h
   ·rename_i v2' e sz rows hb2
    cases hc:(Nat.beq v v'&&Nat.beq v2 v2' && !is.elem b && !is.elem b2) with
    | false=>rw[hc] at h;exact h.elim
    | true=>
     rw[hc,cond_true,F.da] at h;simp only[Oi,Pc,QH,QN,decide_eq_false_iff_not] at hc;obtain⟨⟨⟨c1,c2⟩,c3⟩,c4⟩:=hc
     cases Nat.eq_of_beq_eq_true c1
     cases Nat.eq_of_beq_eq_true c2;obtain⟨r,rows',hp,hk⟩:=h.h;have q1:=((bg η η is b).1 c3).trans hb;have q2:=((bg η η is b2).1 c4).trans hb2;have:=fj.fz (l1:=[.ptr b v 0]) hm (hp.own _ b v b2 v2 q1 q2);rw[l7 is c4] at this;exact⟨_,_,_,this,hk⟩
   ·exact h.elim
  ·rename_i v' tc fl is hb hm
   split at h
   ·rename_i ht
    cases hc:(Nat.beq v v' && !is.elem b && !is.elem t) with
    | false=>rw[hc] at h;exact h.elim
    | true=>
     rw[hc,cond_true,F.da] at h;simp only[Oi,Pc,QH,QN,decide_eq_false_iff_not] at hc;obtain⟨⟨c1,c3⟩,c4⟩:=hc
     cases Nat.eq_of_beq_eq_true c1;obtain⟨e,sz,r,rows',hp,hk⟩:=h.h;have q1:=((bg η η is b).1 c3).trans hb;have q2:=((bg η η is t).1 c4).trans ht;have:=fj.fz (l1:=[.ptr b v 0]) hm (hp.nil _ b v t q1 q2);rw[l7 is c4] at this;exact⟨_,_,_,this,hk⟩
   ·exact h.elim
  ·exact h.elim
 ·exact h.elim
instance{P:Program}{Γ:Nat→Option (List F)}{t:Nat}{η:Env}{f:Nat}{l:List D}{k:Kr Prop}[Bt f]:Arm (fQ P Γ t η f l k) (LK P Γ t η f l k):=⟨I8⟩
theorem Gq{e sz:Nat}{S:Nat→Prop}{w:World}:(Sl.own e sz none 0 0 []).on S w:=⟨World.ownsRow_nil w 0 e sz,rfl,by simp,fun g hg=>by simp[Value.ownBlock] at hg⟩
abbrev vd:D:=.fr (.vl (.slice none 0 0))
theorem Hp.none_{c:Cf}{O:Nat→Nat→Prop}{η:Env}{w:World}{b e sz:Nat}(h:Hp c O η w)(hb:η b=none):c.le (c.add b 0 (none,0,0))∧Hp (c.add b 0 (none,0,0)) (upO O b fun _=>False) (up η b (.ro 0 e sz [])) w:=by
 have hv:nv η b=0:=by unfold nv;rw[hb]
 have hf:=h.fresh b;rw[hv] at hf;refine⟨Cf.gx hf,h.upd Chg.refl (fun g hg=>hg.elim) (Cf.gx hf) rfl rfl ?_ ⟨none,0,[],Cf.dK,by simp[F.aI],by simp,Gq⟩⟩;have:=h.de (b:=b) (y:=(none,0,0)) (x':=.ro 0 e sz []) hv.symm;rw[hv] at this;exact this
theorem Old.none_{W:Bs}{c:Cf}{O:Nat→Nat→Prop}{w:World}{b:Nat}{y:Option Addr×Nat×Nat}(h:Old W c O w):Old W (c.add b 0 y) (upO O b fun _=>False) w:=h.upd Chg.refl (fun g hg=>hg.elim) rfl rfl
section
variable {ρ:Type} [lR ρ] {P:Program} {X:Tx} {f0:Nat} {r:ρ} {f N:Nat} {s:List (Nat×D)} {ki:List KI} {ds:List (Nat×Nat)} {ro:Option (Nat×Nat)} {cs:List Fm} {h:List (Nat×B)} {nx:Nat}
theorem Ic{s:List (Nat×D)}{k:Nat}{d:D}{j:Nat}{x:D}(hx:lk ((k,d) :: s) j=some x):(k=j∧x=d)∨lk s j=some x:=by
 simp only[lk] at hx
 cases e:Nat.beq k j with
 | true=>rw[e] at hx;cases hx;exact .inl ⟨Nat.eq_of_beq_eq_true e,rfl⟩
 | false=>rw[e] at hx;exact .inr hx
theorem Sn.fW(k e sz:Nat)(hs:lk s k=some vd)(hf:lk h nx=none)(H:Sn P X f0 r ⟨⟨f,N,(k,.own nx 0) :: s,ki,ds,ro⟩,cs,(nx,.ro 0 e sz []) :: h,nx+1⟩):Sn P X f0 r ⟨⟨f,N,s,ki,ds,ro⟩,cs,h,nx⟩:=by
 unfold Sn Snd at *;intro W cs0 hΓ c O fr frs w hr;obtain⟨hle,hp⟩:=Hp.none_ (e:=e) (sz:=sz) hr.hp hf;obtain⟨a,todo,rr,h1,h2,h3,h4,h5⟩:=hr.top.ex;refine H W cs0 hΓ (c.add nx 0 (none,0,0)) (upO O nx fun _=>False) fr frs w ⟨⟨⟨a,todo,rr,h1,⟨h2.size,fun j d hj=>?_⟩,KIs.le hle h3,bQ.le hle h4,lg.le hle h5⟩⟩,Fms.le hle hr.cs,?_,Old.none_ hr.old,by cases cs<;>exact hr.bot⟩
 ·rcases Ic hj with ⟨rfl,rfl⟩|hj
  ·have:=h2.get _ _ hs;unfold D.rep F.rep at this;unfold D.rep;exact⟨none,0,0,Cf.dK,this⟩
  ·exact D.rep.le hle _ _ (h2.get _ _ hj)
 ·show Hp _ _ (lk ((nx,_) :: h)) w
  rw[cB];exact hp
theorem Sn.Ip(b t e sz:Nat){v:Nat}(hs:lk h b=some (.va v t [vd]))(hf:lk h nx=none)(H:Sn P X f0 r ⟨⟨f,N,s,ki,ds,ro⟩,cs,(b,.va v t [.own nx 0]) :: (nx,.ro 0 e sz []) :: h,nx+1⟩):Sn P X f0 r ⟨⟨f,N,s,ki,ds,ro⟩,cs,h,nx⟩:=by
 unfold Sn Snd at *;intro W cs0 hΓ c O fr frs w hr;obtain⟨hle,hp⟩:=Hp.none_ (e:=e) (sz:=sz) hr.hp hf;obtain⟨a,todo,rr,h1,h2,h3,h4,h5⟩:=hr.top.ex;have hb:b≠nx:=fun e=>by rw[e,hf] at hs;cases hs
 have hbx:up (lk h) nx (.ro 0 e sz []) b=some (.va v t [vd]):=by rw[aK (Ne.symm hb)];exact hs
 refine H W cs0 hΓ (c.add nx 0 (none,0,0)) (upO (upO O nx fun _=>False) b (upO O nx (fun _=>False) b)) fr frs w ⟨⟨⟨a,todo,rr,h1,h2.le hle,KIs.le hle h3,bQ.le hle h4,lg.le hle h5⟩⟩,Fms.le hle hr.cs,?_,?_,hr.bot⟩
 ·show Hp _ _ (lk ((b,_) :: (nx,_) :: h)) w
  rw[cB,cB];refine hp.upd Chg.refl (fun g hg=>.inl hg) (Cf.le.refl _) rfl rfl (hp.cS hbx rfl) ?_;obtain⟨g,vs,k1,k2,k3,k4⟩:=hp.pc b _ hbx;refine⟨g,vs,k1,?_,k3,k4⟩;unfold D.aq at k2 ⊢;obtain⟨u,us,k5,k6,k7⟩:=k2;refine⟨u,us,k5,?_,?_⟩
  ·unfold D.rep F.rep at k6;unfold D.rep;exact⟨none,0,0,Cf.dK,k6⟩
  ·unfold D.aq at k7 ⊢;exact k7
 ·exact(Old.none_ hr.old).upd Chg.refl (fun g hg=>.inl hg) rfl rfl
theorem tK{e sz n c m:Nat}{A:Option Addr}{rows:List (List Value)}{S:Nat→Prop}{w:World}(hm:m≤n)(h:(own e sz A n c rows).on S w):(own e sz A m c (rows.take m)).on S w:=by
 obtain⟨⟨hl,hc⟩,h2,h3,h4⟩:=h;have hrs:∀r∈rows.take m,r.length=sz:=fun r hr=>h3 r (OC hr)
 have hrl:(rows.take m).length=m:=by simp;omega
 refine⟨⟨?_,?_⟩,hrl,hrs,?_⟩
 ·rw[length_flatten hrs,hrl]
 ·rcases hc with ⟨hv,h0⟩|⟨g,cap,cur,hv,hg,hw,hr1,hr2,hr3,hr4⟩
  ·injection hv with hA hn hcc
   subst hA;subst hcc;have:m=0:=by omega
   subst this;exact .inl ⟨rfl,rfl⟩
  ·injection hv with hA hn hcc
   subst hA;subst hcc;refine .inr ⟨g,c,cur,rfl,hg,hw,by omega,hr2,hr3,?_⟩;have hle:m * sz≤n * sz:=PH sz hm;rw[←qB rows m h3,←hr4,List.take_take,O5 hle]
 ·intro g hg;refine h4 g ?_
  cases A with
  | none=>simp[Value.ownBlock] at hg
  | some a=>simpa [Value.ownBlock] using hg
theorem Hp.Mj{c:Cf}{O:Nat→Nat→Prop}{η:Env}{w:World}{b u e sz hi:Nat}{rows:List (List F)}(h:Hp c O η w)(hb:η b=some (.ro u e sz rows))(hh:hi≤rows.length) :
  ∃A k,c.ι b u=some (A,rows.length,k)∧c.le (c.add b (u+1) (A,hi,k))∧Hp (c.add b (u+1) (A,hi,k)) (upO O b (O b)) (up η b (.ro (u+1) e sz (rows.take hi))) w∧∀W,Old W c O w→Old W (c.add b (u+1) (A,hi,k)) (upO O b (O b)) w:=by
 have hv:nv η b=u+1:=by unfold nv;rw[hb];rfl
 have hf:=h.fresh b;rw[hv] at hf;obtain⟨A,k,vr,k1,k2,k3,k4⟩:=h.pc b _ hb;refine⟨A,k,k1,Cf.gx hf,h.upd Chg.refl (fun g hg=>.inl hg) (Cf.gx hf) rfl rfl ?_ ⟨A,k,vr.take hi,?_,F.dN _ k2,fun r hr=>k3 r (OC hr),?_⟩,fun W hO=>hO.upd Chg.refl (fun g hg=>.inl hg) rfl rfl⟩
 ·have:=h.de (b:=b) (y:=(A,hi,k)) (x':=.ro (u+1) e sz (rows.take hi)) hv.symm;rw[hv] at this;exact this
 ·rw[Cf.dK,Ou,O5 hh]
 ·rw[Ou,O5 hh];exact tK hh k4
theorem rZ{c:Cf}{b u sz hi k:Nat}{A:Option Addr}{m:Nat}{x:Value}(h1:c.ι b u=some (A,m,k))(hx:D.rep c (.sub b u sz 0 hi false) x):hi≤m∧x=.slice A hi k:=by
 unfold D.rep at hx;obtain⟨A',m',k',q1,q2,q3,q4,A2,q5,q6⟩:=hx;rw[h1] at q1
 cases q1;refine⟨q3,?_⟩;rw[q5,q6 (.inl rfl)];simp only[cond_false,O9,Nat.zero_mul]
 congr 1
 cases A<;>simp[Addr.add]
theorem Sn.JH(b t e sz:Nat){v u b2 hi:Nat}{rows:List (List F)}(hs:lk h b=some (.va v t [.sub b2 u sz 0 hi false]))(hf:lk h b2=some (.ro u e sz rows))(H:Sn P X f0 r ⟨⟨f,N,s,ki,ds,ro⟩,cs,(b,.va v t [.own b2 (u+1)]) :: (b2,.ro (u+1) e sz (rows.take hi)) :: h,nx⟩):Sn P X f0 r ⟨⟨f,N,s,ki,ds,ro⟩,cs,h,nx⟩:=by
 unfold Sn Snd at *;intro W cs0 hΓ c O fr frs w hr;have hb:b≠b2:=fun e=>by rw[e,hf] at hs;cases hs
 obtain⟨A0,k0,vr0,k01,_⟩:=hr.hp.pc b2 _ hf;obtain⟨g0,vs0,k10,k20,k30,k40⟩:=hr.hp.pc b _ hs;have hhi:hi≤rows.length:=by
  unfold D.aq at k20;obtain⟨x,us,k5,k6,k7⟩:=k20;exact(rZ k01 k6).1
 obtain⟨A,k,hι,hle,hp,hO⟩:=Hp.Mj (e:=e) (sz:=sz) hr.hp hf hhi;obtain⟨a,todo,rr,h1,h2,h3,h4,h5⟩:=hr.top.ex;have hbx:up (lk h) b2 (.ro (u+1) e sz (rows.take hi)) b=some (.va v t [.sub b2 u sz 0 hi false]):=by rw[aK (Ne.symm hb)];exact hs
 refine H W cs0 hΓ (c.add b2 (u+1) (A,hi,k)) (upO (upO O b2 (O b2)) b (upO O b2 (O b2) b)) fr frs w ⟨⟨⟨a,todo,rr,h1,h2.le hle,KIs.le hle h3,bQ.le hle h4,lg.le hle h5⟩⟩,Fms.le hle hr.cs,?_,?_,by cases cs<;>exact hr.bot⟩
 ·show Hp _ _ (lk ((b,_) :: (b2,_) :: h)) w
  rw[cB,cB];refine hp.upd Chg.refl (fun g hg=>.inl hg) (Cf.le.refl _) rfl rfl (hp.cS hbx rfl) ?_;obtain⟨g,vs,k1,k2,k3,k4⟩:=hp.pc b _ hbx;refine⟨g,vs,k1,?_,k3,k4⟩;unfold D.aq at k2 ⊢;obtain⟨x,us,k5,k6,k7⟩:=k2;refine⟨x,us,k5,?_,?_⟩
  ·have:=(rZ (hle.ι _ _ _ hι) k6).2;unfold D.rep;exact⟨A,hi,k,Cf.dK,this⟩
  ·unfold D.aq at k7 ⊢;exact k7
 ·exact(hO W hr.old).upd Chg.refl (fun g hg=>.inl hg) rfl rfl
theorem Sn.gv(j e sz:Nat){u b2 hi:Nat}{rows:List (List F)}(hs:lk s j=some (.sub b2 u sz 0 hi false))(hf:lk h b2=some (.ro u e sz rows))(H:Sn P X f0 r ⟨⟨f,N,(j,.own b2 (u+1)) :: s,ki,ds,ro⟩,cs,(b2,.ro (u+1) e sz (rows.take hi)) :: h,nx⟩):Sn P X f0 r ⟨⟨f,N,s,ki,ds,ro⟩,cs,h,nx⟩:=by
 unfold Sn Snd at *;intro W cs0 hΓ c O fr frs w hr;obtain⟨A0,k0,vr0,k01,_⟩:=hr.hp.pc b2 _ hf;obtain⟨a,todo,rr,h1,h2,h3,h4,h5⟩:=hr.top.ex;obtain⟨A,k,hι,hle,hp,hO⟩:=Hp.Mj (e:=e) (sz:=sz) hr.hp hf (rZ k01 (h2.get _ _ hs)).1;refine H W cs0 hΓ (c.add b2 (u+1) (A,hi,k)) (upO O b2 (O b2)) fr frs w ⟨⟨⟨a,todo,rr,h1,⟨h2.size,fun i d hj=>?_⟩,KIs.le hle h3,bQ.le hle h4,lg.le hle h5⟩⟩,Fms.le hle hr.cs,?_,hO W hr.old,by cases cs<;>exact hr.bot⟩
 ·rcases Ic hj with ⟨rfl,rfl⟩|hj
  ·have:=(rZ hι (h2.get _ _ hs)).2;unfold D.rep;exact⟨A,hi,k,Cf.dK,this⟩
  ·exact D.rep.le hle _ _ (h2.get _ _ hj)
 ·show Hp _ _ (lk ((b2,_) :: h)) w
  rw[cB];exact hp
theorem Stp.JH(b t e sz:Nat){v u b2 hi:Nat}{rows rows':List (List F)}(hs:lk h b=some (.va v t [.sub b2 u sz 0 hi false]))(hf:lk h b2=some (.ro u e sz rows))(he:rows.take hi=rows')(H:Stp (Sn P X f0 r ⟨⟨f,N,s,ki,ds,ro⟩,cs,(b,.va v t [.own b2 (u+1)]) :: (b2,.ro (u+1) e sz rows') :: h,nx⟩)):Stp (Sn P X f0 r ⟨⟨f,N,s,ki,ds,ro⟩,cs,h,nx⟩):=⟨Sn.JH b t e sz hs hf (by rw[he];exact H.h)⟩
theorem Stp.gv(j e sz:Nat){u b2 hi:Nat}{rows rows':List (List F)}(hs:lk s j=some (.sub b2 u sz 0 hi false))(hf:lk h b2=some (.ro u e sz rows))(he:rows.take hi=rows')(H:Stp (Sn P X f0 r ⟨⟨f,N,(j,.own b2 (u+1)) :: s,ki,ds,ro⟩,cs,(b2,.ro (u+1) e sz rows') :: h,nx⟩)):Stp (Sn P X f0 r ⟨⟨f,N,s,ki,ds,ro⟩,cs,h,nx⟩):=⟨Sn.gv j e sz hs hf (by rw[he];exact H.h)⟩
theorem Sn.Lw(hf:lk h nx=none)(H:Sn P X f0 r ⟨⟨f,N,s,ki,(nx,0) :: ds,ro⟩,cs,(nx,.df 0) :: h,nx+1⟩):Sn P X f0 r ⟨⟨f,N,s,ki,ds,ro⟩,cs,h,nx⟩:=by
 unfold Sn Snd at *;intro W cs0 hΓ c O fr frs w hr;have hv:nv (lk h) nx=0:=by unfold nv;rw[hf]
 have hfr:=hr.hp.fresh nx;rw[hv] at hfr;have hle:c.le (c.add nx 0 (none,0,1)):=Cf.gx hfr;obtain⟨a,todo,rr,h1,h2,h3,h4,h5⟩:=hr.top.ex;refine H W cs0 hΓ (c.add nx 0 (none,0,1)) (upO O nx fun _=>False) fr frs w ⟨⟨⟨a,todo,rr,h1,h2.le hle,KIs.le hle h3,⟨[],_,rfl,.inr Cf.dK,bQ.le hle h4⟩,lg.le hle h5⟩⟩,Fms.le hle hr.cs,?_,hr.old.upd Chg.refl (fun g hg=>hg.elim) rfl rfl,by cases cs<;>exact hr.bot⟩;show Hp _ _ (lk ((nx,_) :: h)) w
 rw[cB];refine hr.hp.upd Chg.refl (fun g hg=>hg.elim) hle rfl rfl ?_ ⟨[],.inr Cf.dK,by simp,by simp⟩;have:=hr.hp.de (b:=nx) (y:=(none,0,1)) (x':=.df 0) hv.symm;rw[hv] at this;exact this
theorem Sn.K1{b1 v1 b2 v2:Nat}(hb:Nat.beq b1 b2=false)(hf1:lk h b1=some (.df v1))(hf2:lk h b2=some (.df v2))(H:Sn P X f0 r ⟨⟨f,N,s,ki,(b1,v1+1) :: ds,ro⟩,cs,(b2,.gone v2) :: (b1,.df (v1+1)) :: h,nx⟩):Sn P X f0 r ⟨⟨f,N,s,ki,(b1,v1) :: (b2,v2) :: ds,ro⟩,cs,h,nx⟩:=by
 unfold Sn Snd at *;intro W cs0 hΓ c O fr frs w hr;have hne:b1≠b2:=fun e=>by rw[e,Pm] at hb;cases hb
 have hv:nv (lk h) b1=v1+1:=by unfold nv;rw[hf1];rfl
 have hfr:=hr.hp.fresh b1;rw[hv] at hfr;obtain⟨a,todo,rr,h1,h2,h3,⟨gs1,l1,e1,m1,gs2,l2,e2,m2,h4⟩,h5⟩:=hr.top.ex;obtain⟨gs1',n1,n2,n3⟩:=hr.hp.pc b1 _ hf1;obtain⟨gs2',n4,n5,n6⟩:=hr.hp.pc b2 _ hf2;have:=m1.eq n1;subst this;have:=m2.eq n4;subst this;have hle:c.le (c.add b1 (v1+1) (none,enc (gs1++gs2),1)):=Cf.gx hfr;have hne':=Ne.symm hne;have hO:∀i,i≠b1→i≠b2→(fun g=>(i=b1∧(O b1 g∨O b2 g))∨(i≠b1∧i≠b2∧O i g))=O i:=fun i h1 h2=>funext fun g=>propext ⟨fun h=>h.elim (fun h=>absurd h.1 h1) (fun h=>h.2.2),fun h=>.inr ⟨h1,h2,h⟩⟩
 refine H W cs0 hΓ (c.add b1 (v1+1) (none,enc (gs1++gs2),1)) (fun i g=>(i=b1∧(O b1 g∨O b2 g))∨(i≠b1∧i≠b2∧O i g)) fr frs w ⟨⟨⟨a,todo,rr,h1,h2.le hle,KIs.le hle h3,⟨gs1++gs2,l2,by rw[e1,e2,List.map_append,List.append_assoc],.inr Cf.dK,bQ.le hle h4⟩,lg.le hle h5⟩⟩,Fms.le hle hr.cs,?_,?_,by cases cs<;>exact hr.bot⟩
 ·show Hp _ _ (lk ((b2,_) :: (b1,_) :: h)) w
  rw[cB,cB];refine⟨fun i x hx=>?_,fun i v y hy=>?_,fun i j g hi hj=>?_,fun g hg=>?_,fun i g hi=>?_⟩
  ·by_cases k2:b2=i
   ·subst k2;rw[bY] at hx
    cases hx
    trivial
   ·rw[aK k2] at hx
    by_cases k1:b1=i
    ·subst k1;rw[bY] at hx
     cases hx;refine⟨gs1++gs2,.inr Cf.dK,QK.2 ⟨n2,n5,fun x hx y hy e=>?_⟩,fun g hg=>?_⟩
     ·subst e;exact hne (hr.hp.apart _ _ _ (n3 x hx).1 (n6 x hy).1)
     ·rcases Oy.1 hg with hg|hg
      ·exact⟨.inl ⟨rfl,.inl (n3 g hg).1⟩,(n3 g hg).2⟩
      ·exact⟨.inl ⟨rfl,.inr (n6 g hg).1⟩,(n6 g hg).2⟩
    ·rw[aK k1] at hx;show B.on _ i (fun g=>(i=b1∧(O b1 g∨O b2 g))∨(i≠b1∧i≠b2∧O i g)) w x
     rw[hO i (Ne.symm k1) (Ne.symm k2)];exact(hr.hp.pc i x hx).le hle fun _ _=>rfl
  ·have hbd:=hr.hp.de (b:=b1) (y:=(none,enc (gs1++gs2),1)) (x':=.df (v1+1)) hv.symm;rw[hv] at hbd;obtain⟨x,hx,hle⟩:=hbd i v y hy
   by_cases k2:b2=i
   ·subst k2;rw[aK hne,hf2] at hx
    cases hx;exact⟨_,bY,hle⟩
   ·exact⟨x,by rw[aK k2];exact hx,hle⟩
  ·rcases hi with ⟨rfl,hi⟩|⟨q1,q2,hi⟩<;>rcases hj with ⟨rfl,hj⟩|⟨q3,q4,hj⟩
   ·rfl
   ·rcases hi with hi|hi
    ·exact absurd (hr.hp.apart _ _ _ hj hi) q3
    ·exact absurd (hr.hp.apart _ _ _ hj hi) q4
   ·rcases hj with hj|hj
    ·exact absurd (hr.hp.apart _ _ _ hi hj) q1
    ·exact absurd (hr.hp.apart _ _ _ hi hj) q2
   ·exact hr.hp.apart _ _ _ hi hj
  ·obtain⟨k1,k2,k3⟩:=hr.hp.fz g hg;refine⟨k1,k2,fun i hi=>?_⟩;rcases hi with ⟨_,hi|hi⟩|⟨_,_,hi⟩
   ·exact k3 _ hi
   ·exact k3 _ hi
   ·exact k3 _ hi
  ·rcases hi with ⟨_,hi|hi⟩|⟨_,_,hi⟩
   ·exact hr.hp.lt _ _ hi
   ·exact hr.hp.lt _ _ hi
   ·exact hr.hp.lt _ _ hi
 ·have ho:=hr.old;refine⟨ho.os,ho.tape,ho.output,ho.size,ho.dZ,fun i g hi=>?_,ho.vm,ho.le⟩;rcases hi with ⟨_,hi|hi⟩|⟨_,_,hi⟩
  ·exact ho.own _ _ hi
  ·exact ho.own _ _ hi
  ·exact ho.own _ _ hi
theorem Stp.Lw(hf:lk h nx=none)(H:Stp (Sn P X f0 r ⟨⟨f,N,s,ki,(nx,0) :: ds,ro⟩,cs,(nx,.df 0) :: h,nx+1⟩)):Stp (Sn P X f0 r ⟨⟨f,N,s,ki,ds,ro⟩,cs,h,nx⟩):=⟨Sn.Lw hf H.h⟩
theorem Stp.K1{b1 v1 b2 v2:Nat}(hb:Nat.beq b1 b2=false)(hf1:lk h b1=some (.df v1))(hf2:lk h b2=some (.df v2))(H:Stp (Sn P X f0 r ⟨⟨f,N,s,ki,(b1,v1+1) :: ds,ro⟩,cs,(b2,.gone v2) :: (b1,.df (v1+1)) :: h,nx⟩)):Stp (Sn P X f0 r ⟨⟨f,N,s,ki,(b1,v1) :: (b2,v2) :: ds,ro⟩,cs,h,nx⟩):=⟨Sn.K1 hb hf1 hf2 H.h⟩
theorem Stp.fW(k e sz:Nat)(hs:lk s k=some vd)(hf:lk h nx=none)(H:Stp (Sn P X f0 r ⟨⟨f,N,(k,.own nx 0) :: s,ki,ds,ro⟩,cs,(nx,.ro 0 e sz []) :: h,nx+1⟩)):Stp (Sn P X f0 r ⟨⟨f,N,s,ki,ds,ro⟩,cs,h,nx⟩):=⟨Sn.fW k e sz hs hf H.h⟩
theorem Stp.Ip(b t e sz:Nat){v:Nat}(hs:lk h b=some (.va v t [vd]))(hf:lk h nx=none)(H:Stp (Sn P X f0 r ⟨⟨f,N,s,ki,ds,ro⟩,cs,(b,.va v t [.own nx 0]) :: (nx,.ro 0 e sz []) :: h,nx+1⟩)):Stp (Sn P X f0 r ⟨⟨f,N,s,ki,ds,ro⟩,cs,h,nx⟩):=⟨Sn.Ip b t e sz hs hf H.h⟩
end
theorem dI.n{x y:Int}{h h':List (Nat×B)}(e:x=y)(hh:h=h'):dI (.fr (.vl (.int .i64 x))) h ⟨(F.vl (.int .i64 y)).toD,h'⟩:=⟨by rw[e];rfl,hh⟩
theorem dI.i{d d':D}{h h':List (Nat×B)}(e:d=d')(hh:h=h'):dI d h ⟨d',h'⟩:=⟨e,hh⟩
end Go.Km
end
