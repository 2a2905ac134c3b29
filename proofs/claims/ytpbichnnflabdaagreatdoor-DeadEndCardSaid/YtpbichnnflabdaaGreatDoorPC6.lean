/- The texts that the card needs, part 7. -/
import Derived.Test.YtpbichnnflabdaaGreatDoorPC5
set_option linter.all false
section
namespace Go.aa
open Go Go.Sl
def eH:Nod:=⟨4,.zero,⟨#[]⟩,0,0,[]⟩
def dE:Nod:=⟨5,.zero,⟨#[]⟩,0,0,[]⟩
def iA:Nod:=⟨1,.zero,⟨#[]⟩,0,0,[]⟩
theorem cX{m:Nod}{c:Int}(h:fits m c=true)(hk:m.kind=4)(hb:m.kids=[]):m=eH∧2≤c:=by
 obtain⟨k,s,t,a,b,l⟩:=m;simp only at hk hb;subst hk;subst hb;simp[fits]at h;obtain⟨⟨⟨⟨h1,h2⟩,h3⟩,h4⟩,h5⟩:=h;subst h1;subst h2;subst h3;subst h4;exact⟨rfl,h5⟩
theorem cW{m:Nod}{c:Int}(h:fits m c=true)(hk:m.kind=5)(hb:m.kids=[]):m=dE∧2≤c:=by
 obtain⟨k,s,t,a,b,l⟩:=m;simp only at hk hb;subst hk;subst hb;simp[fits]at h;obtain⟨⟨⟨⟨h1,h2⟩,h3⟩,h4⟩,h5⟩:=h;subst h1;subst h2;subst h3;subst h4;exact⟨rfl,h5⟩
def Fo.opn(k:Int):Fo→Fo
 |.nil=>.nil
 |.cons m j r=>if m.kind=k then j.app (r.opn k)else .cons m j (r.opn k)
def Fo.bq:Fo→Fo
 |.nil=>.nil
 |.cons m j r=>if m.kind=0 then r.bq else .cons m j r.bq
def Fo.join(m e:Nod):Fo→Fo
 |.nil=>.cons e .nil .nil
 |.cons a b .nil=>.cons a b .nil
 |p=>.cons m p .nil
def Fo.nrm:Fo→Fo
 |.nil=>.nil
 |.cons m j r=>(if m.kind=4 then Fo.join m dN j.nrm.bq else if m.kind=5 then Fo.join m iA j.nrm else .cons m j.nrm .nil).app r.nrm
def Fo.opF:Fo→Fo
 |.nil=>.nil
 |.cons m j r=>.cons m (if m.kind=4∨m.kind=5 then j.opF.opn m.kind else j.opF) r.opF
def Fo.put(m:Nod)(K:Fo):Fo:=
 if m.kind=4 then Fo.join m dN (K.bq.opn 4)else if m.kind=5 then Fo.join m iA (K.opn 5)else .cons m K .nil
def Fo.norm:Fo→Fo
 |.nil=>.nil
 |.cons m j r=>(Fo.put m j.norm).app r.norm
def Fo.noK(k:Int):Fo→Prop
 |.nil=>True
 |.cons m _ r=>m.kind≠k∧r.noK k
def Fo.ok:Fo→Prop
 |.nil=>True
 |.cons m j r=>(m.kind=4→j.noK 4∧j.noK 0)∧(m.kind=5→j.noK 5)∧j.ok∧r.ok
theorem Fo.wS:∀F:Fo,F.app .nil=F
 |.nil=>rfl
 |.cons m j r=>by rw[Fo.app,Fo.wS r]
theorem Fo.AF:∀F G H:Fo,(F.app G).app H=F.app (G.app H)
 |.nil,_,_=>rfl
 |.cons m j r,G,H=>by simp only[Fo.app,Fo.AF r G H]
theorem Fo.Ch(k:Int):∀F G:Fo,(F.app G).opn k=(F.opn k).app (G.opn k)
 |.nil,_=>rfl
 |.cons m j r,G=>by
  simp only[Fo.app,Fo.opn]
  split
  ·rw[Fo.Ch k r G,Fo.AF]
  ·rw[Fo.Ch k r G,Fo.app]
theorem Fo.qI:∀F G:Fo,(F.app G).bq=F.bq.app G.bq
 |.nil,_=>rfl
 |.cons m j r,G=>by
  simp only[Fo.app,Fo.bq]
  split
  ·exact Fo.qI r G
  ·rw[Fo.qI r G,Fo.app]
theorem Fo.se:∀F G:Fo,(F.app G).opF=F.opF.app G.opF
 |.nil,_=>rfl
 |.cons m j r,G=>by simp only[Fo.app,Fo.opF,Fo.se r G]
theorem Fo.CD:∀F G:Fo,(F.app G).nrm=F.nrm.app G.nrm
 |.nil,_=>rfl
 |.cons m j r,G=>by simp only[Fo.app,Fo.nrm,Fo.CD r G,Fo.AF]
theorem Fo.sj(k:Int):∀F G:Fo,(F.app G).noK k↔F.noK k∧G.noK k
 |.nil,_=>by simp[Fo.app,Fo.noK]
 |.cons m j r,G=>by simp only[Fo.app,Fo.noK,Fo.sj k r G,and_assoc]
theorem Fo.Ay:∀F G:Fo,(F.app G).ok↔F.ok∧G.ok
 |.nil,_=>by simp[Fo.app,Fo.ok]
 |.cons m j r,G=>by simp only[Fo.app,Fo.ok,Fo.Ay r G,and_assoc]
theorem Fo.Je:∀F G:Fo,(F.app G).len=F.len+G.len
 |.nil,_=>by simp[Fo.app,Fo.len]
 |.cons m j r,G=>by simp only[Fo.app,Fo.len,Fo.Je r G];omega
theorem Fo.ME:∀F G:Fo,(F.app G).fit=(F.fit&&G.fit)
 |.nil,_=>by simp[Fo.app,Fo.fit]
 |.cons m j r,G=>by simp only[Fo.app,Fo.fit,Fo.ME r G,Bool.and_assoc]
theorem Fo.Kv:∀F G:Fo,(F.app G).bare↔F.bare∧G.bare
 |.nil,_=>by simp[Fo.app,Fo.bare]
 |.cons m j r,G=>by simp only[Fo.app,Fo.bare,Fo.Kv r G,and_assoc]
theorem Fo.qA:∀F:Fo,F.bq.opF=F.opF.bq
 |.nil=>rfl
 |.cons m j r=>by
  simp only[Fo.bq,Fo.opF]
  split
  ·exact Fo.qA r
  ·rw[Fo.opF,Fo.qA r]
theorem Fo.jA:∀F:Fo,F.opF.len=F.len
 |.nil=>rfl
 |.cons m j r=>by simp only[Fo.opF,Fo.len,Fo.jA r]
theorem Fo.cy(m e:Nod)(p:Fo):(p=.nil∧Fo.join m e p=.cons e .nil .nil)∨(∃a b,p=.cons a b .nil∧Fo.join m e p=.cons a b .nil)∨(2≤p.len∧Fo.join m e p=.cons m p .nil):=by
 match p with
 |.nil=>exact .inl ⟨rfl,rfl⟩
 |.cons a b .nil=>exact .inr (.inl ⟨a,b,rfl,rfl⟩)
 |.cons a b (.cons c d r)=>exact .inr (.inr ⟨by simp[Fo.len],rfl⟩)
theorem Fo.dT(m e:Nod){p:Fo}(h:2≤p.len):Fo.join m e p=.cons m p .nil:=by
 rcases Fo.cy m e p with⟨rfl,_⟩|⟨a,b,rfl,_⟩|⟨_,h2⟩
 ·simp[Fo.len]at h
 ·simp[Fo.len]at h
 ·exact h2
theorem lE:fits dN 0=true:=by decide +kernel
theorem nk:fits iA 0=true:=by decide +kernel
theorem jf{c:Int}(h:2≤c):fits eH c=true:=by simp[fits,eH,h]
theorem jj{c:Int}(h:2≤c):fits dE c=true:=by simp[fits,dE,h]
def Fo.fb(F:Fo):Prop:=F.fit=true∧F.bare
theorem Fo.bI{m:Nod}{j r:Fo}:(Fo.cons m j r).fb↔(fits m j.len=true∧m.kids=[]∧j.fb)∧r.fb:=by
 simp only[Fo.fb,Fo.fit,Fo.bare,Bool.and_eq_true]
 constructor
 ·rintro⟨⟨⟨a,b⟩,c⟩,d,e,f⟩;exact⟨⟨a,d,b,e⟩,c,f⟩
 ·rintro⟨⟨a,d,b,e⟩,c,f⟩;exact⟨⟨⟨a,b⟩,c⟩,d,e,f⟩
theorem Fo.nu:Fo.nil.fb:=⟨rfl,trivial⟩
theorem Fo.m5{F G:Fo}:(F.app G).fb↔F.fb∧G.fb:=by
 simp only[Fo.fb,Fo.ME,Fo.Kv,Bool.and_eq_true]
 constructor
 ·rintro⟨⟨a,b⟩,c,d⟩;exact⟨⟨a,c⟩,b,d⟩
 ·rintro⟨⟨a,c⟩,b,d⟩;exact⟨⟨a,b⟩,c,d⟩
theorem Fo.jt:∀{F:Fo},F.fb→F.bq.fb
 |.nil,h=>h
 |.cons m j r,h=>by
  have h':=Fo.bI.1 h;simp only[Fo.bq]
  split
  ·exact Fo.jt h'.2
  ·exact Fo.bI.2 ⟨h'.1,Fo.jt h'.2⟩
theorem Fo.ng{k:Int}:∀{F:Fo},F.fb→(F.opn k).fb
 |.nil,h=>h
 |.cons m j r,h=>by
  have h':=Fo.bI.1 h;simp only[Fo.opn]
  split
  ·exact Fo.m5.2 ⟨h'.1.2.2,Fo.ng h'.2⟩
  ·exact Fo.bI.2 ⟨h'.1,Fo.ng h'.2⟩
theorem Fo.mC{m e:Nod}{p:Fo}(hp:p.fb)(he:fits e 0=true∧e.kids=[])(hm:2≤p.len→fits m p.len=true)(hb:m.kids=[]):(Fo.join m e p).fb:=by
 rcases Fo.cy m e p with⟨rfl,h⟩|⟨a,b,rfl,h⟩|⟨h2,h⟩
 ·rw[h];exact Fo.bI.2 ⟨⟨he.1,he.2,Fo.nu⟩,Fo.nu⟩
 ·rw[h];exact hp
 ·rw[h];exact Fo.bI.2 ⟨⟨hm h2,hb,hp⟩,Fo.nu⟩
theorem Fo.py(m e:Nod)(p:Fo):(Fo.join m e p).len=1:=by
 rcases Fo.cy m e p with⟨_,h⟩|⟨a,b,_,h⟩|⟨_,h⟩<;>rw[h]<;>rfl
theorem Fo.CS:∀F:Fo,F.nrm.len=F.len
 |.nil=>rfl
 |.cons m j r=>by
  simp only[Fo.nrm,Fo.Je,Fo.CS r,Fo.len]
  split
  ·rw[Fo.py];omega
  ·split
   ·rw[Fo.py];omega
   ·simp[Fo.len];omega
theorem Fo.Dl(m:Nod)(K:Fo):(Fo.put m K).len=1:=by
 unfold Fo.put
 split
 ·exact Fo.py _ _ _
 ·split
  ·exact Fo.py _ _ _
  ·rfl
theorem Fo.lr:∀F:Fo,F.norm.len=F.len
 |.nil=>rfl
 |.cons m j r=>by simp only[Fo.norm,Fo.Je,Fo.Dl,Fo.lr r,Fo.len];omega
theorem Fo.AX:∀{F:Fo},F.fb→F.nrm.fb
 |.nil,h=>h
 |.cons m j r,h=>by
  obtain⟨⟨h1,h2,h3⟩,h4⟩:=Fo.bI.1 h;have ih:=Fo.AX h3;simp only[Fo.nrm];refine Fo.m5.2 ⟨?_,Fo.AX h4⟩
  split
  ·rename_i hk;obtain⟨rfl,_⟩:=cX h1 hk h2;exact Fo.mC (Fo.jt ih) ⟨lE,rfl⟩ (fun h=>jf (by omega)) rfl
  ·split
   ·rename_i hk;obtain⟨rfl,_⟩:=cW h1 hk h2;exact Fo.mC ih ⟨nk,rfl⟩ (fun h=>jj (by omega)) rfl
   ·exact Fo.bI.2 ⟨⟨by rw[Fo.CS];exact h1,h2,ih⟩,Fo.nu⟩
theorem Fo.pq:∀{F:Fo},F.fb→F.norm.fb
 |.nil,h=>h
 |.cons m j r,h=>by
  obtain⟨⟨h1,h2,h3⟩,h4⟩:=Fo.bI.1 h;have ih:=Fo.pq h3;simp only[Fo.norm];refine Fo.m5.2 ⟨?_,Fo.pq h4⟩;unfold Fo.put
  split
  ·rename_i hk;obtain⟨rfl,_⟩:=cX h1 hk h2;exact Fo.mC (Fo.ng (Fo.jt ih)) ⟨lE,rfl⟩ (fun h=>jf (by omega)) rfl
  ·split
   ·rename_i hk;obtain⟨rfl,_⟩:=cW h1 hk h2;exact Fo.mC (Fo.ng ih) ⟨nk,rfl⟩ (fun h=>jj (by omega)) rfl
   ·exact Fo.bI.2 ⟨⟨by rw[Fo.lr];exact h1,h2,ih⟩,Fo.nu⟩
theorem Fo.lY{k:Int}(hk:k=4∨k=5):∀{F:Fo},F.fb→F.len≤(F.opn k).len
 |.nil,_=>Nat.le_refl _
 |.cons m j r,h=>by
  obtain⟨⟨h1,h2,h3⟩,h4⟩:=Fo.bI.1 h;have ih:=Fo.lY hk h4;simp only[Fo.opn]
  split
  ·rename_i hm;have:2≤(j.len:Int):=by
    rcases hk with rfl|rfl
    ·exact(cX h1 hm h2).2
    ·exact(cW h1 hm h2).2
   rw[Fo.Je];simp only[Fo.len];omega
  ·simp only[Fo.len];omega
theorem Fo.qE:∀{F:Fo},F.fb→F.opF.fb
 |.nil,h=>h
 |.cons m j r,h=>by
  obtain⟨⟨h1,h2,h3⟩,h4⟩:=Fo.bI.1 h;have ih:=Fo.qE h3;simp only[Fo.opF];refine Fo.bI.2 ⟨⟨?_,h2,?_⟩,Fo.qE h4⟩
  ·split
   ·rename_i hk;have hl:=Fo.lY hk ih;rw[Fo.jA]at hl;rcases hk with hk|hk
    ·obtain⟨rfl,h⟩:=cX h1 hk h2;exact jf (by show(2:Int)≤((j.opF.opn 4).len:Int);have:j.len≤(j.opF.opn 4).len:=hl;omega)
    ·obtain⟨rfl,h⟩:=cW h1 hk h2;exact jj (by show(2:Int)≤((j.opF.opn 5).len:Int);have:j.len≤(j.opF.opn 5).len:=hl;omega)
   ·rw[Fo.jA];exact h1
  ·split
   ·exact Fo.ng ih
   ·exact ih
theorem Fo.xk:∀{F:Fo},F.fb→F.nrm.opF=F.norm
 |.nil,_=>rfl
 |.cons m j r,h=>by
  obtain⟨⟨h1,h2,h3⟩,h4⟩:=Fo.bI.1 h;have ih:=Fo.xk h3;have ih2:=Fo.xk h4;have hfb:=Fo.AX h3;simp only[Fo.nrm,Fo.norm,Fo.se,ih2]
  congr 1
  unfold Fo.put
  split
  ·rename_i hk;obtain⟨rfl,_⟩:=cX h1 hk h2;have hD:(j.nrm.bq).opF=j.norm.bq:=by rw[Fo.qA,ih]
   have hfd:=Fo.jt hfb;rw[←hD];generalize j.nrm.bq=p at *;rcases Fo.cy eH dN p with⟨rfl,e⟩|⟨a,b,rfl,e⟩|⟨h2',e⟩
   ·rfl
   ·rw[e];obtain⟨⟨g1,g2,g3⟩,_⟩:=Fo.bI.1 hfd
    by_cases ha:a.kind=4
    ·obtain⟨rfl,hl⟩:=cX g1 ha g2;have hlen:=Fo.lY (.inl rfl:(4:Int)=4∨(4:Int)=5) (Fo.qE g3);rw[Fo.jA]at hlen;have e1:(Fo.cons eH b .nil).opF=.cons eH (b.opF.opn 4) .nil:=rfl;rw[e1];have e2:(Fo.cons eH (b.opF.opn 4) .nil).opn 4=b.opF.opn 4:=by
      show(if eH.kind=4 then(b.opF.opn 4).app .nil else _)=_
      rw[if_pos ha,Fo.wS]
     rw[e2,Fo.dT _ _ (by omega)]
    ·have e2:((Fo.cons a b .nil).opF).opn 4=(Fo.cons a b .nil).opF:=by
      simp only[Fo.opF,Fo.opn,if_neg ha]
     rw[e2];simp only[Fo.opF];rfl
   ·rw[e];have hl:=Fo.lY (.inl rfl:(4:Int)=4∨(4:Int)=5) (Fo.qE hfd);rw[Fo.jA]at hl;rw[Fo.dT _ _ (by omega)];rfl
  ·split
   ·rename_i hk;obtain⟨rfl,_⟩:=cW h1 hk h2;rw[←ih];generalize j.nrm=p at *;rcases Fo.cy dE iA p with⟨rfl,e⟩|⟨a,b,rfl,e⟩|⟨h2',e⟩
    ·rfl
    ·rw[e];obtain⟨⟨g1,g2,g3⟩,_⟩:=Fo.bI.1 hfb
     by_cases ha:a.kind=5
     ·obtain⟨rfl,hl⟩:=cW g1 ha g2;have hlen:=Fo.lY (.inr rfl:(5:Int)=4∨(5:Int)=5) (Fo.qE g3);rw[Fo.jA]at hlen;have e1:(Fo.cons dE b .nil).opF=.cons dE (b.opF.opn 5) .nil:=rfl;rw[e1];have e2:(Fo.cons dE (b.opF.opn 5) .nil).opn 5=b.opF.opn 5:=by
       show(if dE.kind=5 then(b.opF.opn 5).app .nil else _)=_
       rw[if_pos ha,Fo.wS]
      rw[e2,Fo.dT _ _ (by omega)]
     ·have e2:((Fo.cons a b .nil).opF).opn 5=(Fo.cons a b .nil).opF:=by
       simp only[Fo.opF,Fo.opn,if_neg ha]
      rw[e2];simp only[Fo.opF];rfl
    ·rw[e];have hl:=Fo.lY (.inr rfl:(5:Int)=4∨(5:Int)=5) (Fo.qE hfb);rw[Fo.jA]at hl;rw[Fo.dT _ _ (by omega)];rfl
   ·rename_i hk4 hk5;simp only[Fo.opF];rw[if_neg (by rintro(h|h);exact hk4 h;exact hk5 h),ih]
theorem Fo.mm:∀F:Fo,F.bq.noK 0
 |.nil=>trivial
 |.cons m j r=>by
  simp only[Fo.bq]
  split
  ·exact Fo.mm r
  ·rename_i h;exact⟨h,Fo.mm r⟩
theorem Fo.z9:∀{F:Fo},F.noK 0→F.bq=F
 |.nil,_=>rfl
 |.cons m j r,h=>by
  simp only[Fo.bq];rw[if_neg h.1,Fo.z9 h.2]
theorem Fo.BB{k:Int}:∀{F:Fo},F.noK k→F.opn k=F
 |.nil,_=>rfl
 |.cons m j r,h=>by
  simp only[Fo.opn];rw[if_neg h.1,Fo.BB h.2]
theorem Fo.jd:∀{F:Fo},F.ok→F.bq.ok
 |.nil,h=>h
 |.cons m j r,h=>by
  simp only[Fo.bq]
  split
  ·exact Fo.jd h.2.2.2
  ·exact⟨h.1,h.2.1,h.2.2.1,Fo.jd h.2.2.2⟩
theorem Fo.pT{k:Int}:∀{F:Fo},F.ok→(F.opn k).ok
 |.nil,h=>h
 |.cons m j r,h=>by
  simp only[Fo.opn]
  split
  ·exact(Fo.Ay _ _).2 ⟨h.2.2.1,Fo.pT h.2.2.2⟩
  ·exact⟨h.1,h.2.1,h.2.2.1,Fo.pT h.2.2.2⟩
theorem Fo.ot:∀{F:Fo},F.ok→(F.opn 4).noK 4
 |.nil,_=>trivial
 |.cons m j r,h=>by
  simp only[Fo.opn]
  split
  ·rename_i hk;exact(Fo.sj _ _ _).2 ⟨(h.1 hk).1,Fo.ot h.2.2.2⟩
  ·rename_i hk;exact⟨hk,Fo.ot h.2.2.2⟩
theorem Fo.lL:∀{F:Fo},F.ok→F.noK 0→(F.opn 4).noK 0
 |.nil,_,_=>trivial
 |.cons m j r,h,h0=>by
  simp only[Fo.opn]
  split
  ·rename_i hk;exact(Fo.sj _ _ _).2 ⟨(h.1 hk).2,Fo.lL h.2.2.2 h0.2⟩
  ·exact⟨h0.1,Fo.lL h.2.2.2 h0.2⟩
theorem Fo.oE:∀{F:Fo},F.ok→(F.opn 5).noK 5
 |.nil,_=>trivial
 |.cons m j r,h=>by
  simp only[Fo.opn]
  split
  ·rename_i hk;exact(Fo.sj _ _ _).2 ⟨h.2.1 hk,Fo.oE h.2.2.2⟩
  ·rename_i hk;exact⟨hk,Fo.oE h.2.2.2⟩
theorem Fo.rV{e:Nod}(h4:e.kind≠4)(h5:e.kind≠5):(Fo.cons e .nil .nil).ok:=⟨fun h=>absurd h h4,fun h=>absurd h h5,trivial,trivial⟩
theorem Fo.xh:∀(F:Fo),F.norm.ok
 |.nil=>trivial
 |.cons m j r=>by
  have ih:=Fo.xh j;simp only[Fo.norm];refine(Fo.Ay _ _).2 ⟨?_,Fo.xh r⟩;unfold Fo.put
  split
  ·rename_i hk;have hD:=Fo.jd ih;have h0:=Fo.mm j.norm;have hp:=Fo.pT (k:=4) hD;have h4:=Fo.ot hD;have h40:=Fo.lL hD h0;generalize(j.norm.bq).opn 4=p at *;rcases Fo.cy m dN p with⟨rfl,e⟩|⟨a,b,rfl,e⟩|⟨h2,e⟩<;>rw[e]
   ·exact Fo.rV (by decide) (by decide)
   ·exact hp
   ·exact⟨fun _=>⟨h4,h40⟩,fun h=>by omega,hp,trivial⟩
  ·split
   ·rename_i hk;have hp:=Fo.pT (k:=5) ih;have h5:=Fo.oE ih;generalize(j.norm).opn 5=p at *;rcases Fo.cy m iA p with⟨rfl,e⟩|⟨a,b,rfl,e⟩|⟨h2,e⟩<;>rw[e]
    ·exact Fo.rV (by decide) (by decide)
    ·exact hp
    ·exact⟨fun h=>by omega,fun _=>h5,hp,trivial⟩
   ·rename_i h4 h5;exact⟨fun h=>absurd h h4,fun h=>absurd h h5,ih,trivial⟩
theorem Fo.CY:∀{F:Fo},F.fb→F.ok→F.norm=F
 |.nil,_,_=>rfl
 |.cons m j r,h,hk=>by
  obtain⟨⟨h1,h2,h3⟩,h4⟩:=Fo.bI.1 h;obtain⟨k4,k5,kj,kr⟩:=hk;simp only[Fo.norm];rw[Fo.CY h3 kj,Fo.CY h4 kr];have e:Fo.put m j=.cons m j .nil:=by
   unfold Fo.put
   split
   ·rename_i hm;obtain⟨rfl,hl⟩:=cX h1 hm h2;rw[Fo.z9 (k4 hm).2,Fo.BB (k4 hm).1,Fo.dT _ _ (by omega)]
   ·split
    ·rename_i hm;obtain⟨rfl,hl⟩:=cW h1 hm h2;rw[Fo.BB (k5 hm),Fo.dT _ _ (by omega)]
    ·rfl
  rw[e];rfl
theorem Fo.ky{k:Int}:∀F:Fo,(F.opn k).size≤F.size
 |.nil=>Nat.le_refl _
 |.cons m j r=>by
  have:=Fo.ky (k:=k) r;simp only[Fo.opn]
  split
  ·rw[Fo.bZ];simp only[Fo.size];omega
  ·simp only[Fo.size];omega
theorem Fo.nV:∀F:Fo,F.bq.size≤F.size
 |.nil=>Nat.le_refl _
 |.cons m j r=>by
  have:=Fo.nV r;simp only[Fo.bq]
  split<;>simp only[Fo.size]<;>omega
theorem Fo.mo(m e:Nod)(p:Fo):(Fo.join m e p).size≤p.size+1:=by
 rcases Fo.cy m e p with⟨rfl,h⟩|⟨a,b,rfl,h⟩|⟨_,h⟩<;>rw[h]<;>simp only[Fo.size]<;>omega
theorem Fo.iT:∀F:Fo,F.norm.size≤F.size
 |.nil=>Nat.le_refl _
 |.cons m j r=>by
  have h1:=Fo.iT j;have h2:=Fo.iT r;have h3:(Fo.put m j.norm).size≤j.norm.size+1:=by
   unfold Fo.put
   split
   ·exact Nat.le_trans (Fo.mo _ _ _) (by have:=Fo.ky (k:=4) j.norm.bq;have:=Fo.nV j.norm;omega)
   ·split
    ·exact Nat.le_trans (Fo.mo _ _ _) (by have:=Fo.ky (k:=5) j.norm;omega)
    ·simp only[Fo.size];omega
  simp only[Fo.norm,Fo.bZ,Fo.size];omega
def kR(t:Tre):Tre×Bool:=if au t=true then(cj (foT t).norm,true)else(.zero,false)
theorem Iq{ns xs:List Nod}{k:Int}(h0:0≤k)(h:k<ns.length):(ns++xs).getD k.toNat .zero=ns.getD k.toNat .zero:=by
 rw[List.getD_eq_getElem?_getD,List.getD_eq_getElem?_getD,List.getElem?_append_left (by omega)]
theorem x9{ns xs:List Nod}{k:Int}(h:k<ns.length):ae (ns++xs) k=ae ns k:=by
 unfold ae
 by_cases h0:k<0
 ·rw[if_pos h0,if_pos h0]
 ·rw[if_neg h0,if_neg h0];unfold nQ;rw[List.getElem?_append_left (by omega)]
theorem wq{ns:List Nod}{n:Nod}:ae (ns++[n]) (ns.length:Int)=n.kids:=
 (aF (i:=ns.length) (by simp)).symm
theorem tI{ns xs:List Nod}(hc:bD (ae ns)):∀(f:Nat) (l:List Int),(∀k∈l,0≤k∧k<ns.length)→aA (ns++xs) f l=aA ns f l
 |0,l,_=>rfl
 |f+1,l,hl=>by
  induction l with
  |nil=>rw[ay,ay]
  |cons k l ih=>
   have hk:=hl k (by simp);rw[aK,aK,ih (fun x hx=>hl x (by simp[hx])),x9 hk.2,
    tI hc f (ae ns k) (fun x hx=>by have:=hc k x hx;omega)]
   congr 1
   unfold dat;rw[Iq hk.1 hk.2]
theorem zp{ns xs:List Nod}(hc:bD (ae ns)):∀(f:Nat) (l:List Int),(∀k∈l,0≤k∧k<ns.length)→dfs (ae (ns++xs)) f l=dfs (ae ns) f l
 |0,l,_=>rfl
 |f+1,l,hl=>by
  show l.flatMap _=l.flatMap _
  rw[List.flatMap_def,List.flatMap_def]
  congr 1
  apply List.map_congr_left;intro k hk;have h:=hl k hk;rw[x9 h.2,zp hc f (ae ns k) (fun x hx=>by have:=hc k x hx;omega)]
theorem KOk.snoc{ns:List Nod}{n:Nod}(h:KOk ns)(hn:∀k∈n.kids,0≤k∧k<ns.length):KOk (ns++[n]):=by
 intro i m hm k hk;rcases Nat.lt_trichotomy i ns.length with hi|hi|hi
 ·rw[List.getElem?_append_left hi]at hm;exact h i m hm k hk
 ·subst hi;simp at hm;subst hm;exact hn k hk
 ·rw[List.getElem?_eq_none (by simp;omega)]at hm
  cases hm
structure Den(ar:List Nod)(p:Int)(F:Fo):Prop where
 pos:0≤p
 lt:p<ar.length
 fo:aA ar ar.length [p]=F
theorem Den.app{ar xs:List Nod}{p:Int}{F:Fo}(hc:bD (ae ar))(h:Den ar p F):Den (ar++xs) p F:=by
 have hp:=h.pos;have hl:=h.lt;refine⟨hp,by simp;omega,?_⟩;rw[tI hc _ _ (by intro k hk;simp at hk;subst hk;exact⟨hp,hl⟩),←h.fo];exact dU hc _ _ _ (by intro k hk;simp at hk;subst hk;simp;omega) (by intro k hk;simp at hk;subst hk;exact hl)
theorem Den.snoc{ar:List Nod}{n:Nod}(hc:bD (ae ar))(hn:∀k∈n.kids,0≤k∧k<ar.length):Den (ar++[n]) (ar.length:Int) (.cons { n with kids:=[] } (aA ar ar.length n.kids) .nil):=by
 refine⟨by omega,by simp;omega,?_⟩;rw[show(ar++[n]).length=ar.length+1 by simp,aK,ay,wq,tI hc _ _ hn]
 congr 1
 unfold dat;rw[List.getD_eq_getElem?_getD,Int.toNat_natCast,List.getElem?_append_right (Nat.le_refl _)];simp
theorem aM{ns:List Nod}{f:Nat}(k:Int)(l:List Int)(hf:0<f):aA ns f (k::l)=(aA ns f [k]).app (aA ns f l):=by
 obtain⟨g,rfl⟩:∃g,f=g+1:=⟨f-1,by omega⟩
 exact Fh ns g k l
theorem fJ{ns:List Nod}{f:Nat}(k:Int)(hf:0<f):∃j,aA ns f [k]=.cons (dat ns k) j .nil:=by
 obtain⟨g,rfl⟩:∃g,f=g+1:=⟨f-1,by omega⟩
 exact⟨_,by rw[aK,ay]⟩
def bn(ns:List Nod)(k:Int):Int:=(ns.getD k.toNat .zero).kind
def th(ar:List Nod)(n e:Nod):List Int→List Nod×Int
 |[]=>(ar++[e],ar.length)
 |[p]=>(ar,p)
 |ps=>(ar++[{ n with kids:=ps }],ar.length)
def uj(ar:List Nod)(K:List Int):List Int:=K.filter fun k=>!decide (bn ar k=0)
def j6(ar:List Nod)(n:Nod)(K:List Int):List Nod×Int:=
 if n.kind=4 then th ar n dN (uj ar K)else if n.kind=5 then th ar n iA K else(ar++[{ n with kids:=K }],ar.length)
theorem vp{ar:List Nod}(hf:0<ar.length):∀(K:List Int),aA ar ar.length (uj ar K)=(aA ar ar.length K).bq
 |[]=>by rw[ay];show aA ar _ []=_;rw[ay];rfl
 |k::l=>by
  obtain⟨j,hj⟩:=fJ (ns:=ar) k hf;rw[aM k l hf,Fo.qI,hj];unfold uj at *;rw[List.filter_cons];have ih:=vp hf l;unfold uj at ih;have hd:(dat ar k).kind=bn ar k:=rfl
  by_cases h:bn ar k=0
  ·simp only[h,decide_true,Bool.not_true,Bool.false_eq_true,if_false,Fo.bq,hd,if_true];rw[ih];rfl
  ·simp only[h,decide_false,Bool.not_false,if_true,Fo.bq,hd,if_false];rw[aM k _ hf,hj,ih]
structure Nr(ar:List Nod)(K:List Int)(r:List Nod×Int)(F:Fo):Prop where
 den:Den r.1 r.2 F
 kok:KOk r.1
 grow:r.1=ar∧r.2∈K∨∃x:Nod,r.1=ar++[x]∧r.2=ar.length∧x.kids.Sublist K
theorem uw{ar:List Nod}{n e:Nod}{K P:List Int}(hk:KOk ar)(hP:∀k∈P,0≤k∧k<ar.length)(hs:P.Sublist K)(he:e.kids=[]) :
  Nr ar K (th ar n e P) (Fo.join { n with kids:=[] } e (aA ar ar.length P)):=by
 have hc:bD (ae ar):=hk.ae
 match P,hP,hs with
 |[],_,_=>
  refine⟨?_,hk.snoc (by rw[he];simp),.inr ⟨e,rfl,rfl,by rw[he];exact List.nil_sublist _⟩⟩;have:=Den.snoc hc (n:=e) (by rw[he];simp);rw[he,ay]at this;rw[ay];have e2:({ e with kids:=[] }:Nod)=e:=by rw[←he]
  rw[e2]at this;exact this
 |[p],hP,hs=>
  have hp:=hP p (by simp);refine⟨⟨hp.1,hp.2,?_⟩,hk,.inl ⟨rfl,hs.subset (by show p∈[p];simp)⟩⟩;obtain⟨j,hj⟩:=fJ (ns:=ar) p (by omega:0<ar.length);show aA ar ar.length [p]=_
  rw[hj];rfl
 |p::q::l,hP,hs=>
  refine⟨?_,hk.snoc hP,.inr ⟨{ n with kids:=p::q::l },rfl,rfl,hs⟩⟩;have hp:=hP p (by simp);have h:=Den.snoc hc (n:={ n with kids:=p::q::l }) hP;have hl:2≤(aA ar ar.length (p::q::l)).len:=by rw[x4 _ _ _ (by omega)];simp
  rw[Fo.dT _ _ hl];exact h
theorem BU{ar:List Nod}{n:Nod}{K:List Int}{F:Fo}(hk:KOk ar)(hK:∀k∈K,0≤k∧k<ar.length)(hF:aA ar ar.length K=F.nrm) :
  Nr ar K (j6 ar n K) (Fo.cons { n with kids:=[] } F .nil).nrm:=by
 have e:(Fo.cons { n with kids:=[] } F .nil).nrm=if n.kind=4 then Fo.join { n with kids:=[] } dN F.nrm.bq else if n.kind=5 then Fo.join { n with kids:=[] } iA F.nrm else .cons { n with kids:=[] } F.nrm .nil:=by
  show(if n.kind=4 then _ else if n.kind=5 then _ else _:Fo).app .nil=_
  rw[Fo.wS]
 rw[e];unfold j6
 split
 ·have h:=uw (n:=n) (e:=dN) (K:=K) hk (P:=uj ar K) (fun k hk'=>hK k (List.mem_filter.1 hk').1) List.filter_sublist rfl
  by_cases hlen:0<ar.length
  ·rw[vp hlen,hF]at h;exact h
  ·have:K=[]:=by
    cases K with
    |nil=>rfl
    |cons k K=>have:=hK k (by simp);omega
   subst this;rw[ay]at hF;rw[←hF];rw[show uj ar []=[]from rfl,ay]at h;exact h
 ·split
  ·have h:=uw (n:=n) (e:=iA) (K:=K) hk (P:=K) hK (List.Sublist.refl _) rfl;rw[hF]at h;exact h
  ·refine⟨?_,hk.snoc hK,.inr ⟨{ n with kids:=K },rfl,rfl,List.Sublist.refl _⟩⟩;have h:=Den.snoc hk.ae (n:={ n with kids:=K }) hK;rw[hF]at h;exact h
def unC(t:Tre)(i:Nat):List Int:=((List.range i).map Int.ofNat).filter fun k=>!decide (k∈az (t.nodes.take i))
theorem mu(t:Tre)(i:Nat)(x:Int):(unC t i).count x=if 0≤x∧x<i∧x ∉ az (t.nodes.take i)then 1 else 0:=by
 unfold unC
 by_cases h:x∈az (t.nodes.take i)
 ·rw[if_neg (fun hh=>hh.2.2 h)];exact List.count_eq_zero.2 fun hm=>by have:=(List.mem_filter.1 hm).2;simp[h]at this
 ·rw[List.count_filter (by simpa using h),nF]
  by_cases h2:0≤x∧x<(i:Int)
  ·rw[if_pos h2,if_pos ⟨h2.1,h2.2,h⟩]
  ·rw[if_neg h2,if_neg (fun hh=>h2 ⟨hh.1,hh.2.1⟩)]
theorem oC(a:List Nod)(n:Nod):az (a++[n])=az a++n.kids:=by simp[az]
theorem HY{t:Tre}(hR:av t){i:Nat}{n:Nod}(hn:t.nodes[i]?=some n):(unC t (i+1)++n.kids).Perm (unC t i++[(i:Int)]):=by
 rw[List.perm_iff_count];intro x;obtain⟨hi,he⟩:=List.getElem?_eq_some_iff.1 hn;have htk:t.nodes.take (i+1)=t.nodes.take i++[n]:=by rw[List.take_succ_eq_append_getElem hi,he]
 have hko:=hR.kok i n hn;have hle:(az (t.nodes.take i)).count x+n.kids.count x≤1:=by
  have h1:(az t.nodes).count x≤1:=by
   by_cases hx:0≤x∧x<t.nodes.length
   ·have:=hR.count x.toNat (by omega);rw[show((x.toNat:Nat):Int)=x by omega]at this;rw[this];split<;>omega
   ·have:(az t.nodes).count x=0:=List.count_eq_zero.2 fun hm=>by
     obtain⟨m,hm1,hm2⟩:=List.mem_flatMap.1 hm;obtain⟨j,hj⟩:=List.mem_iff_getElem?.1 hm1;have:=hR.kok j m hj x hm2;have:=(List.getElem?_eq_some_iff.1 hj).1;omega
    omega
  have h2:az t.nodes=az (t.nodes.take i)++(n.kids++az (t.nodes.drop (i+1))):=by
   conv=>lhs;rw[←List.take_append_drop (i+1) t.nodes,htk]
   simp[az]
  rw[h2,List.count_append,List.count_append]at h1;omega
 have hlt:∀y∈az (t.nodes.take i),0≤y∧y<(i:Int):=by
  intro y hy;obtain⟨m,hm1,hm2⟩:=List.mem_flatMap.1 hy;obtain⟨j,hj⟩:=List.mem_iff_getElem?.1 hm1;rw[List.getElem?_take]at hj
  split at hj
  ·have:=hR.kok j m hj y hm2;omega
  ·cases hj
 rw[List.count_append,List.count_append,mu,mu,htk,oC,List.count_singleton];have ha:x∈az (t.nodes.take i)↔0<(az (t.nodes.take i)).count x:=List.count_pos_iff.symm;have hb:x∈n.kids↔0<n.kids.count x:=List.count_pos_iff.symm
 by_cases hxi:x=(i:Int)
 ·subst hxi;have h0:n.kids.count (i:Int)=0:=List.count_eq_zero.2 fun hm=>by have:=hko _ hm;omega
  have h1:(i:Int) ∉ az (t.nodes.take i):=fun hm=>by have:=hlt _ hm;omega
  rw[if_pos ⟨by omega,by omega,by rw[List.mem_append];rintro(h|h);exact h1 h;rw[hb]at h;omega⟩,if_neg (by omega),h0];simp
 ·have hne:((i:Int)==x)=false:=by simp;omega
  rw[hne];simp only[Bool.false_eq_true,if_false,Nat.add_zero]
  by_cases hm:x∈n.kids
  ·have:=hko x hm;have hc1:=hb.1 hm;rw[if_neg (fun hh=>hh.2.2 (by rw[List.mem_append];exact .inr hm)),if_pos ⟨this.1,this.2,fun hh=>by have:=ha.1 hh;omega⟩];omega
  ·have h0:n.kids.count x=0:=List.count_eq_zero.2 hm;rw[h0,Nat.add_zero]
   by_cases hq:0≤x∧x<(i:Int)∧x ∉ az (t.nodes.take i)
   ·rw[if_pos hq,if_pos ⟨hq.1,by omega,by rw[List.mem_append];rintro(h|h);exact hq.2.2 h;exact hm h⟩]
   ·rw[if_neg hq,if_neg (fun hh=>hq ⟨hh.1,by omega,fun h=>hh.2.2 (by rw[List.mem_append];exact .inl h)⟩)]
structure tf(t:Tre)(i:Nat)(ar:List Nod)(pl:List Int):Prop where
 len:pl.length=i
 kok:KOk ar
 den:∀k:Nat,k<i→Den ar (pl.getD k 0) (aA t.nodes t.nodes.length [(k:Int)]).nrm
 NR:ar.length≤i
 nd:∀x,(dfs (ae ar) ar.length ((unC t i).map fun k=>pl.getD k.toNat 0)).count x≤1
theorem tf.zero(t:Tre):tf t 0 [] []:=⟨rfl,fun i n h=>by simp at h,fun k h=>by omega,Nat.le_refl _,fun x=>by simp[unC,dfs]⟩
theorem places{t:Tre}{i:Nat}{ar:List Nod}{pl:List Int}(h:tf t i ar pl)(hN:i≤t.nodes.length):∀(l:List Int),(∀k∈l,0≤k∧k<(i:Int))→
  (∀p∈l.map (fun k=>pl.getD k.toNat 0),0≤p∧p<ar.length)∧aA ar ar.length (l.map fun k=>pl.getD k.toNat 0)=(aA t.nodes t.nodes.length l).nrm
 |[],_=>by simp[ay,Fo.nrm]
 |k::l,hl=>by
  have hk:=hl k (by simp);obtain⟨a,b⟩:=places h hN l (fun x hx=>hl x (by simp[hx]));have hd:=h.den k.toNat (by omega);rw[show((k.toNat:Nat):Int)=k by omega]at hd;have h1:=hd.pos;have h2:=hd.lt;refine⟨?_,?_⟩
  ·intro p hp;rw[List.map_cons]at hp;rcases List.mem_cons.1 hp with rfl|hp
   ·exact⟨h1,h2⟩
   ·exact a p hp
  ·rw[List.map_cons,aM _ _ (by omega),hd.fo,b,aM k l (by omega),Fo.CD]
theorem DQ{t:Tre}(hR:av t){i:Nat}{n:Nod}(hn:t.nodes[i]?=some n):aA t.nodes t.nodes.length [(i:Int)]=.cons { n with kids:=[] } (aA t.nodes t.nodes.length n.kids) .nil:=by
 obtain⟨hi,_⟩:=List.getElem?_eq_some_iff.1 hn;obtain⟨f,hf⟩:∃f,t.nodes.length=f+1:=⟨t.nodes.length-1,by omega⟩
 have hko:=hR.kok i n hn;rw[hf,aK,ay,←aF hn,dU hR.kok.ae f (f+1) n.kids (fun k hk=>by have:=hko k hk;omega) (fun k hk=>by have:=hko k hk;omega)]
 congr 1
 unfold dat;rw[Int.toNat_natCast,List.getD_eq_getElem?_getD,hn];rfl
theorem vk(pl:List Int)(p:Int)(k:Nat):(pl++[p]).getD k 0=if k<pl.length then pl.getD k 0 else if k=pl.length then p else 0:=by
 rw[List.getD_eq_getElem?_getD,List.getD_eq_getElem?_getD]
 split
 ·rw[List.getElem?_append_left (by omega)]
 ·split
  ·rename_i h;subst h;simp
  ·rw[List.getElem?_eq_none (by simp;omega)];rfl
theorem oq{ar:List Nod}(hc:bD (ae ar)){f:Nat}(l:List Int)(hl:∀k∈l,0≤k∧k<ar.length)(hf:ar.length≤f):dfs (ae ar) f l=dfs (ae ar) ar.length l:=
 oO hc f ar.length l (fun k hk=>by have:=hl k hk;omega) (fun k hk=>(hl k hk).2)
theorem kg{P K:List Int}(h:P.Sublist K)(f:Int→List Int)(x:Int):(P.flatMap f).count x≤(K.flatMap f).count x:=by
 induction h with
 |slnil=>exact Nat.le_refl _
 |cons a _ ih=>rw[List.flatMap_cons,List.count_append];omega
 |cons_cons a _ ih=>rw[List.flatMap_cons,List.flatMap_cons,List.count_append,List.count_append];omega
theorem iD{ch:Int→List Int}{f:Nat}{P K:List Int}(h:P.Sublist K)(x:Int):(dfs ch f P).count x≤(dfs ch f K).count x:=by
 cases f with
 |zero=>exact Nat.le_refl _
 |succ f=>exact kg h _ x
theorem HT{ch:Int→List Int}{f:Nat}{P K:List Int}(h:P.Perm K)(x:Int):(dfs ch f P).count x=(dfs ch f K).count x:=by
 cases f with
 |zero=>rfl
 |succ f=>exact(h.flatMap_right _).count_eq x
theorem tf.step{t:Tre}(hR:av t){i:Nat}{n:Nod}(hn:t.nodes[i]?=some n){ar:List Nod}{pl:List Int}(h:tf t i ar pl) :
  tf t (i+1) (j6 ar n (n.kids.map fun k=>pl.getD k.toNat 0)).1 (pl++[(j6 ar n (n.kids.map fun k=>pl.getD k.toNat 0)).2]):=by
 obtain⟨hi,_⟩:=List.getElem?_eq_some_iff.1 hn;have hko:=hR.kok i n hn;obtain⟨hK,hF⟩:=places h (by omega) n.kids hko;have hcome:=BU (n:=n) h.kok hK hF;rw[←DQ hR hn]at hcome;generalize j6 ar n (n.kids.map fun k=>pl.getD k.toNat 0)=r at *;obtain⟨ar',p⟩:=r;obtain⟨hden,hkok,hgrow⟩:=hcome;simp only at hden hkok hgrow ⊢;have hc:=h.kok.ae;have hc':=hkok.ae;have hpl:=h.len;have hg:∀k:Nat,k<i→(pl++[p]).getD k 0=pl.getD k 0:=fun k hk=>by rw[vk,if_pos (by omega)]
 have hgi:(pl++[p]).getD i 0=p:=by rw[vk,if_neg (by omega),if_pos hpl.symm]
 have happ:∃xs,ar'=ar++xs:=by
  rcases hgrow with⟨rfl,_⟩|⟨x,rfl,_⟩
  ·exact⟨[],by simp⟩
  ·exact⟨[x],rfl⟩
 obtain⟨xs,hxs⟩:=happ;refine⟨by simp[hpl],hkok,fun k hk=>?_,?_,fun x=>?_⟩
 ·by_cases hki:k=i
  ·subst hki;rw[hgi];exact hden
  ·rw[hg k (by omega),hxs];exact(h.den k (by omega)).app hc
 ·have:=h.NR;rcases hgrow with⟨rfl,_⟩|⟨x,rfl,_⟩
  ·omega
  ·simp;omega
 ·
  have hperm:=(HY hR hn).map (fun k:Int=>(pl++[p]).getD k.toNat 0);rw[List.map_append,List.map_append,List.map_cons,List.map_nil,Int.toNat_natCast,hgi]at hperm;have e1:n.kids.map (fun k:Int=>(pl++[p]).getD k.toNat 0)=n.kids.map fun k=>pl.getD k.toNat 0:=List.map_congr_left fun k hk=>hg _ (by have:=hko k hk;omega)
  have hul:∀k∈unC t i,0≤k∧k<(i:Int):=by
   intro k hk;have h1:=List.count_pos_iff.2 hk;rw[mu]at h1
   split at h1
   ·rename_i hh;exact⟨hh.1,hh.2.1⟩
   ·omega
  have e2:(unC t i).map (fun k:Int=>(pl++[p]).getD k.toNat 0)=(unC t i).map fun k=>pl.getD k.toNat 0:=List.map_congr_left fun k hk=>hg _ (by have:=hul k hk;omega)
  rw[e1,e2]at hperm;obtain⟨hU,_⟩:=places h (by omega) (unC t i) hul;have hcnt:=HT (ch:=ae ar') (f:=ar'.length) hperm x;rw[bp,bp,List.count_append,List.count_append]at hcnt;have hnd:=h.nd x;have hlen:ar.length≤ar'.length:=by rw[hxs];simp
  have eU:dfs (ae ar') ar'.length ((unC t i).map fun k=>pl.getD k.toNat 0)=dfs (ae ar) ar.length ((unC t i).map fun k=>pl.getD k.toNat 0):=by
   rw[←oq hc _ hU hlen];have e3:=zp (xs:=xs) hc ar'.length _ hU;rw[←hxs]at e3;exact e3
  rw[eU]at hcnt;generalize hKl:n.kids.map (fun k=>pl.getD k.toNat 0)=K at *;rcases hgrow with⟨_,hp⟩|⟨y,rfl,rfl,hs⟩
  ·have:=iD (ch:=ae ar') (f:=ar'.length) (List.singleton_sublist.2 hp) x;omega
  ·have hyk:∀k∈y.kids,0≤k∧k<(ar.length:Int):=fun k hk=>hK k (hs.subset hk)
   rw[aQ hc' (by omega) (by simp;omega),bK,List.append_nil,wq,List.count_cons]at hcnt;have h2:=iD (ch:=ae (ar++[y])) (f:=(ar++[y]).length) hs x
   by_cases hx:x=(ar.length:Int)
   ·subst hx;have:(dfs (ae ar) ar.length ((unC t i).map fun k=>pl.getD k.toNat 0)).count (ar.length:Int)=0:=List.count_eq_zero.2 fun hm=>by have:=eX hc _ _ hU _ hm;omega
    rw[this]at hcnt;simp only[beq_self_eq_true,if_true]at hcnt;omega
   ·have:((ar.length:Int)==x)=false:=by simp;omega
    rw[this]at hcnt;simp only[Bool.false_eq_true,if_false]at hcnt;omega
theorem vN{ns:List Nod}{f:Nat}(hf:0<f):∀(a b:List Int),aA ns f (a++b)=(aA ns f a).app (aA ns f b)
 |[],b=>by rw[ay];rfl
 |k::a,b=>by rw[List.cons_append,aM k _ hf,aM k a hf,vN hf a b,Fo.AF]
theorem bT{ns:List Nod}(hc:bD (ae ns)){k:Int}(h0:0≤k)(hk:k<ns.length):aA ns ns.length [k]=.cons (dat ns k) (aA ns ns.length (ae ns k)) .nil:=by
 obtain⟨f,hf⟩:∃f,ns.length=f+1:=⟨ns.length-1,by omega⟩
 rw[hf,aK,ay,dU hc f (f+1) (ae ns k) (fun x hx=>by have:=hc k x hx;omega) (fun x hx=>by have:=hc k x hx;omega)]
def Fo.tD(k:Int):Fo→Fo
 |.nil=>.nil
 |.cons m j r=>if m.kind=k then(j.tD k).app (r.tD k)else .cons m j (r.tD k)
theorem Fo.sW(k:Int):∀F G:Fo,(F.app G).tD k=(F.tD k).app (G.tD k)
 |.nil,_=>rfl
 |.cons m j r,G=>by
  simp only[Fo.app,Fo.tD]
  split
  ·rw[Fo.sW k r G,Fo.AF]
  ·rw[Fo.sW k r G,Fo.app]
theorem Fo.n9{k:Int}(hk:k=4∨k=5):∀F:Fo,(F.tD k).opF=F.opF.opn k
 |.nil=>rfl
 |.cons m j r=>by
  simp only[Fo.tD,Fo.opF,Fo.opn]
  split
  ·rename_i hm;rw[Fo.se,Fo.n9 hk j,Fo.n9 hk r,hm,if_pos hk]
  ·rw[Fo.opF,Fo.n9 hk r]
def b9(ns:List Nod)(kind:Int):Nat→List Int→List Int
 |0,_=>[]
 |f+1,l=>l.flatMap fun i=>if bn ns i=kind then b9 ns kind f (ae ns i)else[i]
theorem aZ(ns:List Nod)(kind:Int)(f:Nat):b9 ns kind f []=[]:=by cases f<;>rfl
theorem D9(ns:List Nod)(kind:Int)(f:Nat)(a b:List Int):b9 ns kind f (a++b)=b9 ns kind f a++b9 ns kind f b:=by cases f<;>simp[b9]
theorem eD{ns:List Nod}{kind:Int}(h:bD (ae ns)):∀(f g:Nat) (l:List Int),(∀k∈l,0≤k∧k<f)→(∀k∈l,k<g)→b9 ns kind f l=b9 ns kind g l
 |0,g,l,hf,hg=>by
  cases l with
  |nil=>rw[aZ,aZ]
  |cons k l=>have:=hf k (by simp);omega
 |f+1,0,l,hf,hg=>by
  cases l with
  |nil=>rw[aZ,aZ]
  |cons k l=>
   have:=hf k (by simp);have:=hg k (by simp);omega
 |f+1,g+1,l,hf,hg=>by
  show l.flatMap _=l.flatMap _
  rw[List.flatMap_def,List.flatMap_def]
  congr 1
  apply List.map_congr_left;intro k hk;have h1:=hf k hk;have h2:=hg k hk;rw[eD h f g (ae ns k) (fun x hx=>⟨(h k x hx).1,by have:=(h k x hx).2;omega⟩) (fun x hx=>by have:=(h k x hx).2;omega)]
theorem ig{ns:List Nod}{kind:Int}(h:bD (ae ns)){f:Nat}{k:Int}{l:List Int}(h0:0≤k)(hk:k<f) :
  b9 ns kind f (k::l)=(if bn ns k=kind then b9 ns kind f (ae ns k)else[k])++b9 ns kind f l:=by
 cases f with
 |zero=>omega
 |succ f=>
  have e:b9 ns kind f (ae ns k)=b9 ns kind (f+1) (ae ns k):=eD h f (f+1) (ae ns k) (fun x hx=>⟨(h k x hx).1,by have:=(h k x hx).2;omega⟩) (fun x hx=>by have:=(h k x hx).2;omega);rw[←e];simp[b9]
theorem mi{ns:List Nod}{kind:Int}(h:bD (ae ns)):∀(f:Nat) (l:List Int),(∀k∈l,0≤k∧k<f)→∀x∈b9 ns kind f l,(0≤x∧x<f)∧bn ns x≠kind
 |0,l,_,x,hx=>by cases hx
 |f+1,l,hl,x,hx=>by
  simp only[b9,List.mem_flatMap]at hx;obtain⟨k,hk,hx⟩:=hx;have h1:=hl k hk
  split at hx
  ·have:=mi h f (ae ns k) (fun y hy=>by have:=h k y hy;omega) x hx;exact⟨by omega,this.2⟩
  ·rename_i hne;simp at hx;subst hx;exact⟨by omega,hne⟩
theorem lD{ns:List Nod}{kind:Int}{f:Nat}(hf:0<f):∀(l:List Int),(∀k∈l,bn ns k≠kind)→b9 ns kind f l=l
 |[],_=>aZ _ _ _
 |k::l,hl=>by
  obtain⟨g,rfl⟩:∃g,f=g+1:=⟨f-1,by omega⟩
  have ih:=lD (ns:=ns) (kind:=kind) hf l (fun x hx=>hl x (by simp[hx]));simp only[b9]at ih ⊢;rw[List.flatMap_cons,ih,if_neg (hl k (by simp))];rfl
def chO(ns:List Nod)(k:Int):List Int:=if bn ns k=4∨bn ns k=5 then b9 ns (bn ns k) ns.length (ae ns k)else ae ns k
theorem iu{ns:List Nod}{k x:Int}(h:x∈ae ns k):0≤k∧k<ns.length:=by
 refine⟨?_,?_⟩
 ·by_cases h0:0≤k
  ·exact h0
  ·unfold ae at h;rw[if_pos (by omega)]at h;cases h
 ·by_cases h0:k<(ns.length:Int)
  ·exact h0
  ·rw[D1 (by omega)]at h;cases h
theorem kN{ns:List Nod}(h:bD (ae ns)):bD (chO ns):=by
 intro k x hx;unfold chO at hx
 split at hx
 ·by_cases he:ae ns k=[]
  ·rw[he,aZ]at hx;cases hx
  ·obtain⟨y,hy⟩:=List.exists_mem_of_ne_nil _ he;have hk:=iu hy;rw[eD h ns.length k.toNat (ae ns k) (fun z hz=>by have:=h k z hz;omega) (fun z hz=>by have:=h k z hz;omega)]at hx;have:=(mi h k.toNat (ae ns k) (fun z hz=>by have:=h k z hz;omega) x hx).1;omega
 ·exact h k x hx
theorem mW{ns:List Nod}{kind:Int}(h:bD (ae ns)):∀(f:Nat) (l:List Int),(∀k∈l,0≤k∧k<f)→f≤ns.length→aA ns ns.length (b9 ns kind f l)=(aA ns ns.length l).tD kind
 |0,l,hl,_=>by
  cases l with
  |nil=>rw[aZ,ay];rfl
  |cons k l=>have:=hl k (by simp);omega
 |f+1,[],_,_=>by rw[aZ,ay];rfl
 |f+1,k::l,hl,hf=>by
  have hk:=hl k (by simp);have ih:=mW h (kind:=kind) (f+1) l (fun x hx=>hl x (by simp[hx])) hf;rw[ig h hk.1 (by omega),vN (by omega),ih,aM k l (by omega),Fo.sW,bT h hk.1 (by omega)]
  congr 1
  have hd:(dat ns k).kind=bn ns k:=rfl;simp only[Fo.tD,hd,Fo.wS]
  split
  ·rw[eD h (f+1) f (ae ns k) (fun x hx=>by have:=h k x hx;omega) (fun x hx=>by have:=h k x hx;omega)];exact mW h f (ae ns k) (fun x hx=>by have:=h k x hx;omega) (by omega)
  ·exact bT h hk.1 (by omega)
def opA(ns:List Nod):List Nod:=(List.range ns.length).map fun i=>{ ns.getD i .zero with kids:=chO ns (i:Int) }
theorem jB(ns:List Nod):(opA ns).length=ns.length:=by simp[opA]
theorem xi{ns:List Nod}{i:Nat}(h:i<ns.length):(opA ns)[i]?=some { ns.getD i .zero with kids:=chO ns (i:Int) }:=by simp[opA,h]
theorem GX{ns:List Nod}{k:Int}(h:¬(0≤k∧k<ns.length)):chO ns k=[]:=by
 have he:ae ns k=[]:=by
  cases hc:ae ns k with
  |nil=>rfl
  |cons x l=>exact absurd (iu (x:=x) (by rw[hc];simp)) h
 unfold chO;rw[he,aZ]
 split<;>rfl
theorem oZ(ns:List Nod)(k:Int):ae (opA ns) k=chO ns k:=by
 by_cases h:0≤k∧k<ns.length
 ·obtain⟨i,rfl⟩:∃i:Nat,k=i:=⟨k.toNat,by omega⟩
  exact(aF (xi (by omega))).symm
 ·rw[GX h]
  cases hc:ae (opA ns) k with
  |nil=>rfl
  |cons x l=>
   have:=iu (ns:=opA ns) (x:=x) (k:=k) (by rw[hc];simp);rw[jB]at this;exact absurd this h
theorem yt{ns:List Nod}(h:bD (ae ns)):bD (ae (opA ns)):=by
 intro k x hx;rw[oZ]at hx;exact kN h k x hx
theorem J6{ns:List Nod}{k:Int}(h0:0≤k)(h:k<ns.length):dat (opA ns) k=dat ns k:=by
 obtain⟨i,rfl⟩:∃i:Nat,k=i:=⟨k.toNat,by omega⟩
 unfold dat;rw[Int.toNat_natCast,List.getD_eq_getElem?_getD,xi (by omega)];rfl
theorem tK{ns:List Nod}(h:bD (ae ns)):∀(m:Nat) (l:List Int),(∀k∈l,0≤k∧k<m)→m≤ns.length→aA (opA ns) ns.length l=(aA ns ns.length l).opF
 |0,l,hl,_=>by
  cases l with
  |nil=>rw[ay,ay];rfl
  |cons k l=>have:=hl k (by simp);omega
 |m+1,[],_,_=>by rw[ay,ay];rfl
 |m+1,k::l,hl,hm=>by
  have hk:=hl k (by simp);have ih:=tK h (m+1) l (fun x hx=>hl x (by simp[hx])) hm;have hc:=yt h;have e1:=bT (ns:=opA ns) hc hk.1 (by rw[jB];omega);rw[jB]at e1;rw[aM k l (by omega),ih,e1,aM (ns:=ns) k l (by omega),Fo.se,bT h hk.1 (by omega),J6 hk.1 (by omega),oZ,
   tK h m (chO ns k) (fun x hx=>by have:=kN h k x hx;omega) (by omega)]
  congr 1
  simp only[Fo.opF];have hd:(dat ns k).kind=bn ns k:=rfl;rw[hd]
  congr 1
  unfold chO
  split
  ·rename_i hkk;rw[mW h ns.length (ae ns k) (fun x hx=>by have:=h k x hx;omega) (Nat.le_refl _),Fo.n9 hkk]
  ·rfl
theorem pW{ns:List Nod}{kind:Int}(h:bD (ae ns))(x:Int):∀(f:Nat) (l:List Int),(∀k∈l,0≤k∧k<f)→f≤ns.length→(dfs (ae ns) ns.length (b9 ns kind f l)).count x≤(dfs (ae ns) ns.length l).count x
 |0,l,hl,_=>by
  cases l with
  |nil=>rw[aZ];exact Nat.le_refl _
  |cons k l=>have:=hl k (by simp);omega
 |f+1,[],_,_=>by rw[aZ];exact Nat.le_refl _
 |f+1,k::l,hl,hf=>by
  have hk:=hl k (by simp);have ih:=pW h (kind:=kind) x (f+1) l (fun x hx=>hl x (by simp[hx])) hf;rw[ig h hk.1 (by omega),bp,List.count_append,aQ h hk.1 (by omega),List.count_cons,List.count_append]
  split
  ·rw[eD h (f+1) f (ae ns k) (fun x hx=>by have:=h k x hx;omega) (fun x hx=>by have:=h k x hx;omega)];have:=pW h (kind:=kind) x f (ae ns k) (fun x hx=>by have:=h k x hx;omega) (by omega);omega
  ·rw[aQ h hk.1 (by omega),bK,List.append_nil,List.count_cons];omega
theorem si{ns:List Nod}(h:bD (ae ns))(x:Int):∀(m:Nat) (l:List Int),(∀k∈l,0≤k∧k<m)→m≤ns.length→(dfs (chO ns) ns.length l).count x≤(dfs (ae ns) ns.length l).count x
 |0,l,hl,_=>by
  cases l with
  |nil=>rw[bK];exact Nat.zero_le _
  |cons k l=>have:=hl k (by simp);omega
 |m+1,[],_,_=>by rw[bK];exact Nat.zero_le _
 |m+1,k::l,hl,hm=>by
  have hk:=hl k (by simp);have ih:=si h x (m+1) l (fun x hx=>hl x (by simp[hx])) hm;rw[aQ (kN h) hk.1 (by omega),aQ h hk.1 (by omega),List.count_cons,List.count_cons,List.count_append,List.count_append];have h1:=si h x m (chO ns k) (fun x hx=>by have:=kN h k x hx;omega) (by omega);have h2:(dfs (ae ns) ns.length (chO ns k)).count x≤(dfs (ae ns) ns.length (ae ns k)).count x:=by
   unfold chO
   split
   ·exact pW h x ns.length (ae ns k) (fun x hx=>by have:=h k x hx;omega) (Nat.le_refl _)
   ·exact Nat.le_refl _
  omega
theorem Ib{ns:List Nod}(hc:bD (ae ns)){r node:Int}(h0:0≤node)(hn:node<ns.length)(hnd:(iN (ae ns) ns.length [node]).Nodup):aD ⟨ns,r⟩ node=cj (aA ns ns.length [node]):=by
 obtain⟨pl,h1,h2,h3,h4⟩:=jM hc ns.length [node] 0 (List.replicate ns.length 0) [] (by intro k hk;simp at hk;subst hk;exact⟨h0,hn⟩) (Nat.le_refl _) (by simp) hnd;unfold aD cj aT;rw[jy];simp only[List.append_nil]at h2;rw[h2];simp[a9]
theorem vK{ns:List Nod}(h:bD (ae ns)){node:Int}(h0:0≤node)(hn:node<ns.length)(hnd:∀x,(dfs (ae ns) ns.length [node]).count x≤1):(dfs (chO ns) ns.length [node]).Nodup:=
 List.nodup_iff_count.2 fun x=>Nat.le_trans (si h x ns.length [node] (by intro k hk;simp at hk;subst hk;exact⟨h0,hn⟩) (Nat.le_refl _)) (hnd x)
theorem Dz{ns:List Nod}(h:bD (ae ns)){r node:Int}(h0:0≤node)(hn:node<ns.length)(hnd:∀x,(dfs (ae ns) ns.length [node]).count x≤1) :
  aD ⟨opA ns,r⟩ node=cj (aA ns ns.length [node]).opF:=by
 have hch:ae (opA ns)=chO ns:=funext fun k=>oZ ns k
 rw[Ib (yt h) h0 (by rw[jB];exact hn) (by rw[(cV _ _ _).nodup_iff,hch,jB];exact vK h h0 hn hnd),jB,
  tK h ns.length [node] (by intro k hk;simp at hk;subst hk;exact⟨h0,hn⟩) (Nat.le_refl _)]
structure Mod(ns ns':List Nod):Prop where
 len:ns'.length=ns.length
 get:∀(i:Nat) n,ns[i]?=some n→∃ks,ns'[i]?=some { n with kids:=ks }∧(ks=ae ns i∨ks=chO ns i)
theorem Mod.refl(ns:List Nod):Mod ns ns:=⟨rfl,fun i n h=>⟨n.kids,h,.inl (aF h)⟩⟩
theorem Mod.kind{ns ns':List Nod}(h:Mod ns ns')(k:Int):bn ns' k=bn ns k:=by
 unfold bn;rw[List.getD_eq_getElem?_getD,List.getD_eq_getElem?_getD]
 cases hg:ns[k.toNat]? with
 |none=>
  have:=List.getElem?_eq_none_iff.1 hg;rw[List.getElem?_eq_none (by rw[h.len];exact this)]
 |some n=>
  obtain⟨ks,h1,_⟩:=h.get _ n hg;rw[h1];rfl
theorem Mod.ch{ns ns':List Nod}(h:Mod ns ns')(k:Int):ae ns' k=ae ns k∨ae ns' k=chO ns k:=by
 by_cases hk:0≤k∧k<ns.length
 ·obtain⟨i,rfl⟩:∃i:Nat,k=i:=⟨k.toNat,by omega⟩
  obtain⟨ks,h1,h2⟩:=h.get i _ (List.getElem?_eq_getElem (by omega));have:=aF h1;simp only at this;rw[←this];exact h2
 ·left
  have e:∀ms:List Nod,ms.length=ns.length→ae ms k=[]:=by
   intro ms hm
   cases hc:ae ms k with
   |nil=>rfl
   |cons x l=>
    have:=iu (ns:=ms) (x:=x) (k:=k) (by rw[hc];simp);rw[hm]at this;exact absurd this hk
  rw[e ns rfl,e ns' h.len]
theorem Mod.NQ{ns ns':List Nod}(hc:bD (ae ns))(h:Mod ns ns'):bD (ae ns'):=by
 intro k x hx;rcases h.ch k with e|e<;>rw[e]at hx
 ·exact hc k x hx
 ·exact kN hc k x hx
theorem Mod.b9{ns ns':List Nod}(hc:bD (ae ns))(h:Mod ns ns'){kind:Int}(hkd:kind=4∨kind=5):∀(f:Nat) (l:List Int),(∀k∈l,0≤k∧k<f)→aa.b9 ns' kind f l=aa.b9 ns kind f l
 |0,l,_=>rfl
 |f+1,l,hl=>by
  show l.flatMap _=l.flatMap _
  rw[List.flatMap_def,List.flatMap_def]
  congr 1
  apply List.map_congr_left;intro k hk;have h1:=hl k hk;rw[h.kind]
  by_cases hkk:bn ns k=kind
  ·rw[if_pos hkk,if_pos hkk];rcases h.ch k with e|e
   ·rw[e];exact Mod.b9 hc h hkd f (ae ns k) (fun x hx=>by have:=hc k x hx;omega)
   ·rw[e];have e2:chO ns k=aa.b9 ns kind ns.length (ae ns k):=by unfold chO;rw[hkk,if_pos hkd]
    have hm:=kN hc
    by_cases he:ae ns k=[]
    ·rw[e2,he,aZ,aZ,aZ]
    ·obtain⟨y,hy⟩:=List.exists_mem_of_ne_nil _ he;have hkl:=iu hy;have hyk:=hc k y hy;have e3:aa.b9 ns kind ns.length (ae ns k)=aa.b9 ns kind f (ae ns k):=eD hc _ _ _ (fun x hx=>by have:=hc k x hx;omega) (fun x hx=>by have:=hc k x hx;omega);rw[lD (by omega) _ (fun x hx=>by
      rw[h.kind];rw[e2]at hx;exact(mi hc ns.length (ae ns k) (fun z hz=>by have:=hc k z hz;omega) x hx).2),e2,e3]
  ·rw[if_neg hkk,if_neg hkk]
theorem Mod.chO{ns ns':List Nod}(hc:bD (ae ns))(h:Mod ns ns')(k:Int):aa.chO ns' k=aa.chO ns k∨¬(bn ns k=4∨bn ns k=5):=by
 by_cases hkk:bn ns k=4∨bn ns k=5
 ·left
  unfold aa.chO;rw[h.kind,h.len,if_pos hkk,if_pos hkk];rcases h.ch k with e|e
  ·rw[e];exact Mod.b9 hc h hkk _ _ (fun x hx=>by have:=hc k x hx;have:=iu hx;omega)
  ·rw[e];have e2:aa.chO ns k=aa.b9 ns (bn ns k) ns.length (ae ns k):=by unfold aa.chO;rw[if_pos hkk]
   by_cases he:ae ns k=[]
   ·rw[e2,he,aZ,aZ]
   ·obtain⟨y,hy⟩:=List.exists_mem_of_ne_nil _ he;have hkl:=iu hy;rw[lD (by omega) _ (fun x hx=>by
     rw[h.kind];rw[e2]at hx;exact(mi hc ns.length (ae ns k) (fun z hz=>by have:=hc k z hz;omega) x hx).2),e2]
 ·exact .inr hkk
theorem iI{ns:List Nod}{kind:Int}(h:bD (ae ns)):∀(f:Nat) (l:List Int),(∀k∈l,0≤k∧k<f)→f≤ns.length→(dfs (ae ns) ns.length (b9 ns kind f l)).length≤(dfs (ae ns) ns.length l).length
 |0,l,hl,_=>by
  cases l with
  |nil=>rw[aZ];exact Nat.le_refl _
  |cons k l=>have:=hl k (by simp);omega
 |f+1,[],_,_=>by rw[aZ];exact Nat.le_refl _
 |f+1,k::l,hl,hf=>by
  have hk:=hl k (by simp);have ih:=iI h (kind:=kind) (f+1) l (fun x hx=>hl x (by simp[hx])) hf;rw[ig h hk.1 (by omega),bp,List.length_append,aQ h hk.1 (by omega),List.length_cons,List.length_append]
  split
  ·rw[eD h (f+1) f (ae ns k) (fun x hx=>by have:=h k x hx;omega) (fun x hx=>by have:=h k x hx;omega)];have:=iI h (kind:=kind) f (ae ns k) (fun x hx=>by have:=h k x hx;omega) (by omega);omega
  ·rw[aQ h hk.1 (by omega),bK,List.append_nil,List.length_cons];omega
theorem Mod.oq{ns ms:List Nod}(h:bD (ae ns))(hm:Mod ns ms):∀(m:Nat) (l:List Int),(∀k∈l,0≤k∧k<m)→m≤ns.length→(dfs (ae ms) ns.length l).length≤(dfs (ae ns) ns.length l).length
 |0,l,hl,_=>by
  cases l with
  |nil=>rw[bK];exact Nat.zero_le _
  |cons k l=>have:=hl k (by simp);omega
 |m+1,[],_,_=>by rw[bK];exact Nat.zero_le _
 |m+1,k::l,hl,hm'=>by
  have hk:=hl k (by simp);have ih:=Mod.oq h hm (m+1) l (fun x hx=>hl x (by simp[hx])) hm';have hok:=Mod.NQ h hm;rw[aQ hok hk.1 (by omega),aQ h hk.1 (by omega),List.length_cons,List.length_cons,List.length_append,List.length_append];have h1:=Mod.oq h hm m (ae ms k) (fun x hx=>by have:=hok k x hx;omega) (by omega);have h2:(dfs (ae ns) ns.length (ae ms k)).length≤(dfs (ae ns) ns.length (ae ns k)).length:=by
   rcases hm.ch k with e|e
   ·rw[e];exact Nat.le_refl _
   ·rw[e];unfold aa.chO
    split
    ·exact iI h ns.length (ae ns k) (fun x hx=>by have:=h k x hx;have:=iu hx;omega) (Nat.le_refl _)
    ·exact Nat.le_refl _
  omega
theorem Mod.set{ns ms:List Nod}(hm:Mod ns ms){i:Nat}{m:Nod}(hi:ms[i]?=some m):Mod ns (ms.set i { m with kids:=aa.chO ns (i:Int) }):=by
 refine⟨by simp[hm.len],fun j n hj=>?_⟩;obtain⟨ks,h1,h2⟩:=hm.get j n hj
 by_cases hij:i=j
 ·subst hij;rw[hi]at h1
  injection h1 with h1
  refine⟨aa.chO ns (i:Int),?_,.inr rfl⟩;rw[List.getElem?_set_self (by exact(List.getElem?_eq_some_iff.1 hi).1),h1]
 ·exact⟨ks,by rw[List.getElem?_set_ne hij];exact h1,h2⟩
theorem qF:∀{N:Nat}{l:List Int},l.Nodup→(∀k∈l,0≤k∧k<N)→l.length≤N
 |0,[],_,_=>Nat.le_refl _
 |0,k::l,_,h=>by have:=h k (by simp);omega
 |N+1,l,hn,h=>by
  have h1:=qF (N:=N) (l:=l.erase (N:Int)) (hn.erase _) (fun k hk=>by
   have h2:=h k (List.mem_of_mem_erase hk);have h3:k≠(N:Int):=fun e=>by subst e;exact(List.Nodup.not_mem_erase hn) hk
   omega)
  have h2:=List.length_erase (a:=(N:Int)) (l:=l)
  split at h2<;>omega
theorem zb{ns:List Nod}(h:bD (ae ns)){node y:Int}(h0:0≤node)(hn:node<ns.length)(hy:y∈dfs (chO ns) ns.length [node]):y∈dfs (ae ns) ns.length [node]:=by
 have h1:=si h y ns.length [node] (by intro k hk;simp at hk;subst hk;exact⟨h0,hn⟩) (Nat.le_refl _);have h2:=List.count_pos_iff.2 hy;exact List.count_pos_iff.1 (by omega)
theorem yM{ns:List Nod}(h:bD (ae ns)){node:Int}(h0:0≤node)(hn:node<ns.length)(hnd:∀x,(dfs (ae ns) ns.length [node]).count x≤1):(dfs (ae ns) ns.length [node]).length≤ns.length:=
 qF (List.nodup_iff_count.2 hnd) (eX h _ _ (by intro k hk;simp at hk;subst hk;exact⟨h0,hn⟩))
theorem xK{ns:List Nod}(h:bD (ae ns)){node:Int}(h0:0≤node)(hn:node<ns.length)(hnd:∀x,(dfs (ae ns) ns.length [node]).count x≤1):(dfs (chO ns) ns.length [node]).length≤ns.length:=
 qF (vK h h0 hn hnd) (eX (kN h) _ _ (by intro k hk;simp at hk;subst hk;exact⟨h0,hn⟩))
theorem Mod.room{ns ms:List Nod}(h:bD (ae ns))(hm:Mod ns ms){node y:Int}(h0:0≤node)(hn:node<ns.length)(hnd:∀x,(dfs (ae ns) ns.length [node]).count x≤1)(hy:y∈dfs (aa.chO ns) ns.length [node]) :
  (dfs (ae ms) ms.length [y]).length≤ns.length:=by
 have hl:∀k∈[node],0≤k∧k<(ns.length:Int):=by intro k hk;simp at hk;subst hk;exact⟨h0,hn⟩
 have hy1:=zb h h0 hn hy;have hy2:=eX h _ _ hl y hy1;rw[hm.len];exact Nat.le_trans (Mod.oq h hm ns.length [y] (by intro k hk;simp at hk;subst hk;exact hy2) (Nat.le_refl _))
  (Nat.le_trans (ib h ns.length ns.length [node] hl (Nat.le_refl _) y hy1) (yM h h0 hn hnd))
theorem Mm{ns ms:List Nod}(hm:Mod ns ms){i:Nat}{m:Nod}(hi:ms[i]?=some m)(hk:m.kids=chO ns (i:Int)):(opA ns)[i]?=some m:=by
 have hl:i<ns.length:=by rw[←hm.len];exact(List.getElem?_eq_some_iff.1 hi).1
 obtain⟨ks,h1,_⟩:=hm.get i _ (List.getElem?_eq_getElem hl);rw[hi]at h1
 injection h1 with h1
 rw[xi hl,List.getD_eq_getElem?_getD,List.getElem?_eq_getElem hl];subst h1;simp only at hk;rw[hk];rfl
theorem Mod.DI{ns ms:List Nod}(hm:Mod ns ms){i:Nat}{m:Nod}(hi:ms[i]?=some m)(h4:m.kind≠4)(h5:m.kind≠5):m.kids=aa.chO ns (i:Int):=by
 have hl:i<ns.length:=by rw[←hm.len];exact(List.getElem?_eq_some_iff.1 hi).1
 obtain⟨ks,h1,h2⟩:=hm.get i _ (List.getElem?_eq_getElem hl);rw[hi]at h1
 injection h1 with h1
 have hkA:bn ns (i:Int)=ns[i].kind:=by unfold bn;rw[List.getD_eq_getElem?_getD,Int.toNat_natCast,List.getElem?_eq_getElem hl];rfl
 have e:aa.chO ns (i:Int)=ae ns i:=by
  unfold aa.chO;rw[if_neg (by rw[hkA];subst h1;simp only at h4 h5;rintro(h|h);exact h4 h;exact h5 h)]
 rw[e]at h2 ⊢;subst h1;rcases h2 with h2|h2<;>exact h2
theorem kP{F:Fo}(h1:F.len=1)(hb:F.bare):foT (cj F)=F:=by
 match F,h1 with
 |.cons m j .nil,_=>exact oR hb
 |.cons m j (.cons a b r),h1=>simp[Fo.len]at h1
theorem s9{F:Fo}(h1:F.len=1)(hf:F.fit=true):au (cj F)=true:=by
 match F,h1 with
 |.cons m j .nil,_=>exact gP hf
 |.cons m j (.cons a b r),h1=>simp[Fo.len]at h1
theorem Fo.one{F:Fo}(h1:F.len=1):∃m j,F=.cons m j .nil:=by
 match F,h1 with
 |.cons m j .nil,_=>exact⟨m,j,rfl⟩
 |.cons m j (.cons a b r),h1=>simp[Fo.len]at h1
theorem qJ{t:Tre}(h:au t=true):(foT t).fb∧(foT t).len=1:=by
 obtain⟨n,k,e,hb,hf⟩:=fO (ao h);rw[e];exact⟨⟨hf,hb⟩,rfl⟩
theorem w8{l:List Tre}(h:∀t∈l,au t=true):(foL l).fb∧(foL l).len=l.length:=
 let⟨h1,h2,h3⟩:=wQ l h
 ⟨⟨h2,h3⟩,h1⟩
structure NT(t:Tre)(F:Fo):Prop where
 eq:t=cj F
 len:F.len=1
 fb:F.fb
 ok:F.ok
theorem NT.fo{t:Tre}{F:Fo}(h:NT t F):foT t=F:=by rw[h.eq];exact kP h.len h.fb.2
theorem my{t:Tre}(h:au t=true):kR t=(cj (foT t).norm,true):=by unfold kR;rw[if_pos h]
theorem yE{t:Tre}(h:au t=false):kR t=(.zero,false):=by unfold kR;rw[if_neg (by rw[h];simp)]
def Fo.parts(F:Fo):Fo:=F.bq.opn 4
def Fo.ways(F:Fo):Fo:=F.opn 5
theorem Fo.HE{F:Fo}(h:F.ok):F.parts.ok:=Fo.pT (Fo.jd h)
theorem Fo.Jn{F:Fo}(h:F.ok):F.ways.ok:=Fo.pT h
theorem Fo.EI{F:Fo}(h:F.ok):F.parts.noK 4∧F.parts.noK 0:=⟨Fo.ot (Fo.jd h),Fo.lL (Fo.jd h) (Fo.mm F)⟩
theorem Fo.Ia{F:Fo}(h:F.ok):F.ways.noK 5:=Fo.oE h
theorem Fo.J7(F:Fo):Fo.put eH F=Fo.join eH dN F.parts:=rfl
theorem Fo.Kj(F:Fo):Fo.put dE F=Fo.join dE iA F.ways:=by
 unfold Fo.put;rw[if_neg (by decide),if_pos (by decide)];rfl
theorem yH{m:Nod}{c:Int}(h:fits m c=true)(hk:m.kind=0)(hb:m.kids=[]):m=dN∧c=0:=by
 obtain⟨k,s,t,a,b,l⟩:=m;simp only at hk hb;subst hk;subst hb;simp[fits]at h;obtain⟨⟨⟨⟨h1,h2⟩,h3⟩,h4⟩,h5⟩:=h;subst h1;subst h2;subst h3;subst h4;exact⟨rfl,h5⟩
theorem Fo.Oh{F:Fo}(h:F.len=0):F=.nil:=by
 cases F with
 |nil=>rfl
 |cons m j r=>simp[Fo.len]at h
theorem Fo.Ar{F:Fo}(h1:F.len=1)(hf:F.fb):Fo.join eH dN F.parts=F:=by
 obtain⟨m,j,rfl⟩:=Fo.one h1;obtain⟨⟨g1,g2,g3⟩,_⟩:=Fo.bI.1 hf;unfold Fo.parts;simp only[Fo.bq]
 by_cases h0:m.kind=0
 ·obtain⟨rfl,hc⟩:=yH g1 h0 g2;have:j=.nil:=Fo.Oh (by omega);subst this;rw[if_pos h0];rfl
 ·rw[if_neg h0];simp only[Fo.opn]
  by_cases h4:m.kind=4
  ·obtain⟨rfl,hc⟩:=cX g1 h4 g2;rw[if_pos h4,Fo.wS,Fo.dT _ _ (by omega)]
  ·rw[if_neg h4];rfl
theorem Fo.Eu{F:Fo}(h1:F.len=1)(hf:F.fb):Fo.join dE iA F.ways=F:=by
 obtain⟨m,j,rfl⟩:=Fo.one h1;obtain⟨⟨g1,g2,g3⟩,_⟩:=Fo.bI.1 hf;unfold Fo.ways;simp only[Fo.opn]
 by_cases h5:m.kind=5
 ·obtain⟨rfl,hc⟩:=cW g1 h5 g2;rw[if_pos h5,Fo.wS,Fo.dT _ _ (by omega)]
 ·rw[if_neg h5];rfl
def j0(n:Nod)(c:Int):Bool:=if n.kind=4∨n.kind=5 then fits n 2 else fits n c
def dZ(n:Nod)(l:List Tre):Tre×Bool:=if(j0 n l.length&&nL l)=true then(cj (Fo.put n (foL l).norm),true)else(.zero,false)
theorem lH{n:Nod}{l:List Tre}(h1:j0 n l.length=true)(h2:nL l=true):dZ n l=(cj (Fo.put n (foL l).norm),true):=by unfold dZ;rw[h1,h2];rfl
theorem uf{n:Nod}{l:List Tre}(h1:j0 n l.length=false):dZ n l=(.zero,false):=by unfold dZ;rw[h1];rfl
theorem oI{n:Nod}{l:List Tre}(h1:nL l=false):dZ n l=(.zero,false):=by unfold dZ;rw[h1,Bool.and_false];rfl
theorem Fo.Mt{n:Nod}{K:Fo}(hb:n.kids=[])(hf:j0 n K.len=true)(hK:K.fb):(Fo.put n K).fb:=by
 unfold j0 at hf;unfold Fo.put
 by_cases h4:n.kind=4
 ·rw[if_pos (.inl h4)]at hf;obtain⟨rfl,_⟩:=cX hf h4 hb;rw[if_pos h4];exact Fo.mC (Fo.ng (Fo.jt hK)) ⟨lE,rfl⟩ (fun h=>jf (by omega)) rfl
 ·by_cases h5:n.kind=5
  ·rw[if_pos (.inr h5)]at hf;obtain⟨rfl,_⟩:=cW hf h5 hb;rw[if_neg h4,if_pos h5];exact Fo.mC (Fo.ng hK) ⟨nk,rfl⟩ (fun h=>jj (by omega)) rfl
  ·rw[if_neg (by rintro(h|h);exact h4 h;exact h5 h)]at hf;rw[if_neg h4,if_neg h5];exact Fo.bI.2 ⟨⟨hf,hb,hK⟩,Fo.nu⟩
theorem Fo.wJ{n:Nod}{K:Fo}(hK:K.ok):(Fo.put n K).ok:=by
 unfold Fo.put
 split
 ·rename_i hk;have hp:=Fo.HE hK;have h4:=Fo.EI hK;show(Fo.join n dN K.parts).ok
  generalize K.parts=p at *;rcases Fo.cy n dN p with⟨rfl,e⟩|⟨a,b,rfl,e⟩|⟨h2,e⟩<;>rw[e]
  ·exact Fo.rV (by decide) (by decide)
  ·exact hp
  ·exact⟨fun _=>h4,fun h=>by omega,hp,trivial⟩
 ·split
  ·rename_i hk;have hp:=Fo.Jn hK;have h5:=Fo.Ia hK;show(Fo.join n iA K.ways).ok
   generalize K.ways=p at *;rcases Fo.cy n iA p with⟨rfl,e⟩|⟨a,b,rfl,e⟩|⟨h2,e⟩<;>rw[e]
   ·exact Fo.rV (by decide) (by decide)
   ·exact hp
   ·exact⟨fun h=>by omega,fun _=>h5,hp,trivial⟩
  ·rename_i h4 h5;exact⟨fun h=>absurd h h4,fun h=>absurd h h5,hK,trivial⟩
theorem JN{n:Nod}{l:List Tre}(hb:n.kids=[])(h1:j0 n l.length=true)(h2:nL l=true):NT (dZ n l).1 (Fo.put n (foL l).norm):=by
 obtain⟨g1,g2⟩:=w8 (gZ.1 h2);rw[lH h1 h2];exact⟨rfl,Fo.Dl _ _,Fo.Mt hb (by rw[Fo.lr,g2];exact h1) (Fo.pq g1),Fo.wJ (Fo.xh _)⟩
theorem JQ(n:Nod)(l:List Tre):(dZ n l).2=(j0 n l.length&&nL l):=by
 cases h:j0 n l.length&&nL l with
 |true=>unfold dZ;rw[h];rfl
 |false=>unfold dZ;rw[h];rfl
theorem LA{n:Nod}{l:List Tre}(hb:n.kids=[])(hk:(n.kind=4∨n.kind=5)→2≤l.length):dZ n l=if(ofP n l).2=true then kR (ofP n l).1 else(.zero,false):=by
 have hfk:j0 n l.length=fits n l.length:=by
  unfold j0
  split
  ·rename_i h;have h2:=hk h;rw[Bool.eq_iff_iff]
   constructor
   ·intro hf;rcases h with h|h
    ·obtain⟨rfl,_⟩:=cX hf h hb;exact jf (by omega)
    ·obtain⟨rfl,_⟩:=cW hf h hb;exact jj (by omega)
   ·intro hf;rcases h with h|h
    ·obtain⟨rfl,_⟩:=cX hf h hb;exact jf (by omega)
    ·obtain⟨rfl,_⟩:=cW hf h hb;exact jj (by omega)
  ·rfl
 rw[KT]
 cases hf:fits n l.length with
 |false=>rw[uf (by rw[hfk,hf])];rfl
 |true=>
  cases hr:nL l with
  |false=>rw[oI hr];rfl
  |true=>
   have hR:=gZ.1 hr;obtain⟨h1,h2,_⟩:=D4 hf hR;rw[lH (by rw[hfk,hf]) hr];simp only[Bool.and_self,if_true];rw[my (tP.2 h1),h2];have e:({ n with kids:=[] }:Nod)=n:=by rw[←hb]
   rw[e,Fo.norm,Fo.norm,Fo.wS]
theorem B9{n:Nod}(hn:n=eH∨n=dE)(t:Tre):dZ n [t]=kR t:=by
 cases hr:au t with
 |false=>rw[yE hr,oI (by simp[nL,hr])]
 |true=>
  obtain⟨h1,h2⟩:=qJ hr;have hfb:=Fo.pq h1;have hl:(foT t).norm.len=1:=by rw[Fo.lr,h2]
  rw[my hr,lH (by rcases hn with rfl|rfl<;>rfl) (by simp[nL,hr])];have e:foL [t]=foT t:=by simp[foL,Fo.wS]
  rw[e];rcases hn with rfl|rfl
  ·rw[Fo.J7,Fo.Ar hl hfb]
  ·rw[Fo.Kj,Fo.Eu hl hfb]
theorem Fo.rY{k:Int}:∀{F:Fo},F.dwf→(F.opn k).dwf
 |.nil,h=>h
 |.cons m j r,h=>by
  simp only[Fo.opn]
  split
  ·exact(Fo.oL _ _).2 ⟨h.2.1,Fo.rY h.2.2⟩
  ·exact⟨h.1,h.2.1,Fo.rY h.2.2⟩
theorem Fo.qG:∀{F:Fo},F.dwf→F.bq.dwf
 |.nil,h=>h
 |.cons m j r,h=>by
  simp only[Fo.bq]
  split
  ·exact Fo.qG h.2.2
  ·exact⟨h.1,h.2.1,Fo.qG h.2.2⟩
theorem Fo.yv{m e:Nod}{p:Fo}(hm:({ m with kids:=[] }:Nod).wf)(he:e.wf)(hp:p.dwf):(Fo.join m e p).dwf:=by
 rcases Fo.cy m e p with⟨rfl,h⟩|⟨a,b,rfl,h⟩|⟨_,h⟩<;>rw[h]
 ·exact⟨he.wf0,trivial,trivial⟩
 ·exact hp
 ·exact⟨hm,hp,trivial⟩
theorem pK{n:Nod}(h:0≤n.kind∧n.kind≤255)(hs:n.set=.zero)(ht:n.text=⟨#[]⟩)(h1:n.min=0)(h2:n.max=0)(hk:n.kids=[]):n.wf:=by
 refine⟨h,by rw[hs];exact Nod.cS.set,by rw[ht];exact Nod.cS.text,by rw[h1];exact Nod.cS.min,by rw[h2];exact Nod.cS.max,by rw[hk];exact Nod.cS.kids⟩
theorem He:iA.wf:=pK (by decide) rfl rfl rfl rfl rfl
theorem kD:eH.wf:=pK (by decide) rfl rfl rfl rfl rfl
theorem ja:dE.wf:=pK (by decide) rfl rfl rfl rfl rfl
theorem Fo.Da{n:Nod}{K:Fo}(hn:({ n with kids:=[] }:Nod).wf)(hK:K.dwf):(Fo.put n K).dwf:=by
 unfold Fo.put
 split
 ·exact Fo.yv hn DK (Fo.rY (Fo.qG hK))
 ·split
  ·exact Fo.yv hn He (Fo.rY hK)
  ·exact⟨hn,hK,trivial⟩
theorem Fo.oQ:∀{F:Fo},F.dwf→F.norm.dwf
 |.nil,h=>h
 |.cons m j r,h=>by
  rw[Fo.norm];exact(Fo.oL _ _).2 ⟨Fo.Da h.1 (Fo.oQ h.2.1),Fo.oQ h.2.2⟩
theorem Fo.Bq(F:Fo):F.parts.size≤F.size:=Nat.le_trans (Fo.ky _) (Fo.nV _)
theorem Fo.yn(n:Nod)(K:Fo):(Fo.put n K).size≤K.size+1:=by
 unfold Fo.put
 split
 ·exact Nat.le_trans (Fo.mo _ _ _) (by have:=Fo.Bq K;unfold Fo.parts at this;omega)
 ·split
  ·exact Nat.le_trans (Fo.mo _ _ _) (by have:=Fo.ky (k:=5) K;omega)
  ·simp only[Fo.size];omega
theorem zO(F:Fo):(cj F).nodes.length=F.size:=Fo.bM F 0
theorem Il(n:Nod)(l:List Tre):(dZ n l).1.nodes.length≤tot l+1:=by
 cases h1:j0 n l.length with
 |false=>rw[uf h1];exact Nat.zero_le _
 |true=>
  cases h2:nL l with
  |false=>rw[oI h2];exact Nat.zero_le _
  |true=>
   rw[lH h1 h2];show(cj _).nodes.length≤_
   rw[zO,←jw (gZ.1 h2)];exact Nat.le_trans (Fo.yn _ _) (Nat.succ_le_succ (Fo.iT _))
theorem Jo{n:Nod}{l:List Tre}(hn:n.wf)(hl:∀t∈l,t.wf)(ht:tot l+1≤bY):(dZ n l).1.wf:=by
 cases h1:j0 n l.length with
 |false=>rw[uf h1];exact Tre.cS
 |true=>
  cases h2:nL l with
  |false=>rw[oI h2];exact Tre.cS
  |true=>
   rw[lH h1 h2];refine sq (Fo.Da hn.wf0 (Fo.oQ (xp hl))) (Nat.le_trans (Fo.yn _ _) ?_);have:=Fo.iT (foL l);rw[jw (gZ.1 h2)]at this;omega
theorem xF(l m:List Tre):foL (l++m)=(foL l).app (foL m):=by
 induction l with
 |nil=>rfl
 |cons t l ih=>rw[List.cons_append,foL,foL,ih,Fo.AF]
def iz(ns:List Nod)(n:Nod):Bool:=!(decide (n.kind=4)||decide (n.kind=5))||n.kids.all fun k=>!(decide (bn ns k=n.kind)||(decide (bn ns k=0)&&decide (n.kind=4)))
def fP(t:Tre):Bool:=au t&&t.nodes.all (iz t.nodes)
theorem Aq{t:Tre}(h:au t=false):fP t=false:=by unfold fP;rw[h];rfl
theorem EB{t:Tre}(h:au t=true):∃F,foT t=.cons (mP t) F .nil∧F.fb∧(mP t).kids=[]∧fits (mP t) F.len=true∧aN t=F.trees:=by
 obtain⟨F,hF⟩:=Jb h;have hfb:=(qJ h).1;rw[hF]at hfb;obtain⟨⟨h1,h2,h3⟩,_⟩:=Fo.bI.1 hfb;exact⟨F,hF,h3,h2,h1,by rw[aN,if_pos h,hF];rfl⟩
end Go.aa
end
section
namespace Go.Km
open Go Go.Vc Go.Proofs Go.aa
abbrev inF(k:Int):F:=.vl (.int .i64 k)
abbrev byF(k:Int):F:=.vl (.int .u8 k)
abbrev boF(b:Bool):F:=.vl (.bool b)
abbrev stF(s:ByteArray):F:=.vl (.string s)
abbrev ikF(k:Int):List F:=[inF k]
abbrev btF(b:Bts):List F:=[.vl (.int .u64 b.a),.vl (.int .u64 b.b),.vl (.int .u64 b.c),.vl (.int .u64 b.d)]
abbrev a8(n:Nod):List F:=[byF n.kind,.vl (.int .u64 n.set.a),.vl (.int .u64 n.set.b),.vl (.int .u64 n.set.c),.vl (.int .u64 n.set.d),stF n.text,inF n.min,inF n.max,.sl (n.kids.map ikF)]
abbrev dq(t:Tre):List F:=[.sl (t.nodes.map a8),inF t.root]
abbrev aE(t:Tre):F:=.ag (dq t)
abbrev kF(l:List Tre):F:=.sl (l.map dq)
abbrev isF(l:List Int):F:=.sl (l.map ikF)
instance:lb ikF 1:=⟨fun _=>rfl⟩
instance:lb a8 9:=⟨fun _=>rfl⟩
instance:lb dq 2:=⟨fun _=>rfl⟩
abbrev C(f:Nat)(l:List F)(r:F)(b:Bool)(pre:Prop):Prop:=KC Tryz.prog X1.Γ f l r b pre
theorem Jz(s t:ByteArray):eqS s t=decide (s=t):=sS s t
end Go.Km
end
section
namespace Go.Proofs.YtpbichnnflabdaaGreatDoor
open Go Go.Sl Go.RowKit
theorem JW:(Tryz.prog.info? 5).map (fun i=>(i.zero,i.size,i.bytes))=some (some (.int .u8 0),1,1):=by kernel_rfl
theorem GF:Tryz.prog.cellsOf 5=1:=by kernel_rfl
set_option maxHeartbeats 4000000 in
set_option maxRecDepth 100000 in
theorem Ap(s:ByteArray)(w:World)(hlim:s.size≤281474976710656) :
  Calls Tryz.prog 151 #[.string s] w fun e w'=>e=.returned (.string s)∧Below w.heap.size w w':=by
 by_cases h0:s.size=0
 ·have hs:s=⟨#[]⟩:=by
   apply ByteArray.ext;exact Array.eq_empty_of_size_eq_zero h0
  subst hs
  go_enter Tryz.func151,Tryz.ntmps151
  go_wp2
  go_ret
  exact⟨rfl,Below.refl _ _⟩
 ·obtain⟨i0,hi,hz0,hz1,hz2⟩:=info_parts JW;have hinfo:(Tryz.prog.info? 5).map (·.size)=some 1:=by rw[hi];simp[hz1]
  have hco:=GF;obtain⟨M,hM⟩:=exEq (madeCells (Value.int .u8 0).cells (((s.size:Nat):Int).toNat*i0.size));have hMs:M.size=s.size:=by rw[hM,size_madeCells,hz1];simp
  have hmk:∀W:World,(Instr.makeSlice 201 (.int .i64 (s.size:Int)) (.int .i64 (s.size:Int))).run Tryz.prog W=.ok (.slice (some ⟨W.heap.size,0,none⟩) s.size s.size) (W.alloc (.cells M 5)):=fun W=>by
   have h:=run_make (P:=Tryz.prog) W 201 5 i0 (.int .u8 0) Tryz.underlying201 hi hz0 .i64 .i64 (s.size:Int) (s.size:Int) (by omega) (by omega) (by rw[hz2];omega) (by omega);rw[←hM]at h;simpa using h
  clear hM;have hcp:=Lib.run_copy_row_string (P:=Tryz.prog) (w.alloc (.cells M 5)) 201 9 3 5 w.heap.size 0 s.size s.size s M 5 Tryz.underlying201 hinfo (heap_alloc_new w _) (Nat.le_refl _) (by omega);obtain⟨Y,hY⟩:=exEq ((M.toList.take 0++Lib.byteCells s.data.toList++M.toList.drop (0+s.size)).toArray);rw[←hY]at hcp;have hYl:Y.toList=Lib.byteCells s.data.toList:=by
   rw[hY,List.toList_toArray,List.take_zero,List.nil_append,List.drop_of_length_le (by rw[Array.length_toList];omega),List.append_nil]
  have hYs:Y.size=s.size:=by rw[←Array.length_toList,hYl,Lib.byteCells_length,←Lib.size_eq]
  have hgY:((w.alloc (.cells M 5)).setRow w.heap.size Y).heap[w.heap.size]?=some (.cells Y 5 (0,0)):=setRow_heap _ _ M _ 5 (0,0) (heap_alloc_new w _);have hne:s.data.toList≠[]:=fun e=>h0 (by rw[Lib.size_eq,e];rfl)
  have hUS:=Lib.run_unsafeString_row (P:=Tryz.prog) ((w.alloc (.cells M 5)).setRow w.heap.size Y) 218 3 9 5 Tryz.underlying218 hco w.heap.size Y.size (by unfold World.shape?;rw[hgY]) s.data.toList hne (by rw[←Lib.size_eq];omega) (by rw[←Lib.size_eq];omega)
   (fun j x hx=>Lib.cells_of_row hgY Y.size j _ (by rw[List.take_of_length_le (by rw[Array.length_toList];exact Nat.le_refl _),hYl];simp[Lib.byteCells,hx]))
  rw[←Lib.size_eq]at hUS;clear hY
  go_enter Tryz.func151,Tryz.ntmps151
  go_wp2
  go_ret
  have hb1:Below w.heap.size w (w.alloc (.cells M 5)):=(Below.refl _ w).alloc (Nat.le_refl _) _;have hb2:Below w.heap.size (w.alloc (.cells M 5)) ((w.alloc (.cells M 5)).setRow w.heap.size Y):=⟨rfl,rfl,rfl,by simp,fun k hk=>setRow_other _ _ _ _ (by omega)⟩
  exact⟨rfl,Lib.below_freeze (hb1.trans hb2) (p:=⟨w.heap.size,0,none⟩) (Nat.le_refl _) _⟩
end Go.Proofs.YtpbichnnflabdaaGreatDoor
namespace Go.Km
open Go Go.Vc Go.Proofs Go.aa Go.RowKit
open Go.Sl hiding lk
set_option maxRecDepth 100000
set_option maxHeartbeats 0
theorem pC{Z:Nat→Prop}{w:World}:∀{l:List Value}{vs:List Value},F.ah Z w (l.map .vl) vs→vs=l
 |[],vs,h=>by simpa [F.ah]using h
 |v::l,vs,h=>by
  rw[List.map_cons]at h;unfold F.ah at h;obtain⟨u,us,rfl,h1,h2⟩:=h;unfold F.rep at h1;rw[h1,pC h2]
theorem Pure.ofV{P:Program}{Γ:Nat→Option (List F)}{f:FuncId}[hc:CF P f]{l:List Value}{v:Value}(H:∀w,Calls P f l.toArray w (fun e w'=>e=.returned v∧Below w.heap.size w w')):Pure P Γ f (l.map .vl) (.vl v) true:=
 ⟨hc,fun Z w vs hZ hG hr=>by
  rw[pC hr];exact(H w).mono (fun e w' ⟨h1,h2⟩=>⟨v,h1,h2,by unfold F.rep;rfl⟩)⟩
instance(s:ByteArray):C 151 [stF s] (stF s) true (s.size≤281474976710656):=⟨fun h=>Pure.ofV (l:=[.string s]) fun w=>Go.Proofs.YtpbichnnflabdaaGreatDoor.Ap s w h⟩
instance(s:ByteArray):C 135 [stF s] (stF s) true (s.size≤281474976710656):=⟨fun hs=>by
 refine kf rfl rfl ?_;repeat' (first|exact k9|refine k2 ?_|apply kA|apply kI;intro hc|refine k8 ?_|apply kL;intro hl)⟩
end Go.Km
end
section
namespace Go.Km
open Go Go.Vc Go.Proofs Go.aa
set_option maxRecDepth 100000
set_option maxHeartbeats 0
instance(b:Int):C 133 [byF b] (boF (iy b)) true True:=⟨fun _=>by
 refine kf rfl rfl ?_;repeat' first|exact k9|refine k2 ?_|apply kA|apply kI;intro hc|refine k8 ?_|apply kL;intro hl
 all_goals(refine aq.b ?_ rfl;rw[Bool.eq_iff_iff];simp[iy,dO];try omega)⟩
instance(b:Int):C 134 [byF b] (boF (tq b)) true True:=⟨fun _=>by
 refine kf rfl rfl ?_;repeat' first|exact k9|refine k2 ?_|apply kA|apply kI;intro hc|refine k8 ?_|apply kL;intro hl
 all_goals(refine aq.b ?_ rfl;rw[Bool.eq_iff_iff];simp[tq,dM];try omega)⟩
theorem sh{s:ByteArray}(h:0<s.size):kO s.data.toList=iy ((s.data.toList[0]'h).toNat:Int):=by
 have hz0:0<s.data.toList.length:=h;show kO s.data.toList=iy ((s.data.toList[0]'hz0).toNat:Int)
 generalize s.data.toList=l at hz0
 match l,hz0 with
 |b::l,_=>rfl
theorem z4{s:ByteArray}{i:Nat}(h:i≤s.size):(ko s 0 i).size=i:=by
 rw[xu];simp[h]
theorem oF{s:ByteArray}{j:Nat}(hh:kO s.data.toList=true)(hj:j≤s.size)(hg:∀i b,i<j→s.data.toList[i]?=some b→eO b=true)(he:∀b,s.data.toList[j]?=some b→eO b=false):ko s 0 j=fS s:=by
 rw[xu,fS,if_pos hh,vz s.data.toList j hj hg he]
theorem CC{s:ByteArray}(h:kO s.data.toList=false):fS s=⟨#[]⟩:=by simp[fS,h]
instance(s:ByteArray):C 108 [stF s] (stF (fS s)) true (s.size≤281474976710656):=⟨fun hs=>by
 refine kf rfl rfl ?_;repeat' first|exact k9|refine k2 ?_|apply kA|apply kI;intro hc|refine k8 ?_|apply kL;intro hl
 ·refine aq.s ?_ rfl;rw[hc];rfl
 ·rename_i h0
  replace h0:=h0.2
  have hh:kO s.data.toList=true:=by rw[sh h0];exact hc
  apply kCt [0,3] [];conv=>whnf
  refine Lp.ind (fun j:Nat=>s.size-j) (fun j=>0<j∧j≤s.size∧∀i b,i<j→s.data.toList[i]?=some b→eO b=true) (fun j=>[(3,InD j)]) (fun _=>[]) (fun _=>(stF (fS s),true)) 1 ⟨by omega,by omega,fun i b hi hb=>?_⟩ rfl rfl rfl ?_
  ·have:i=0:=by omega
   subst this;rw[List.getElem?_eq_getElem h0]at hb
   cases hb;unfold eO;rw[hc];rfl
  rintro G j ih ⟨hj0,hj,hg⟩
  repeat' first|exact k9|refine k2 ?_|apply kA|apply kI;intro hc|refine k8 ?_|apply kL;intro hl
  ·rename_i hl;apply kCt [0,3] [];conv=>whnf
   refine ih (j+1) _ _ _ (by omega) ⟨by omega,by omega,fun i b hi hb=>?_⟩ rfl rfl rfl;rcases Nat.lt_or_ge i j with h1|h1
   ·exact hg i b h1 hb
   ·have:i=j:=by omega
    subst this;rw[List.getElem?_eq_getElem hl]at hb
    cases hb;unfold eO;rw[hc];rfl
  ·rename_i hl hc0 hl0;apply kCt [0,3] [];conv=>whnf
   refine ih (j+1) _ _ _ (by omega) ⟨by omega,by omega,fun i b hi hb=>?_⟩ rfl rfl rfl;rcases Nat.lt_or_ge i j with h1|h1
   ·exact hg i b h1 hb
   ·have:i=j:=by omega
    subst this;rw[List.getElem?_eq_getElem hl]at hb
    cases hb;unfold eO;rw[hc,Bool.or_true]
  ·exact⟨by rw[z4 hj];omega⟩
  ·rename_i _ _ hc0;refine aq.s (oF hh hj hg fun b hb=>?_) rfl;rw[List.getElem?_eq_getElem hl]at hb
   cases hb;unfold eO;rw[hc,hc0];rfl
  ·exact⟨by rw[z4 hj];omega⟩
  ·refine aq.s (oF hh hj hg fun b hb=>?_) rfl;rw[List.getElem?_eq_none (by have:s.data.toList.length=s.size:=rfl;omega)]at hb
   cases hb
 ·rename_i h0
  replace h0:=h0.2
  refine aq.s ?_ rfl;rw[CC];rw[sh h0];exact hc⟩
instance(s:ByteArray):C 62 [stF s] (boF (gE s)) true (s.size≤281474976710656):=⟨fun hs=>by
 refine kf rfl rfl ?_;repeat' first|exact k9|refine k2 ?_|apply kA|apply kI;intro hc|refine k8 ?_|apply kL;intro hl
 ·exact aq.b (by rw[hc];rfl) rfl
 ·refine aq.b ?_ rfl;rename_i h0;rw[dO,jW,jW,x8,decide_eq_false (p:=s=⟨#[]⟩) h0.1,decide_eq_true (p:=(s.size:Int)≤32) hc];simp
 ·refine aq.b ?_ rfl;rw[x8,decide_eq_false (p:=(s.size:Int)≤32) (by omega)];simp⟩
set_option maxRecDepth 100000
set_option maxHeartbeats 0
theorem Dq(kind sa sb sc sd:Int)(text:ByteArray)(lo hi:Int)(K:List (List F))(k:Int)(kids:List Int)(hk:0≤kind∧kind≤255)(ht:text.size≤140737488355328) :
  Pure Tryz.prog X1.Γ 102 [.ag [byF kind,.vl (.int .u64 sa),.vl (.int .u64 sb),.vl (.int .u64 sc),.vl (.int .u64 sd),stF text,inF lo,inF hi,.sl K],inF k] (boF (fits ⟨kind,⟨sa,sb,sc,sd⟩,text,lo,hi,kids⟩ k)) true:=by
 by_cases h10:10≤kind
 ·refine kf rfl rfl ?_;repeat' first|exact k9|refine k2 ?_|apply kA|apply kI;intro hc|refine k8 ?_|apply kL;intro hl
  refine aq.b ?_ rfl;unfold fits;simp only;rw[if_neg (by omega),if_neg (by omega),if_neg (by omega),if_neg (by omega),if_neg (by omega),if_neg (by omega),if_neg (by omega),if_neg (by omega)]
 ·have:kind=0∨kind=1∨kind=2∨kind=3∨kind=4∨kind=5∨kind=6∨kind=7∨kind=8∨kind=9:=by omega
  rcases this with rfl|rfl|rfl|rfl|rfl|rfl|rfl|rfl|rfl|rfl
  all_goals refine kf rfl rfl ?_
  all_goals repeat' first|exact k9|refine k2 ?_|apply kA|apply kI;intro hc|refine k8 ?_|apply kL;intro hl
  all_goals refine aq.b ?_ rfl
  all_goals clear hk h10
  all_goals simp_all [fits,dO,dM,nS,Bts.zero]
  all_goals try omega
instance(kind sa sb sc sd:Int)(text:ByteArray)(lo hi:Int)(K:List (List F))(k:Int):C 102 [.ag [byF kind,.vl (.int .u64 sa),.vl (.int .u64 sb),.vl (.int .u64 sc),.vl (.int .u64 sd),stF text,inF lo,inF hi,.sl K],inF k] (boF (fits ⟨kind,⟨sa,sb,sc,sd⟩,text,lo,hi,[]⟩ k)) true ((⟨kind,⟨sa,sb,sc,sd⟩,text,lo,hi,[]⟩:Nod).wf):=⟨fun h=>Dq kind sa sb sc sd text lo hi _ k [] h.kind (Nat.le_trans h.text (by decide))⟩
instance(n:Nod)(k:Int):C 102 [.ag (a8 n),inF k] (boF (fits n k)) true (n.wf):=⟨fun h=>Dq n.kind n.set.a n.set.b n.set.c n.set.d n.text n.min n.max _ k n.kids h.kind (Nat.le_trans h.text (by decide))⟩
set_option maxRecDepth 100000
set_option maxHeartbeats 0
abbrev bsF(l:List Bool):List (List F):=l.map fun b=>[boF b]
theorem uv{t:Tre}(h:cn 0 t.nodes (List.replicate t.nodes.length false)=none):au t=false:=by simp[au,h]
theorem Bf{t:Tre}{tk:List Bool}(h:cn 0 t.nodes (List.replicate t.nodes.length false)=some tk)(h0:0≤t.root)(h1:t.root<t.nodes.length):au t=(List.range t.nodes.length).all fun i=>!(tk.getD i false==decide ((i:Int)=t.root)):=by
 simp[au,h,h0,h1]
theorem yA{i k:Int}{l:List Int}{tk:List Bool}(h:k<0∨i≤k∨tk.getD k.toNat false=true):b4 i (k::l) tk=none:=by rw[b4,if_pos h]
theorem wO{i k:Int}{l:List Int}{tk:List Bool}(h:¬(k<0∨i≤k∨tk.getD k.toNat false=true)):b4 i (k::l) tk=b4 i l (tk.set k.toNat true):=by rw[b4,if_neg h]
instance(t:Tre):C 55 [aE t] (boF (au t)) true t.wf:=⟨fun ht=>by
 have hlen:=ht.len;simp only[bY]at hlen;refine kf rfl rfl ?_;repeat' first|exact k9|refine k2 ?_|apply kA|apply kI;intro hc|refine k8 ?_|apply kL;intro hl
 ·refine aq.b ?_ rfl;simp[au];omega
 ·refine aq.b ?_ rfl;simp[au];omega
 rename_i h0;apply kCt [1,3,26,27,28] [];conv=>whnf
 refine Lp.ind (fun x:Nat×List Bool=>t.nodes.length-x.1) (fun x=>x.1≤t.nodes.length∧x.2.length=t.nodes.length∧cn 0 t.nodes (List.replicate t.nodes.length false)=cn x.1 (t.nodes.drop x.1) x.2) (fun x=>[(28,InD x.1)]) (fun x=>[(1,.ro 0 4 1 (bsF x.2))]) (fun _=>(boF (au t),true)) (0,List.replicate t.nodes.length false) ⟨by simp,by simp,rfl⟩ rfl rfl ?_ ?_
 ·rw[show bsF (List.replicate t.nodes.length false)=List.replicate (List.map a8 t.nodes).length [boF false]by simp];rfl
 rintro G ⟨i,tk⟩ ih ⟨hi,htk,hT⟩
 dsimp only at hi htk hT ih ⊢
 repeat' first|exact k9|refine k2 ?_|apply kA|apply kI;intro hc|refine k8 ?_|apply kL;intro hl
 ·rename_i hx;exact⟨ht.nodes _ (List.getElem_mem hx)⟩
 ·rename_i hx;generalize hn:t.nodes[i]=n at *;have hkl:=(ht.nodes n (hn▸List.getElem_mem hx)).kids.1;simp only[dJ]at hkl;rw[List.drop_eq_getElem_cons hx,hn,cn,if_pos hc]at hT;apply kCt [1,3,4,26,27,28,40,41,42] [];conv=>whnf
  refine Lp.ind (fun x:Nat×List Bool=>n.kids.length-x.1) (fun x=>x.1≤n.kids.length∧x.2.length=t.nodes.length∧b4 i n.kids tk=b4 i (n.kids.drop x.1) x.2) (fun x=>[(42,InD x.1)]) (fun x=>[(1,.ro 0 4 1 (bsF x.2))]) (fun _=>(boF (au t),true)) (0,tk) ⟨by simp,htk,rfl⟩ rfl rfl rfl ?_
  rintro G' ⟨j,tk'⟩ ih' ⟨hj,htk',hK⟩
  dsimp only at hj htk' hK ih' ⊢;have hno:∀h:j<n.kids.length,(n.kids[j]<0∨(i:Int)≤n.kids[j]∨tk'.getD n.kids[j].toNat false=true)→au t=false:=by
   intro h hh;rw[List.drop_eq_getElem_cons h,yA hh]at hK;exact uv (by rw[hT,hK];rfl)
  repeat' first|exact k9|refine k2 ?_|apply kA|apply kI;intro hc|refine k8 ?_|apply kL;intro hl
  ·exact aq.b (hno (by omega) (.inl hc)).symm rfl
  ·exact aq.b (hno (by omega) (.inr (.inl hc))).symm rfl
  ·have h1:n.kids[j].toNat<tk'.length:=by omega
   exact aq.b (hno (by omega) (.inr (.inr (by rw[List.getD_eq_getElem?_getD,List.getElem?_eq_getElem h1];exact hc)))).symm rfl
  ·have hjl:j<n.kids.length:=by omega
   have h1:n.kids[j].toNat<tk'.length:=by omega
   apply kCt [1,3,4,26,27,28,40,41,42] [];conv=>whnf
   refine ih' (j+1,tk'.set n.kids[j].toNat true) _ _ _ (by dsimp only;omega) ⟨by dsimp only;omega,by simp[htk'],?_⟩ rfl rfl (by simp only[bsF,List.map_set];rfl);rw[hK,List.drop_eq_getElem_cons hjl,wO];rw[List.getD_eq_getElem?_getD,List.getElem?_eq_getElem h1]
   rintro(h|h|h)
   ·omega
   ·omega
   ·rw[show(some tk'[n.kids[j].toNat]).getD false=tk'[n.kids[j].toNat]from rfl,hc]at h
    cases h
  ·apply kCt [1,3,26,27,28] [];conv=>whnf
   rw[List.drop_of_length_le (by omega)]at hK;refine ih (i+1,tk') _ _ _ (by dsimp only;omega) ⟨by dsimp only;omega,htk',?_⟩ rfl rfl rfl;rw[hT,hK];rfl
 ·rename_i hx;refine aq.b ?_ rfl;rw[uv];rw[hT,List.drop_eq_getElem_cons hx,cn,if_neg (by rw[hc];decide)]
 ·rw[List.drop_of_length_le (by omega)]at hT;have hR:=Bf hT h0 (by omega);apply kCt [1,64,65,66] [];conv=>whnf
  refine Lp.ind (fun x:Nat=>t.nodes.length-x) (fun x=>x≤t.nodes.length∧∀y,y<x→(tk.getD y false==decide ((y:Int)=t.root))=false) (fun x=>[(66,InD x)]) (fun x=>[]) (fun _=>(boF (au t),true)) 0 ⟨by simp,by simp⟩ rfl rfl rfl ?_
  rintro G' j ih' ⟨hj,hA⟩
  repeat' first|exact k9|refine k2 ?_|apply kA|apply kI;intro hc|refine k8 ?_|apply kL;intro hl
  ·have h1:j<tk.length:=by omega
   refine aq.b ?_ rfl;rw[hR,eq_comm,List.all_eq_false];refine⟨j,by simp;omega,?_⟩;rw[List.getD_eq_getElem?_getD,List.getElem?_eq_getElem h1];rw[dO]at hc
   revert hc
   show qt tk[j] _=true→¬(!(tk[j]==_))=true
   cases tk[j]<;>cases decide ((j:Int)=t.root)<;>simp[qt]
  ·have h1:j<tk.length:=by omega
   apply kCt [1,64,65,66] [];conv=>whnf
   refine ih' (j+1) _ _ _ (by omega) ⟨by omega,fun y hy=>?_⟩ rfl rfl rfl;rcases Nat.lt_or_ge y j with h|h
   ·exact hA y h
   ·have:y=j:=by omega
    subst this;rw[List.getD_eq_getElem?_getD,List.getElem?_eq_getElem h1];rw[dO]at hc
    revert hc
    show qt tk[y] _=false→(tk[y]==_)=false
    cases tk[y]<;>cases decide ((y:Int)=t.root)<;>simp[qt]
  ·refine aq.b ?_ rfl;rw[hR,eq_comm,List.all_eq_true];intro y hy;rw[hA y (by simp at hy;omega)];rfl⟩
set_option maxRecDepth 100000
set_option maxHeartbeats 0
instance(t:Tre):C 36 [aE t] (inF (lh t)) true t.wf:=⟨fun ht=>by
 refine kf rfl rfl ?_;repeat' first|exact k9|refine k2 ?_|apply kA|apply kI;intro hc|refine k8 ?_|apply kL;intro hl
 all_goals(refine aq.n ?_ rfl;simp[lh,hc])⟩
instance(k a b c d:Int)(s:ByteArray)(x y:Int):C 53 [.ag [byF k,.vl (.int .u64 a),.vl (.int .u64 b),.vl (.int .u64 c),.vl (.int .u64 d),stF s,inF x,inF y,.sl []]] (aE (qO ⟨k,⟨a,b,c,d⟩,s,x,y,[]⟩)) false True:=⟨fun _=>by
 refine kf rfl rfl ?_;repeat' first|exact k9|refine k2 ?_|apply kA|apply kI;intro hc|refine k8 ?_|apply kL;intro hl
 exact aq.i rfl⟩
instance:C 73 [] (aE (qO dN)) false True:=⟨fun _=>by
 refine kf rfl rfl ?_;repeat' first|exact k9|refine k2 ?_|apply kA|apply kI;intro hc|refine k8 ?_|apply kL;intro hl
 exact aq.i rfl⟩
instance(a b c d:Int):C 38 [.ag [.vl (.int .u64 a),.vl (.int .u64 b),.vl (.int .u64 c),.vl (.int .u64 d)]] (aE (qO ⟨1,⟨a,b,c,d⟩,⟨#[]⟩,0,0,[]⟩)) false True:=⟨fun _=>by
 refine kf rfl rfl ?_;repeat' (first|exact k9|refine k2 ?_|apply kA|apply kI;intro hc|refine k8 ?_|apply kL;intro hl)⟩
instance(s:ByteArray):C 24 [stF s] (aE (qO ⟨2,.zero,s,0,0,[]⟩)) false True:=⟨fun _=>by
 refine kf rfl rfl ?_;repeat' first|exact k9|refine k2 ?_|apply kA|apply kI;intro hc|refine k8 ?_|apply kL;intro hl
 exact aq.i rfl⟩
theorem room{ch:Int→List Int}{n:Nat}{node:Int}{op out:List Int}(hn:0<n)(hN:(dfs ch n [node]).length≤17592186044416)(he:out++dfs (en ch) n op.reverse=dfs (en ch) n [node]):out.length+op.length≤17592186044416:=by
 have h1:=dp (ch:=en ch) n op.reverse hn;have h2:=congrArg List.length he;rw[ew n [node],List.length_append]at h2;simp at h1;omega
structure w9{α:Type}(out cur:List α)(k:Nat):Prop where
 len:cur.length=out.length
 at_:∀j,j<out.length→cur[j]?=if j<k∨out.length≤j+k then out[out.length-1-j]? else out[j]?
theorem w9.zero{α:Type}(out:List α):w9 out out 0:=⟨rfl,fun j hj=>by rw[if_neg (by omega)]⟩
theorem w9.done{α:Type}{out cur:List α}{k:Nat}(h:w9 out cur k)(hk:out.length≤2*k+1):cur=out.reverse:=by
 apply List.ext_getElem?;intro j;rcases Nat.lt_or_ge j out.length with hj|hj
 ·rw[h.at_ j hj,List.getElem?_reverse hj]
  split
  ·rfl
  ·have:out.length-1-j=j:=by omega
   rw[this]
 ·rw[List.getElem?_eq_none (by rw[h.len];exact hj),List.getElem?_eq_none (by simpa using hj)]
theorem w9.step{α:Type}{out cur:List α}{k:Nat}(h:w9 out cur k)(hk:2*k+1<out.length){x y:α}(hx:cur[k]?=some x)(hy:cur[out.length-1-k]?=some y):w9 out ((cur.set k y).set (out.length-1-k) x) (k+1):=by
 refine⟨by simp[h.len],fun j hj=>?_⟩;have hl:=h.len;rw[h.at_ k (by omega),if_neg (by omega)]at hx;rw[h.at_ _ (by omega),if_neg (by omega)]at hy
 by_cases e:out.length-1-k=j
 ·subst e;rw[List.getElem?_set_self (by simp;omega),if_pos (by omega),show out.length-1-(out.length-1-k)=k by omega,hx]
 ·rw[List.getElem?_set_ne e]
  by_cases e2:k=j
  ·subst e2;rw[List.getElem?_set_self (by omega),if_pos (by omega),hy]
  ·rw[List.getElem?_set_ne e2,h.at_ j hj]
   by_cases c:j<k∨out.length≤j+k
   ·rw[if_pos c,if_pos (by omega)]
   ·rw[if_neg c,if_neg (by omega)]
instance(t:Tre)(node:Int):C 103 [aE t,inF node] (isF (aT t node)) true (t.wf∧av t∧0≤node∧node<t.nodes.length):=⟨fun h=>by
 obtain⟨ht,hR,h0,hn⟩:=h;have hlen:=ht.len;simp only[bY]at hlen;refine kf rfl rfl ?_;repeat' first|exact k9|refine k2 ?_|apply kA|apply kI;intro hc|refine k8 ?_|apply kL;intro hl
 apply Stp.on;obtain⟨nd,rfl⟩:∃nd:Nat,node=nd:=⟨node.toNat,by omega⟩
 have hnl:nd<t.nodes.length:=by omega
 have hch:=hR.kok.ae;have hN:=fA hR h0 hn;have hkl:=(ht.nodes _ (List.getElem_mem hnl)).kids.1;simp only[dJ]at hkl
 repeat' first|exact k9|refine k2 ?_|apply kA|apply kI;intro hc|refine k8 ?_|apply kL;intro hl
 have hkn:t.nodes[nd].kids=ae t.nodes nd:=aF (List.getElem?_eq_getElem hnl);apply kCt [2,5,6] [];conv=>whnf
 refine Lp.ind (fun x:List Int×List Int=>(dfs (en (ae t.nodes)) t.nodes.length x.1.reverse).length) (fun x=>(∀k∈x.1,0≤k∧k<t.nodes.length)∧x.2++dfs (en (ae t.nodes)) t.nodes.length x.1.reverse=dfs (en (ae t.nodes)) t.nodes.length [(nd:Int)]) (fun _=>[])
  (fun x=>[(1,.ro 0 3 1 (x.2.map ikF)),(2,.ro 0 3 1 (x.1.map ikF))]) (fun _=>(isF (aT t nd),true)) (t.nodes[nd].kids,[(nd:Int)]) ⟨?_,?_⟩ rfl rfl rfl ?_
 ·dsimp only;intro k hk;rw[hkn]at hk;have:=hch nd k hk;omega
 ·dsimp only;rw[aQ hch.rev (by omega) (by omega),hkn,bK,List.append_nil];rfl
 rintro G ⟨op,out⟩ ih ⟨hop,he⟩
 dsimp only at hop he ih ⊢;have hrm:=room (node:=(nd:Int)) (by omega) (by rw[aT,(cV _ _ _).length_eq]at hN;omega) he;rcases bQ op with rfl|⟨init,x,rfl⟩
 ·repeat' first|exact k9|refine k2 ?_|apply kA|apply kI;intro hc|refine k8 ?_|apply kL;intro hl
  have hb:aT t nd=out.reverse:=by
   simp only[List.reverse_nil,bK,List.append_nil]at he;rw[he,aT,show[(nd:Int)]=[(nd:Int)].reverse from rfl,pr];rfl
  apply kCt [0,2,3] [5];conv=>whnf
  refine Lp.ind (fun x:Nat×List Int=>out.length-x.1) (fun x=>w9 out x.2 x.1∧2*x.1≤out.length+1) (fun x=>[(2,InD x.1),(3,InD ((out.length:Int)-1-x.1))]) (fun x=>[(0,.ro 0 3 1 (x.2.map ikF))]) (fun _=>(isF (aT t nd),true)) (0,out) ⟨.zero out,by simp⟩ rfl ?_ rfl ?_
  ·simp only[List.length_map,Int.sub_zero,Int.natCast_zero];rfl
  rintro G' ⟨k,cur⟩ ih' ⟨hI,hk⟩
  dsimp only at hI hk ih' ⊢;have hcl:=hI.len
  repeat' first|exact k9|refine k2 ?_|apply kA|apply kI;intro hc|refine k8 ?_|apply kL;intro hl
  ·have h1:k<cur.length:=by omega
   have h2:out.length-1-k<cur.length:=by omega
   have e:((out.length:Int)-1-k).toNat=out.length-1-k:=by omega
   apply kCt [0,2,3] [5];conv=>whnf
   refine ih' (k+1,(cur.set k cur[out.length-1-k]).set (out.length-1-k) cur[k]) _ _ _ (by dsimp only;omega) ⟨hI.step (by omega) (List.getElem?_eq_getElem h1) (List.getElem?_eq_getElem h2),by dsimp only;omega⟩ rfl ?_ ?_
   ·dsimp only;rw[show(out.length:Int)-1-((k+1:Nat):Int)=out.length-1-k-1 by omega];rfl
   ·simp only[List.map_set,e];rfl
  ·have hcur:=hI.done (by omega);subst hcur;refine aq.j ?_ ?_
   ·rw[hb]
   ·simp only[cN,oK,lk,Nat.beq,cond_true];simp[F.flat,F.flat.lu]
 ·have hx:=hop x (by simp);obtain⟨i,rfl⟩:∃i:Nat,x=i:=⟨x.toNat,by omega⟩
  have hlast:∀h,(init++[(i:Int)])[((List.map ikF (init++[(i:Int)])).length-1:Int).toNat]'h=(i:Int):=by
   intro h;simp[List.getElem_append]
  have hil:i<t.nodes.length:=by omega
  have hkn2:t.nodes[i].kids=ae t.nodes i:=aF (List.getElem?_eq_getElem hil);have hkl2:=(ht.nodes _ (List.getElem_mem hil)).kids.1;simp only[dJ]at hkl2;rw[List.reverse_append,List.reverse_singleton,List.singleton_append,aQ hch.rev (by omega) (by omega)]at he;have hE:(init++t.nodes[i].kids).reverse=en (ae t.nodes) i++init.reverse:=by
   rw[List.reverse_append,hkn2];rfl
  have he2:(out++[(i:Int)])++dfs (en (ae t.nodes)) t.nodes.length (init++t.nodes[i].kids).reverse=dfs (en (ae t.nodes)) t.nodes.length [(nd:Int)]:=by
   rw[hE,bp,List.append_assoc];exact he
  have hrm2:=room (node:=(nd:Int)) (by omega) (by rw[aT,(cV _ _ _).length_eq]at hN;omega) he2;simp only[List.length_append,List.length_cons,List.length_nil]at hrm hrm2
  repeat' first|exact k9|refine k2 ?_|apply kA|apply kI;intro hc|apply kL;intro hl|((rw[hlast])<;>conv=>whnf)|refine k8 ?_|fail
  apply kCt [2,5,6] [];conv=>whnf
  refine ih (init++t.nodes[i].kids,out++[(i:Int)]) _ _ _ ?_ ⟨?_,?_⟩ rfl rfl ?_
  ·dsimp only;rw[hE,List.reverse_append,List.reverse_singleton,List.singleton_append,aQ hch.rev (by omega) (by omega),bp];simp
  ·intro k hk;rcases List.mem_append.1 hk with hk|hk
   ·exact hop k (by simp[hk])
   ·rw[hkn2]at hk;have:=hch i k hk;omega
  ·exact he2
  ·dsimp only;rw[show List.map ikF (init++t.nodes[i].kids)=List.take ((List.map ikF (init++[(i:Int)])).length-1:Int).toNat (List.map ikF (init++[(i:Int)]))++List.map ikF t.nodes[i].kids from by simp[List.take_append],show List.map ikF (out++[(i:Int)])=List.map ikF out++[ikF i]from by simp];rfl⟩
set_option maxRecDepth 100000
set_option maxHeartbeats 0
theorem om{α:Type}{xs ys:List α}(h:xs.length=ys.length):List.take ys.length xs++List.drop xs.length ys=xs:=by
 rw[List.take_of_length_le (by omega),List.drop_of_length_le (by omega),List.append_nil]
def dI{α:Type}(f:α→α)(i:Nat)(l:List α):List α:=(l.take i).map f++l.drop i
theorem qy{α:Type}(f:α→α)(i:Nat)(l:List α):(dI f i l).length=l.length:=by
 simp[dI];omega
theorem m6{α:Type}(f:α→α)(l:List α):dI f 0 l=l:=by simp[dI]
theorem qg{α:Type}(f:α→α){i:Nat}{l:List α}(h:l.length≤i):dI f i l=l.map f:=by simp[dI,List.take_of_length_le h,List.drop_of_length_le h]
theorem p9{α:Type}(f:α→α){i:Nat}{l:List α}(h:i<l.length)(hz0:i<(dI f i l).length):(dI f i l)[i]'hz0=l[i]:=by
 simp only[dI];rw[List.getElem_append_right (by simp;omega)];simp[Nat.min_eq_left (Nat.le_of_lt h)]
theorem qi{α:Type}(f:α→α){i:Nat}{l:List α}(h:i<l.length):(dI f i l).set i (f l[i])=dI f (i+1) l:=by
 have e:i-((l.take i).map f).length=0:=by simp;omega
 have e2:(l.take (i+1)).map f=(l.take i).map f++[f l[i]]:=by
  rw[List.take_succ,List.getElem?_eq_getElem h,List.map_append];rfl
 simp only[dI];rw[List.drop_eq_getElem_cons h,List.set_append_right _ _ (by simp;omega),e,List.set_cons_zero,e2,List.append_assoc];rfl
def xo(d:Int)(n:Nod):Nod:={ n with kids:=n.kids.map (· + d) }
instance(ns:List Nod)(d:Int):C 118 [.sl (ns.map a8),inF d] (.sl ((bo ns d).map a8)) false (ns.length≤1466015503701∧(∀n∈ns,n.wf)∧(∀n∈ns,∀k∈n.kids,-9223372036854775808≤k+d∧k+d≤9223372036854775807)):=⟨fun h=>by
 obtain⟨hlen,hw,hk⟩:=h;refine kf rfl rfl ?_;repeat' first|exact k9|refine k2 ?_|apply kA|apply kI;intro hc|refine k8 ?_|apply kL;intro hl
 apply kCt [1,5,16,17,18] [];conv=>whnf
 refine Lp.ind (fun x:Nat=>ns.length-x) (fun x=>x≤ns.length) (fun x=>[(17,InD ns.length),(18,InD x)]) (fun x=>[(0,.ro 0 46 9 ((dI (xo d) x ns).map a8))]) (fun _=>(.sl ((bo ns d).map a8),false)) 0 (by simp) rfl ?_ ?_ ?_
 ·simp only[List.length_append,List.length_take,List.length_drop,List.length_replicate,List.length_map,Nat.min_self,Nat.sub_self,Nat.add_zero];rfl
 ·rw[m6,om (by simp)];rfl
 rintro G i ih hi
 by_cases hx:i<ns.length
 ·obtain⟨n,hn⟩:=exEq (ns[i]);have hci:∀h,(dI (xo d) i ns)[i]'h=n:=fun h=>by rw[hn];exact p9 _ hx h
  have hkl:n.kids.length≤17592186044416:=by rw[hn];exact(hw _ (List.getElem_mem hx)).kids.1
  have hkk:∀k∈n.kids,-9223372036854775808≤k+d∧k+d≤9223372036854775807:=by rw[hn];exact hk _ (List.getElem_mem hx)
  have hfin:(dI (xo d) i ns).set i (xo d n)=dI (xo d) (i+1) ns:=by rw[hn];exact qi _ hx
  have hcl:=qy (xo d) i ns;generalize dI (xo d) i ns=cur at *
  repeat' first|exact k9|refine k2 ?_|apply kA|apply kI;intro hc|apply kL;intro hl|((simp only[hci])<;>conv=>whnf)|refine k8 ?_|fail
  ·have hn0:n.kids=[]:=List.eq_nil_of_length_eq_zero (by simp only[hci]at hc;omega);apply kCt [1,5,16,17,18] [];conv=>whnf
   refine ih (i+1) _ _ _ (by omega) (by omega) rfl rfl ?_;rw[←hfin,List.map_set,show xo d n={ n with kids:=[] }by simp[xo,hn0]];rfl
  ·apply kCt [1,5,6,8,16,17,18,40,41] [];conv=>whnf
   refine Lp.ind (fun x:Nat=>n.kids.length-x) (fun x=>x≤n.kids.length) (fun x=>[(40,InD n.kids.length),(41,InD x)]) (fun x=>[(1,.ro 0 3 1 ((dI (· + d) x n.kids).map ikF))]) (fun _=>(.sl ((bo ns d).map a8),false)) 0 (by simp) rfl ?_ ?_ ?_
   ·rw[om (by simp),List.length_map];rfl
   ·rw[m6,om (by simp)];rfl
   rintro G' j ih' hj
   by_cases hy:j<n.kids.length
   ·have hcj:∀h,(dI (· + d) j n.kids)[j]'h=n.kids[j]:=fun h=>p9 _ hy h
    have hkj:=hkk _ (List.getElem_mem hy);have hfj:=qi (· + d) hy;have hcm:=qy (· + d) j n.kids;generalize dI (· + d) j n.kids=cur' at *
    repeat' first|exact k9|refine k2 ?_|apply kA|apply kI;intro hc|apply kL;intro hl|((simp only[hcj])<;>conv=>whnf)|refine k8 ?_|fail
    apply kCt [1,5,6,8,16,17,18,40,41] [];conv=>whnf
    refine ih' (j+1) _ _ _ (by omega) (by omega) rfl rfl ?_;rw[←hfj,List.map_set];rfl
   ·rw[qg _ (by omega)]
    repeat' first|exact k9|refine k2 ?_|apply kA|apply kI;intro hc|refine k8 ?_|apply kL;intro hl
    apply kCt [1,5,16,17,18] [];conv=>whnf
    refine ih (i+1) _ _ _ (by omega) (by omega) rfl rfl ?_;rw[←hfin,List.map_set,List.set_set];rfl
 ·rw[qg _ (by omega)]
  repeat' first|exact k9|refine k2 ?_|apply kA|apply kI;intro hc|refine k8 ?_|apply kL;intro hl
  exact aq.i rfl⟩
instance(t:Tre)(node:Int):C 57 [aE t,inF node] (aE (aD t node)) false (t.wf∧av t∧0≤node∧node<t.nodes.length):=⟨fun h=>by
 obtain⟨ht,hR,h0,hn⟩:=h;have hlen:=ht.len;simp only[bY]at hlen;have hN:=fA hR h0 hn;refine kf rfl rfl ?_;repeat' first|exact k9|refine k2 ?_|apply kA|apply kI;intro hc|refine k8 ?_|apply kL;intro hl
 apply kCt [2,4,6,7,24,25,26] [];conv=>whnf
 have hmem:=sG hR h0 hn;have htot:aD t node=⟨a9 t.nodes 0 (List.replicate t.nodes.length 0) (aT t node),(aT t node).length-1⟩:=rfl;generalize hl:aT t node=l at *;refine Lp.ind (fun x:Nat×List Int×List Nod=>l.length-x.1) (fun x=>x.1≤l.length∧x.2.1.length=t.nodes.length∧x.2.2.length=x.1∧x.2.2++a9 t.nodes x.1 x.2.1 (l.drop x.1)=(aD t node).nodes) (fun x=>[(26,InD x.1)])
  (fun x=>[(2,.ro 0 3 1 (x.2.1.map ikF)),(3,.ro 0 46 9 (x.2.2.map a8))]) (fun _=>(aE (aD t node),false)) (0,List.replicate t.nodes.length 0,[]) ⟨by simp,by simp,rfl,by rw[htot];rfl⟩ rfl rfl ?_ ?_
 ·rw[show(List.replicate t.nodes.length (0:Int)).map ikF=List.replicate (t.nodes.map a8).length (ikF 0)by simp];rfl
 rintro G ⟨i,pl,acc⟩ ih ⟨hi,hpl,hac,hT⟩
 dsimp only at hi hpl hac hT ih ⊢
 by_cases hx:i<l.length
 ·obtain⟨k,hk⟩:∃k:Nat,l[i]=k:=⟨l[i].toNat,by have:=hmem _ (List.getElem_mem hx);omega⟩
  have hkn:k<t.nodes.length:=by have:=hmem _ (List.getElem_mem hx);omega
  have hli:∀h,l[i]'h=(k:Int):=fun _=>hk
  obtain⟨n,hnk⟩:=exEq (t.nodes[k]);have hni:∀h,t.nodes[k]'h=n:=fun _=>hnk.symm
  have hkl:n.kids.length≤17592186044416:=by rw[hnk];exact(ht.nodes _ (List.getElem_mem hkn)).kids.1
  have hkw:∀x∈n.kids,0≤x∧x<t.nodes.length:=by
   intro x hxk;have:=hR.kok k n (by rw[hnk];exact List.getElem?_eq_getElem hkn) x hxk;omega
  rw[List.drop_eq_getElem_cons hx,a9,hk,Int.toNat_natCast,List.getD_eq_getElem?_getD,List.getElem?_eq_getElem hkn,←hnk]at hT;simp only[Option.getD_some]at hT;have hps:(pl.set k (i:Int)).length=t.nodes.length:=by simp[hpl]
  have hpe:List.map ikF (pl.set k (i:Int))=(List.map ikF pl).set k (ikF i):=by rw[List.map_set]
  repeat' first|exact k9|refine k2 ?_|apply kA|apply kI;intro hc|apply kL;intro hl|((simp only[hli,Int.toNat_natCast])<;>conv=>whnf)|((simp only[hni])<;>conv=>whnf)|refine k8 ?_|fail
  ·apply kCt [2,4,6,7,10,11,24,25,26,52,53,54] [];conv=>whnf
   refine Lp.ind (fun x:Nat=>n.kids.length-x) (fun x=>x≤n.kids.length) (fun x=>[(53,InD n.kids.length),(54,InD x)]) (fun x=>[(2,.ro 0 3 1 ((pl.set k (i:Int)).map ikF)),(5,.ro 0 3 1 ((dI (fun x=>(pl.set k (i:Int)).getD x.toNat 0) x n.kids).map ikF))]) (fun _=>(aE (aD t node),false)) 0 (by simp) rfl ?_ ?_ ?_
   ·rw[om (by simp),show(List.map ikF n.kids).length=n.kids.length from List.length_map ..];rfl
   ·rw[m6,om (by simp),hpe];rfl
   rintro G' j ih' hj
   by_cases hy:j<n.kids.length
   ·have hcj:∀h,(dI (fun x=>(pl.set k (i:Int)).getD x.toNat 0) j n.kids)[j]'h=n.kids[j]:=fun h=>p9 _ hy h
    have hkj:=hkw _ (List.getElem_mem hy);have hfj:=qi (fun x=>(pl.set k (i:Int)).getD x.toNat 0) hy;have hcm:=qy (fun x=>(pl.set k (i:Int)).getD x.toNat 0) j n.kids;generalize dI (fun x=>(pl.set k (i:Int)).getD x.toNat 0) j n.kids=cur' at *;have hg:(pl.set k (i:Int)).getD n.kids[j].toNat 0=(pl.set k (i:Int))[n.kids[j].toNat]'(by omega):=by
     rw[List.getD_eq_getElem?_getD,List.getElem?_eq_getElem (by omega)];rfl
    repeat' first|exact k9|refine k2 ?_|apply kA|apply kI;intro hc|apply kL;intro hl|((simp only[hcj])<;>conv=>whnf)|refine k8 ?_|fail
    apply kCt [2,4,6,7,10,11,24,25,26,52,53,54] [];conv=>whnf
    refine ih' (j+1) _ _ _ (by omega) (by omega) rfl rfl ?_;rw[←hfj,List.map_set (l:=cur'),hg];rfl
   ·rw[qg _ (by omega)]
    repeat' first|exact k9|refine k2 ?_|apply kA|apply kI;intro hc|refine k8 ?_|apply kL;intro hl
    apply kCt [2,4,6,7,24,25,26] [];conv=>whnf
    refine ih (i+1,pl.set k (i:Int),acc++[{ n with kids:=n.kids.map fun x=>(pl.set k (i:Int)).getD x.toNat 0 }]) _ _ _ (by dsimp only;omega) ⟨by dsimp only;omega,hps,by simp[hac],by simpa using hT⟩ rfl rfl ?_;rw[List.map_append];rfl
  ·apply Stp.on;have hn0:n.kids=[]:=List.eq_nil_of_length_eq_zero (by simp only[hli,Int.toNat_natCast,hni]at hc;omega)
   repeat' first|exact k9|refine k2 ?_|apply kA|apply kI;intro hc|refine k8 ?_|apply kL;intro hl
   apply kCt [2,4,6,7,24,25,26] [];conv=>whnf
   rw[hn0]at hT;refine ih (i+1,pl.set k (i:Int),acc++[{ n with kids:=[] }]) _ _ _ (by dsimp only;omega) ⟨by dsimp only;omega,hps,by simp[hac],by simpa using hT⟩ rfl rfl ?_;rw[List.map_append,hpe];rfl
 ·rw[List.drop_of_length_le (by omega),a9,List.append_nil]at hT
  repeat' first|exact k9|refine k2 ?_|apply kA|apply kI;intro hc|refine k8 ?_|apply kL;intro hl
  refine aq.i ?_;rw[show aE (aD t node)=F.ag [F.sl ((aD t node).nodes.map a8),inF ((aD t node).root)]from rfl,←hT,htot,List.length_map,show acc.length=l.length by omega]⟩
set_option maxRecDepth 100000
set_option maxHeartbeats 0
instance(t:Tre):C 117 [aE t] (aE (aJ t)) false t.wf:=⟨fun ht=>by
 refine kf rfl rfl ?_;repeat' first|exact k9|refine k2 ?_|apply kA|apply kI;intro hc|refine k8 ?_|apply kL;intro hl
 ·exact⟨ht,ao hc,(ao hc).root⟩
 ·exact aq.i (by rw[jU hc])
 ·exact aq.i (by rw[lM hc];rfl)⟩
def ke(t:Tre)(node:Int):Tre×Bool:=if au t=true∧0≤node∧node<t.nodes.length then(aD t node,true)else(.zero,false)
instance(t:Tre)(i:Int):C 140 [aE t,inF i] (.tp [aE (ke t i).1,boF (ke t i).2]) false t.wf:=⟨fun ht=>by
 refine kf rfl rfl ?_;repeat' first|exact k9|refine k2 ?_|apply kA|apply kI;intro hc|refine k8 ?_|apply kL;intro hl
 ·exact aq.i (by rw[ke,if_neg (by omega)];rfl)
 ·exact aq.i (by rw[ke,if_neg (by omega)];rfl)
 ·exact⟨ht,ao (by assumption),by omega,by omega⟩
 ·exact aq.i (by rw[ke,if_pos ⟨by assumption,by omega,by omega⟩])
 ·exact aq.i (by rw[ke,if_neg (by rw[hc];simp)];rfl)⟩
theorem Kl{α:Type}{a b:List α}{i:Nat}{ha:i<a.length}{hb:i<b.length}(h:a[i]≠b[i]):a≠b:=by
 rintro rfl
 exact h rfl
theorem De{α:Type}{a b:List α}{i:Nat}(h:a.take i=b.take i)(ha:i<a.length)(hb:i<b.length)(e:a[i]=b[i]):a.take (i+1)=b.take (i+1):=by
 rw[List.take_succ,List.take_succ,h,List.getElem?_eq_getElem ha,List.getElem?_eq_getElem hb,e]
theorem yp{α:Type}{a b:List α}{i:Nat}(h:a.take i=b.take i)(ha:a.length≤i)(hb:b.length≤i):a=b:=by
 rwa [List.take_of_length_le ha,List.take_of_length_le hb]at h
def gj(D:List Int)(d:Int)(m:Nat):List Int:=D++d::List.replicate m 0
theorem Hf(D:List Int)(d:Int)(m:Nat):(gj D d m).length=D.length+m+1:=by simp[gj];omega
theorem IH{D:List Int}{d:Int}{m i:Nat}(e:D.length=i)(h:i<(gj D d m).length):(gj D d m)[i]'h=d:=by
 subst e;simp[gj]
theorem Jt{D:List Int}{d:Int}{m k:Nat}(e:k<D.length)(h:k<(gj D d m).length):(gj D d m)[k]'h=D.getD k 0:=by
 simp[gj,List.getElem_append,e]
theorem ze{D:List Int}{d y:Int}{m i:Nat}(e:D.length=i):(gj D d m).set i y=gj D y m:=by
 subst e;simp[gj]
theorem I5(a b:Int):(bif leI a b then b else a)=max a b:=by
 rw[dM]
 by_cases h:a≤b
 ·rw[decide_eq_true h];simp only[cond_true];omega
 ·rw[decide_eq_false h];simp only[cond_false];omega
theorem Nod.G8{n m:Nod}:n=m↔n.kind=m.kind∧n.set=m.set∧n.text=m.text∧n.min=m.min∧n.max=m.max∧n.kids=m.kids:=by
 cases n;cases m;simp
theorem Bts.G8{a b:Bts}:a=b↔[a.a,a.b,a.c,a.d]=[b.a,b.b,b.c,b.d]:=by
 cases a;cases b;simp
instance(a b:List Int):C 104 [isF a,isF b] (boF (decide (a=b))) true (a.length≤17592186044416∧b.length≤17592186044416):=⟨fun h=>by
 obtain⟨h1,h2⟩:=h;refine kf rfl rfl ?_;repeat' first|exact k9|refine k2 ?_|apply kA|apply kI;intro hc|refine k8 ?_|apply kL;intro hl
 ·have hab:a.length=b.length:=by omega
  apply kCt [0,1,12,13] [];conv=>whnf
  refine Lp.ind (fun x:Nat=>a.length-x) (fun x=>x≤a.length∧a.take x=b.take x) (fun x=>[(13,InD x)]) (fun _=>[]) (fun _=>(boF (decide (a=b)),true)) 0 ⟨by simp,by simp⟩ rfl rfl rfl ?_
  rintro G i ih ⟨hi,hT⟩
  repeat' first|exact k9|refine k2 ?_|apply kA|apply kI;intro hc|refine k8 ?_|apply kL;intro hl
  ·apply kCt [0,1,12,13] [];conv=>whnf
   exact ih (i+1) _ _ _ (by omega) ⟨by omega,De hT (by omega) (by omega) hc⟩ rfl rfl rfl
  ·exact aq.b (by rw[decide_eq_false (Kl hc)]) rfl
  ·exact aq.b (by rw[decide_eq_true (yp hT (by omega) (by omega))]) rfl
 ·exact aq.b (by rw[decide_eq_false (fun e=>by rw[e]at hc;omega)]) rfl⟩
instance(a b:Nod):C 58 [.ag (a8 a),.ag (a8 b)] (boF (decide (a=b))) true (a.wf∧b.wf):=⟨fun h=>by
 have ha:=h.1.kids.1;have hb:=h.2.kids.1;simp only[dJ]at ha hb;refine kf rfl rfl ?_;repeat' first|exact k9|refine k2 ?_|apply kA|apply kI;intro hc|refine k8 ?_|apply kL;intro hl
 all_goals(refine aq.b ?_ rfl;rw[Bool.eq_iff_iff];simp_all [Nod.G8,Bts.G8])⟩
instance(a b:List Nod):C 56 [.sl (a.map a8),.sl (b.map a8),.cl 58 []] (boF (decide (a=b))) true ((a.length≤1466015503701∧∀n∈a,n.wf)∧(b.length≤1466015503701∧∀n∈b,n.wf)):=⟨fun h=>by
 obtain⟨⟨h1,w1⟩,h2,w2⟩:=h;refine kf rfl rfl ?_;repeat' first|exact k9|refine k2 ?_|apply kA|apply kI;intro hc|refine k8 ?_|apply kL;intro hl
 ·have hab:a.length=b.length:=by omega
  apply kCt [1,2,15,16,17] [];conv=>whnf
  refine Lp.ind (fun x:Nat=>a.length-x) (fun x=>x≤a.length∧a.take x=b.take x) (fun x=>[(17,InD x)]) (fun _=>[]) (fun _=>(boF (decide (a=b)),true)) 0 ⟨by simp,by simp⟩ rfl rfl rfl ?_
  rintro G i ih ⟨hi,hT⟩
  repeat' first|exact k9|refine k2 ?_|apply kA|apply kI;intro hc|refine k8 ?_|apply kL;intro hl
  ·exact⟨w1 _ (List.getElem_mem _),w2 _ (List.getElem_mem _)⟩
  ·apply kCt [1,2,15,16,17] [];conv=>whnf
   exact ih (i+1) _ _ _ (by omega) ⟨by omega,De hT (by omega) (by omega) hc⟩ rfl rfl rfl
  ·exact aq.b (by rw[decide_eq_false (Kl hc)]) rfl
  ·exact aq.b (by rw[decide_eq_true (yp hT (by omega) (by omega))]) rfl
 ·exact aq.b (by rw[decide_eq_false (fun e=>by rw[e]at hc;omega)]) rfl⟩
instance(a b:Tre):C 29 [aE a,aE b] (boF (Dm a b)) true (a.wf∧b.wf):=⟨fun h=>by
 obtain⟨ha,hb⟩:=h;refine kf rfl rfl ?_;repeat' first|exact k9|refine k2 ?_|apply kA|apply kI;intro hc|refine k8 ?_|apply kL;intro hl
 ·exact⟨ha,ao (by assumption),(ao (by assumption)).root⟩
 ·exact⟨hb,ao (by assumption),(ao (by assumption)).root⟩
 ·rename_i h1;have ra:=ao h1;have rb:=ao hc;have wa:=(gH ha ra ra.root.1 ra.root.2).1;have wb:=(gH hb rb rb.root.1 rb.root.2).1;exact⟨⟨wa.len,wa.nodes⟩,wb.len,wb.nodes⟩
 all_goals(refine aq.b ?_ rfl;simp_all [Dm])
 all_goals try omega⟩
instance(t:Tre):C 136 [aE t] (inF (nC t)) true t.wf:=⟨fun ht=>by
 have hlen:=ht.len;simp only[bY]at hlen;refine kf rfl rfl ?_;repeat' first|exact k9|refine k2 ?_|apply kA|apply kI;intro hc|refine k8 ?_|apply kL;intro hl
 ·have hR:=ao hc;have hP:nC t=(mU t.nodes []).getD t.root.toNat 0:=by rw[nC,if_pos hc]
  apply kCt [1,3,16,17,18] [];conv=>whnf
  refine Lp.ind (fun x:Nat×List Int=>t.nodes.length-x.1) (fun x=>x.1≤t.nodes.length∧x.2.length=x.1∧(∀y∈x.2,0≤y∧y≤x.1)∧mU t.nodes []=mU (t.nodes.drop x.1) x.2) (fun x=>[(18,InD x.1)]) (fun x=>[(1,.ro 0 3 1 ((x.2++List.replicate (t.nodes.length-x.1) 0).map ikF))]) (fun _=>(inF (nC t),true)) (0,[]) ⟨by simp,rfl,by simp,rfl⟩ rfl rfl ?_ ?_
  ·simp only[List.nil_append,Nat.sub_zero];rw[show(List.replicate t.nodes.length (0:Int)).map ikF=List.replicate (t.nodes.map a8).length (ikF 0)by simp];rfl
  rintro G ⟨i,L⟩ ih ⟨hi,hD,hb,hT⟩
  dsimp only at hi hD hb hT ih ⊢
  by_cases hx:i<t.nodes.length
  ·obtain⟨n,hn⟩:=exEq (t.nodes[i]);have hni:∀h,t.nodes[i]'h=n:=fun _=>hn.symm
   have hkl:n.kids.length≤17592186044416:=by rw[hn];exact(ht.nodes _ (List.getElem_mem hx)).kids.1
   obtain⟨m,hm⟩:∃m,t.nodes.length-i=m+1:=⟨t.nodes.length-i-1,by omega⟩
   rw[hm,show L++List.replicate (m+1) 0=gj L 0 m from rfl];rw[List.drop_eq_getElem_cons hx,←hn,mU]at hT;have hkw:∀x∈n.kids,0≤x∧x<i:=fun x hxk=>hR.kok i n (by rw[hn];exact List.getElem?_eq_getElem hx) x hxk
   repeat' first|exact k9|refine k2 ?_|apply kA|apply kI;intro hc|apply kL;intro hl|((simp only[hni])<;>conv=>whnf)|refine k8 ?_|fail
   apply kCt [1,3,4,16,17,18,24,25,26] [];conv=>whnf
   refine Lp.ind (fun x:Nat×Int=>n.kids.length-x.1) (fun x=>x.1≤n.kids.length∧0≤x.2∧x.2≤i∧jr L 0 n.kids=jr L x.2 (n.kids.drop x.1)) (fun x=>[(26,InD x.1)]) (fun x=>[(1,.ro 0 3 1 ((gj L x.2 m).map ikF))]) (fun _=>(inF (nC t),true)) (0,0) ⟨by simp,by simp,by simp,rfl⟩ rfl rfl rfl ?_
   rintro G' ⟨j,d⟩ ih' ⟨hj,hd0,hd1,hK⟩
   dsimp only at hj hd0 hd1 hK ih' ⊢;have hlr:=Hf L d m;have hai:∀h:i<(gj L d m).length,(gj L d m)[i]'h=d:=fun h=>IH hD h
   by_cases hy:j<n.kids.length
   ·have hkj:=hkw _ (List.getElem_mem hy);have hal:∀h:n.kids[j].toNat<(gj L d m).length,(gj L d m)[n.kids[j].toNat]'h=L.getD n.kids[j].toNat 0:=fun h=>Jt (by omega) h
    have hdb:0≤L.getD n.kids[j].toNat 0∧L.getD n.kids[j].toNat 0≤i:=by
     rw[List.getD_eq_getElem?_getD,List.getElem?_eq_getElem (by omega)];exact hb _ (List.getElem_mem _)
    rw[List.drop_eq_getElem_cons hy,jr]at hK;have hds:(gj L d m).set i (max d (L.getD n.kids[j].toNat 0))=gj L (max d (L.getD n.kids[j].toNat 0)) m:=ze hD;generalize gj L d m=cur at *
    repeat' first|exact k9|refine k2 ?_|apply kA|apply kI;intro hc|apply kL;intro hl|((simp only[hai,hal])<;>conv=>whnf)|refine k8 ?_|fail
    apply kCt [1,3,4,16,17,18,24,25,26] [];conv=>whnf
    refine ih' (j+1,max d (L.getD n.kids[j].toNat 0)) _ _ _ (by dsimp only;omega) ⟨by dsimp only;omega,by dsimp only;omega,by dsimp only;omega,hK⟩ rfl rfl ?_;dsimp only;rw[←hds,List.map_set,←I5];rfl
   ·rw[List.drop_of_length_le (by omega),jr]at hK;have hds:(gj L d m).set i (d+1)=gj L (d+1) m:=ze hD;generalize gj L d m=cur at *
    repeat' first|exact k9|refine k2 ?_|apply kA|apply kI;intro hc|apply kL;intro hl|((simp only[hai])<;>conv=>whnf)|refine k8 ?_|fail
    apply kCt [1,3,16,17,18] [];conv=>whnf
    refine ih (i+1,L++[d+1]) _ _ _ (by dsimp only;omega) ⟨by dsimp only;omega,by simp[hD],?_,by rw[hT,hK]⟩ rfl rfl ?_
    ·intro y hy;dsimp only at hy ⊢;rcases List.mem_append.1 hy with hy|hy
     ·have:=hb y hy;omega
     ·simp at hy;omega
    ·dsimp only;rw[show t.nodes.length-(i+1)=m by omega,show L++[d+1]++List.replicate m 0=gj L (d+1) m by simp[gj],←hds,List.map_set];rfl
  ·rw[List.drop_of_length_le (by omega),mU]at hT;rw[show t.nodes.length-i=0 by omega,List.replicate_zero,List.append_nil];have hrt:=hR.root;have hrl:t.root.toNat<L.length:=by omega
   repeat' first|exact k9|refine k2 ?_|apply kA|apply kI;intro hc|refine k8 ?_|apply kL;intro hl
   refine aq.n ?_ rfl;rw[hP,hT,List.getD_eq_getElem?_getD,List.getElem?_eq_getElem hrl];rfl
 ·exact aq.n (by rw[nC,if_neg (by rw[hc];decide)]) rfl⟩
instance(t:Tre):C 80 [aE t] (kF (aN t)) false t.wf:=⟨fun ht=>by
 have hlen:=ht.len;simp only[bY]at hlen;have hwx:=we ht
 cases hri:au t with
 |false=>
  have h1:=lM hri;have h2:aN t=[]:=by rw[aN,if_neg (by rw[hri];simp)]
  have h3:(aJ t).nodes.length=0:=by rw[h1];rfl
  refine kf rfl rfl ?_;repeat' first|exact k9|refine k2 ?_|apply kA|apply kI;intro hc|refine k8 ?_|apply kL;intro hl
  exact aq.i (by rw[h2];rfl)
 |true=>
  obtain⟨n,Fk,hF,hb,hf⟩:=fO (ao hri);have hsz:=fa (ao hri);have hk0:aN t=Fk.trees:=by rw[aN,if_pos hri,hF];rfl
  have hC:aJ t=cj (.cons n Fk .nil):=by rw[lq hri,hF]
  have hsz':Fk.size+1=t.nodes.length:=by rw[←hsz,hF];simp[Fo.size]
  have hl:(aJ t).nodes.length=Fk.size+1:=by rw[hC];show((Fo.cons n Fk .nil).ar 0).length=_;rw[Fo.bM];rfl
  have hroot:(aJ t).root=(Fk.size:Int):=by rw[hC];show(((Fk.size+1+0:Nat):Int)-1)=_;omega
  have hnod:(aJ t).nodes=Fk.ar 0++[{ n with kids:=Fk.bh 0 }]:=by rw[hC];show(Fo.cons n Fk .nil).ar 0=_;simp[Fo.ar]
  have hg:∀h:(aJ t).root.toNat<(aJ t).nodes.length,(aJ t).nodes[(aJ t).root.toNat]'h={ n with kids:=Fk.bh 0 }:=by
   intro h;simp only[hroot,Int.toNat_natCast,hnod];rw[List.getElem_append_right (by rw[Fo.bM];omega)];simp
  have htl:(Fk.bh 0).length=Fk.len:=Fo.fh Fk 0;have hls:=Fo.tQ Fk;have hround:∀(A:Fo) (m:Nod) (j r:Fo),A.app (.cons m j r)=Fk→A.len<Fk.len∧A.size+j.size+1≤Fk.size∧(∀h:A.len<(Fk.bh 0).length,(Fk.bh 0)[A.len]'h=((A.size+j.size:Nat):Int))∧
    ((aJ t).nodes.take (A.size+j.size+1)).drop A.size=(Fo.cons m j .nil).ar A.size∧bo ((Fo.cons m j .nil).ar A.size) (-(A.size:Int))=(cj (.cons m j .nil)).nodes∧(cj (.cons m j .nil)).root=(j.size:Int)∧(A.app (.cons m j .nil)).app r=Fk∧(A.app (.cons m j .nil)).trees=A.trees++[cj (.cons m j .nil)]:=by
   intro A m j r hAB;have e0:Fk.size=A.size+(j.size+1+r.size):=by rw[←hAB,Fo.bZ];rfl
   have e1:Fk.len=A.len+(r.len+1):=by rw[←hAB,Fo.dS];rfl
   refine⟨by omega,by omega,?_,?_,?_,?_,?_,?_⟩
   ·intro h;have hkk:(Fk.bh 0)[A.len]?=some ((A.size+j.size:Nat):Int):=by
     rw[←hAB,Fo.nY,List.getElem?_append_right (by rw[Fo.fh];omega),Fo.fh,Nat.sub_self,Nat.zero_add];rfl
    rw[List.getElem?_eq_getElem h]at hkk;exact Option.some.inj hkk
   ·have e2:(aJ t).nodes=A.ar 0++((Fo.cons m j .nil).ar A.size++(r.ar (A.size+j.size+1)++[{ n with kids:=Fk.bh 0 }])):=by
     rw[hnod,←hAB,Fo.wz,Nat.zero_add];simp[Fo.ar]
    rw[e2,List.drop_take,List.drop_append_of_le_length (by rw[Fo.bM];omega),List.drop_of_length_le (by rw[Fo.bM];omega),List.nil_append,List.take_append_of_le_length (by rw[Fo.bM];simp[Fo.size];omega),List.take_of_length_le (by rw[Fo.bM];simp[Fo.size];omega)]
   ·show bo ((Fo.cons m j .nil).ar A.size) (-(A.size:Int))=(Fo.cons m j .nil).ar 0
    rw[show A.size=0+A.size by omega,←Fo.lA,Nat.zero_add];simp only[bo,List.map_map];conv=>rhs;rw[←List.map_id ((Fo.cons m j .nil).ar 0)]
    refine List.map_congr_left fun x _=>?_
    cases x;simp[Function.comp_def,Int.add_neg_cancel_right]
   ·show(((j.size+1+0:Nat):Int)-1)=_
    omega
   ·rw[Fo.pJ];exact hAB
   ·rw[Fo.pY];rfl
  have hrow:∀(A:Fo) (m:Nod) (j r:Fo),A.app (.cons m j r)=Fk→dq (cj (.cons m j .nil))=[F.sl ((bo (List.drop A.size (List.take (A.size+j.size+1) (aJ t).nodes)) (0-(A.size:Int))).map a8),inF (((A.size+j.size:Nat):Int)-A.size)]:=by
   intro A m j r hAB;obtain⟨f1,f2,f3,f4,f5,f6,f7,f8⟩:=hround A m j r hAB;rw[f4,Int.zero_sub,f5,show(((A.size+j.size:Nat):Int)-A.size)=j.size by omega,←f6]
  have hpre:∀(A:Fo) (m:Nod) (j r:Fo),A.app (.cons m j r)=Fk→(List.drop A.size (List.take (A.size+j.size+1) (aJ t).nodes)).length≤1466015503701∧(∀n∈List.drop A.size (List.take (A.size+j.size+1) (aJ t).nodes),n.wf)∧(∀n∈List.drop A.size (List.take (A.size+j.size+1) (aJ t).nodes),∀k∈n.kids,-9223372036854775808≤k+(0-(A.size:Int))∧k+(0-(A.size:Int))≤9223372036854775807):=by
   intro A m j r hAB;obtain⟨f1,f2,f3,f4,f5,f6,f7,f8⟩:=hround A m j r hAB;have hsub:∀x∈List.drop A.size (List.take (A.size+j.size+1) (aJ t).nodes),x∈(aJ t).nodes:=fun x hx=>List.mem_of_mem_take (List.mem_of_mem_drop hx)
   have hR:=(qX t).trans hri;refine⟨by simp only[List.length_drop,List.length_take];omega,fun x hx=>hwx.nodes x (hsub x hx),fun x hx k hk=>?_⟩;obtain⟨i,hi,rfl⟩:=List.getElem_of_mem (hsub x hx);have:=(ao hR).kok i _ (List.getElem?_eq_getElem hi) k hk;omega
  rw[hk0];refine kf rfl rfl ?_;repeat' first|exact k9|refine k2 ?_|apply kA|apply kI;intro hc|apply kL;intro hl|((simp only[hg])<;>conv=>whnf)|refine k8 ?_|fail
  cases hFk:Fk with
  |nil=>
   subst hFk;apply Stp.on
   repeat' first|exact k9|refine k2 ?_|apply kA|apply kI;intro hc|refine k8 ?_|apply kL;intro hl
   exact aq.i rfl
  |cons m j r=>
   obtain⟨f1,f2,f3,f4,f5,f6,f7,f8⟩:=hround .nil m j r hFk.symm;have g3:∀h:0<(Fk.bh 0).length,(Fk.bh 0)[0]'h=(j.size:Int):=fun h=>(f3 h).trans (by simp[Fo.size])
   have e3:((j.size:Int)+1).toNat=j.size+1:=by omega
   rw[←hFk];apply Stp.on
   repeat' first|exact k9|refine k2 ?_|apply kA|apply kI;intro hc|apply kL;intro hl|((simp only[g3])<;>conv=>whnf)|((simp only[e3])<;>conv=>whnf)|((simp only[←List.map_take,←List.map_drop])<;>conv=>whnf)|refine k8 ?_|fail
   ·have:=hpre .nil m j r hFk.symm;simp only[Fo.size,Nat.zero_add]at this;exact⟨this⟩
   have h0:=hrow .nil m j r hFk.symm;simp only[Fo.size,Nat.zero_add]at h0;apply kCt [1,3,4,19,20,21] [];conv=>whnf
   refine Lp.ind (fun x:Fo×Fo=>x.2.len) (fun x=>x.1.app x.2=Fk) (fun x=>[(21,InD x.1.len),(4,InD x.1.size)]) (fun x=>[(1,.ro 0 39 2 (x.1.trees.map dq))]) (fun _=>(kF Fk.trees,false)) (.cons m j .nil,r) hFk.symm rfl rfl ?_ ?_
   ·rw[show(Fo.cons m j .nil).trees.map dq=[dq (cj (.cons m j .nil))]from rfl,h0];rfl
   rintro G ⟨A,B⟩ ih hAB
   dsimp only at hAB ih ⊢
   cases B with
   |nil=>
    have hA:A=Fk:=by rw[←hAB,Fo.xJ]
    subst hA
    repeat' first|exact k9|refine k2 ?_|apply kA|apply kI;intro hc|refine k8 ?_|apply kL;intro hl
   |cons m' j' r'=>
    obtain⟨f1,f2,f3,f4,f5,f6,f7,f8⟩:=hround A m' j' r' hAB;have e4:(((A.size+j'.size:Nat):Int)+1).toNat=A.size+j'.size+1:=by omega
    have hAl:A.trees.length=A.len:=Fo.jm A
    repeat' first|exact k9|refine k2 ?_|apply kA|apply kI;intro hc|apply kL;intro hl|((simp only[f3])<;>conv=>whnf)|((simp only[e4])<;>conv=>whnf)|((simp only[←List.map_take,←List.map_drop])<;>conv=>whnf)|refine k8 ?_|fail
    ·exact⟨hpre A m' j' r' hAB⟩
    apply kCt [1,3,4,19,20,21] [];conv=>whnf
    refine ih (A.app (.cons m' j' .nil),r') _ _ _ (by simp only[Fo.len];omega) f7 rfl ?_ ?_
    ·dsimp only;rw[Fo.dS,Fo.bZ];rfl
    ·dsimp only;rw[f8,List.map_append,show List.map dq [cj (.cons m' j' .nil)]=[dq (cj (.cons m' j' .nil))]from rfl,hrow A m' j' r' hAB];rfl⟩
set_option maxRecDepth 100000
set_option maxHeartbeats 0
theorem MG(kind sa sb sc sd:Int)(text:ByteArray)(lo hi:Int)(K:List (List F))(l:List Tre)(hn:(⟨kind,⟨sa,sb,sc,sd⟩,text,lo,hi,[]⟩:Nod).wf)(hl:l.length≤1466015503701)(hw:∀t∈l,t.wf)(ht:tot l+1≤1466015503701) :
  Pure Tryz.prog X1.Γ 148 [.ag [byF kind,.vl (.int .u64 sa),.vl (.int .u64 sb),.vl (.int .u64 sc),.vl (.int .u64 sd),stF text,inF lo,inF hi,.sl K],kF l]
   (.tp [aE (ofP ⟨kind,⟨sa,sb,sc,sd⟩,text,lo,hi,[]⟩ l).1,boF (ofP ⟨kind,⟨sa,sb,sc,sd⟩,text,lo,hi,[]⟩ l).2]) false:=by
 obtain⟨n,hnn⟩:∃n:Nod,n=⟨kind,⟨sa,sb,sc,sd⟩,text,lo,hi,[]⟩:=⟨_,rfl⟩
 have hF:∀x,fits ⟨kind,⟨sa,sb,sc,sd⟩,text,lo,hi,[]⟩ x=fits n x:=fun x=>by rw[hnn]
 rw[←hnn];refine kf rfl rfl ?_;repeat' first|exact k9|refine k2 ?_|apply kA|apply kI;intro hc|refine k8 ?_|apply kL;intro hl
 ·have hfit:fits n l.length=true:=by rw[←hF];exact hc
  have hno:iJ l [] []=none→ofP n l=(.zero,false):=fun h=>by rw[ofP,if_pos hfit,h]
  have hyes:∀a ks,iJ l [] []=some (a,ks)→ofP n l=(⟨a++[{ n with kids:=ks }],a.length⟩,true):=fun a ks h=>by rw[ofP,if_pos hfit,h]
  have hmv:∀k∈l,au k=true→∀d:Nat,d≤1466015503701→(aD k k.root).nodes.length≤k.nodes.length∧((aD k k.root).nodes.length≤1466015503701∧(∀n∈(aD k k.root).nodes,n.wf)∧(∀n∈(aD k k.root).nodes,∀x∈n.kids,-9223372036854775808≤x+(d:Int)∧x+(d:Int)≤9223372036854775807)):=by
   intro k hk hr d hd;have hR:=ao hr;obtain⟨w1,w2⟩:=gH (hw k hk) hR hR.root.1 hR.root.2;have hlen:=w1.len;simp only[bY]at hlen w2;exact⟨nm hR hR.root.1 hR.root.2,hlen,w1.nodes,fun n hn x hx=>by have:=w2 n hn x hx;omega⟩
  have hml:∀(xs:List Nod) (d:Int),(bo xs d).length=xs.length:=fun xs d=>by simp[bo]
  cases hll:l with
  |nil=>
   subst hll;apply Stp.on
   repeat' first|exact k9|refine k2 ?_|apply kA|apply kI;intro hc|refine k8 ?_|apply kL;intro hl
   refine aq.i ?_;rw[hyes [] [] rfl,hnn];rfl
  |cons k rest=>
   rw[←hll];have hl0:∀h:0<l.length,l[0]'h=k:=fun h=>by simp[hll]
   have hkl:k∈l:=by simp[hll]
   have hl1:0<l.length:=by simp[hll]
   have hd1:l.drop 1=rest:=by simp[hll]
   have hwk:=hw k hkl;have htk:k.nodes.length+tot rest=tot l:=by rw[hll,oB]
   apply Stp.on
   cases hr:au k with
   |false=>
    repeat' first|exact k9|refine k2 ?_|apply kA|apply kI;intro hc|apply kL;intro hl|((simp only[hl0])<;>conv=>whnf)|refine k8 ?_|fail
    refine aq.i ?_;rw[hno (by rw[hll,iJ,if_neg (by rw[hr];decide)])];rfl
   |true=>
    have hRk:=ao hr;have hpk:k.wf∧av k∧0≤k.root∧k.root<k.nodes.length:=⟨hwk,hRk,hRk.root⟩
    obtain⟨hm1,hm2⟩:=hmv k hkl hr 0 (by omega);have hm3:=hml (aD k k.root).nodes 0;rw[Int.natCast_zero]at hm2
    repeat' first|exact k9|refine k2 ?_|apply kA|apply kI;intro hc|apply kL;intro hl|((simp only[hl0])<;>conv=>whnf)|refine k8 ?_|fail
    apply kCt [2,4,6,7,16,17,18] [];conv=>whnf
    refine Lp.ind (fun x:Nat×List Nod×List Int=>l.length-x.1) (fun x=>0<x.1∧x.1≤l.length∧x.2.2.length=x.1∧x.2.1.length+tot (l.drop x.1)≤tot l∧iJ l [] []=iJ (l.drop x.1) x.2.1 x.2.2) (fun x=>[(18,InD x.1)]) (fun x=>[(2,.ro 0 46 9 (x.2.1.map a8)),(3,.ro 0 3 1 (x.2.2.map ikF))]) (fun _=>(.tp [aE (ofP n l).1,boF (ofP n l).2],false))
     (1,bo (aD k k.root).nodes 0,[(((aD k k.root).nodes.length:Nat):Int)-1]) ⟨by dsimp only;omega,by dsimp only;rw[hll];simp,rfl,?_,?_⟩ rfl rfl ?_ ?_
    ·dsimp only;rw[hd1,hm3];omega
    ·dsimp only;rw[hd1,hll,iJ,if_pos hr];simp
    ·simp only[List.length_map,hm3];rfl
    rintro G ⟨i,ar,ks⟩ ih ⟨hi0,hi1,hks,hto,hT⟩
    dsimp only at hi0 hi1 hks hto hT ih ⊢
    by_cases hx:i<l.length
    ·obtain⟨q,hq⟩:=exEq (l[i]);have hqi:∀h:i<l.length,l[i]'h=q:=fun _=>hq.symm
     have hql:q∈l:=by rw[hq];exact List.getElem_mem hx
     have hwq:=hw q hql;rw[List.drop_eq_getElem_cons hx,←hq]at hT hto;rw[oB]at hto;rw[iJ]at hT
     cases hrq:au q with
     |false=>
      rw[if_neg (by rw[hrq];decide)]at hT
      repeat' first|exact k9|refine k2 ?_|apply kA|apply kI;intro hc|apply kL;intro hl|((simp only[hqi])<;>conv=>whnf)|refine k8 ?_|fail
      refine aq.i ?_;rw[hno hT];rfl
     |true=>
      rw[if_pos hrq]at hT;have hRq:=ao hrq;have hpq:q.wf∧av q∧0≤q.root∧q.root<q.nodes.length:=⟨hwq,hRq,hRq.root⟩
      obtain⟨hm4,hm5⟩:=hmv q hql hrq ar.length (by omega);have hm6:=hml (aD q q.root).nodes ar.length;have har:(List.map a8 ar).length=ar.length:=List.length_map ..
      repeat' first|exact k9|refine k2 ?_|apply kA|apply kI;intro hc|apply kL;intro hl|((simp only[hqi])<;>conv=>whnf)|((simp only[har])<;>conv=>whnf)|refine k8 ?_|fail
      apply kCt [2,4,6,7,16,17,18] [];conv=>whnf
      refine ih (i+1,ar++bo (aD q q.root).nodes ar.length,ks++[((ar.length+(aD q q.root).nodes.length:Nat):Int)-1]) _ _ _ (by dsimp only;omega) ⟨by dsimp only;omega,by dsimp only;omega,by simp[hks],by simp only[List.length_append,hm6];omega,hT⟩ rfl rfl ?_;have e1:(List.map a8 ar++List.map a8 (bo (aD q q.root).nodes ar.length)).length=ar.length+(aD q q.root).nodes.length:=by simp only[List.length_append,List.length_map,hm6]
      rw[e1];dsimp only;rw[show List.map a8 (ar++bo (aD q q.root).nodes ar.length)=List.map a8 ar++List.map a8 (bo (aD q q.root).nodes ar.length)from List.map_append ..,show List.map ikF (ks++[((ar.length+(aD q q.root).nodes.length:Nat):Int)-1])=List.map ikF ks++[ikF (((ar.length+(aD q q.root).nodes.length:Nat):Int)-1)]from by simp];rfl
    ·rw[List.drop_of_length_le (by omega),iJ]at hT;rw[hyes _ _ hT,hnn]
     repeat' first|exact k9|refine k2 ?_|apply kA|apply kI;intro hc|refine k8 ?_|apply kL;intro hl
     refine aq.i ?_;simp only[aE,dq,List.map_append];refine congrArg (fun z=>F.tp [F.ag [F.sl (List.map a8 ar++[[byF kind,F.vl (.int .u64 sa),F.vl (.int .u64 sb),F.vl (.int .u64 sc),F.vl (.int .u64 sd),stF text,inF lo,inF hi,F.sl (List.map ikF ks)]]),inF z],boF true]) ?_;simp
 ·refine aq.i ?_;rw[ofP,if_neg (by rw[←hF,hc];decide)];rfl
instance(kind sa sb sc sd:Int)(text:ByteArray)(lo hi:Int)(K:List (List F))(l:List Tre):C 148 [.ag [byF kind,.vl (.int .u64 sa),.vl (.int .u64 sb),.vl (.int .u64 sc),.vl (.int .u64 sd),stF text,inF lo,inF hi,.sl K],kF l]
  (.tp [aE (ofP ⟨kind,⟨sa,sb,sc,sd⟩,text,lo,hi,[]⟩ l).1,boF (ofP ⟨kind,⟨sa,sb,sc,sd⟩,text,lo,hi,[]⟩ l).2]) false ((⟨kind,⟨sa,sb,sc,sd⟩,text,lo,hi,[]⟩:Nod).wf∧l.length≤1466015503701∧(∀t∈l,t.wf)∧tot l+1≤1466015503701):=⟨fun h=>MG kind sa sb sc sd text lo hi K l h.1 h.2.1 h.2.2.1 h.2.2.2⟩
instance(t:Tre):C 109 [aE t] (boF (rG t)) true t.wf:=⟨fun ht=>by
 refine kf rfl rfl ?_;repeat' first|exact k9|refine k2 ?_|apply kA|apply kI;intro hc|refine k8 ?_|apply kL;intro hl
 all_goals(refine aq.b ?_ rfl;simp_all [rG,dM])
 all_goals try omega⟩
end Go.Km
end
section
namespace Go.Km
open Go Go.Vc Go.Proofs Go.aa Go.Proofs.YtpbichnnflabdaaGreatDoor
set_option maxRecDepth 100000
set_option maxHeartbeats 0
instance:Av 174:=⟨trivial⟩
instance:Av 167:=⟨trivial⟩
instance:Av 175:=⟨trivial⟩
instance:Av 168:=⟨trivial⟩
instance:Av 169:=⟨trivial⟩
instance:Av 147:=⟨trivial⟩
instance:Nj 170:=⟨trivial⟩
theorem kE{α β:Type}(f:α→β)(l:List α)(a:α):List.map f (l++[a])=List.map f l++[f a]:=by simp
abbrev iH(k a b c d:Int)(s:ByteArray)(x y:Int)(K:List (List F)):List F:=[byF k,.vl (.int .u64 a),.vl (.int .u64 b),.vl (.int .u64 c),.vl (.int .u64 d),stF s,inF x,inF y,.sl K]
instance(L:List Nod)(k a b c d:Int)(s:ByteArray)(x y:Int)(K:List (List F)):HA Tryz.prog X1.Γ 174 194 46 9 (L.map a8) [.ag (iH k a b c d s x y K)] (inF L.length) (L.map a8++[iH k a b c d s x y K]) (L.length<1466015503701):=⟨fun hL=>by
 refine⟨fun η b_ v_ b2_ v2_ h1_ h2_=>lU dV rfl rfl ?_ h1_ h2_⟩;intro vs_;repeat' first|exact k9|refine k2 ?_|apply kA|apply kI;intro hc|refine k8 ?_|apply kL;intro hl
 exact cR.n (by simp) rfl⟩
instance(L:List Nod)(k a b c d:Int)(s:ByteArray)(x y:Int)(K:List (List F))(ks:List Int):HA Tryz.prog X1.Γ 167 194 46 9 (L.map a8) [.ag (iH k a b c d s x y K),.sl (ks.map ikF)] (inF L.length) (L.map a8++[iH k a b c d s x y (ks.map ikF)]) (L.length<1466015503701):=⟨fun hL=>by
 refine⟨fun η b_ v_ b2_ v2_ h1_ h2_=>lU dV rfl rfl ?_ h1_ h2_⟩;intro vs_;repeat' first|exact k9|refine k2 ?_|apply kA|apply kI;intro hc|refine k8 ?_|apply kL;intro hl
 exact cR.i rfl rfl⟩
theorem iW(L:List Nod){q:Nat}(h:q<L.length):bn L (q:Int)=(L[((q:Nat):Int).toNat]'(by simpa using h)).kind:=by
 unfold bn;simp[List.getD_eq_getElem?_getD,List.getElem?_eq_getElem h]
def flK(L:List Nod)(k:Int)(l:List Int):List Int:=if k=4 then uj L l else l
theorem HS(L:List Nod)(k x:Int)(l:List Int):flK L k (x::l)=(if k=4∧bn L x=0 then[]else[x])++flK L k l:=by
 unfold flK uj
 by_cases h:k=4<;>by_cases h2:bn L x=0<;>simp[h,h2]
abbrev JoK(L:List Nod)(k a b c d:Int)(s:ByteArray)(x y:Int)(ks:List Int)(e:Nod):List Nod×Int:=th L ⟨k,⟨a,b,c,d⟩,s,x,y,[]⟩ e (flK L k ks)
instance(L:List Nod)(k a b c d:Int)(s:ByteArray)(x y:Int)(K:List (List F))(ks:List Int)(k' a' b' c' d':Int)(s':ByteArray)(x' y':Int):HA Tryz.prog X1.Γ 175 194 46 9 (L.map a8) [.ag (iH k a b c d s x y K),.sl (ks.map ikF),.ag (iH k' a' b' c' d' s' x' y' [])]
  (inF (JoK L k a b c d s x y ks ⟨k',⟨a',b',c',d'⟩,s',x',y',[]⟩).2) ((JoK L k a b c d s x y ks ⟨k',⟨a',b',c',d'⟩,s',x',y',[]⟩).1.map a8) (L.length<1466015503701∧ks.length≤17592186044416∧∀x∈ks,0≤x∧x<(L.length:Int)):=⟨fun h=>by
 obtain⟨hL,hkl,hks⟩:=h;refine⟨fun η b_ v_ b2_ v2_ h1_ h2_=>lU dV rfl rfl ?_ h1_ h2_⟩;intro vs_;repeat' first|exact k9|refine k2 ?_|apply kA|apply kI;intro hc|refine k8 ?_|apply kL;intro hl
 apply Stp.By 7 30 3 1 rfl rfl;apply kCt [4,5,7,9,10,14,15,16] [];conv=>whnf
 obtain⟨RR,hRR⟩:∃RR:List Nod×Int,RR=JoK L k a b c d s x y ks ⟨k',⟨a',b',c',d'⟩,s',x',y',[]⟩:=⟨_,rfl⟩
 rw[←hRR];refine Lp.ind (fun z:Nat×List Int=>ks.length-z.1) (fun z=>z.1≤ks.length∧z.2.length≤z.1∧(∀x∈z.2,0≤x∧x<(L.length:Int))∧z.2++flK L k (ks.drop z.1)=flK L k ks) (fun z=>[(16,InD z.1)]) (fun z=>[(6,.ro 0 3 1 (z.2.map ikF))]) (fun _=>_) (0,[]) ⟨by simp,by simp,by simp,by simp⟩ rfl rfl rfl ?_
 rintro G ⟨i,P⟩ ih ⟨hi,hP,hPm,hT⟩
 dsimp only at hi hP hPm hT ih ⊢
 by_cases hx:i<ks.length
 ·have hk0:=hks _ (List.getElem_mem hx);rw[List.drop_eq_getElem_cons hx,HS]at hT;obtain⟨q,hq⟩:∃q:Nat,ks[i]=q:=⟨ks[i].toNat,by omega⟩
  have hqi:∀h:i<ks.length,ks[i]'h=(q:Int):=fun _=>hq
  rw[hq]at hT hk0
  repeat' first|exact k9|refine k2 ?_|apply kA|apply kI;intro hc|apply kL;intro hl|((simp only[hqi])<;>conv=>whnf)|refine k8 ?_|fail
  ·apply kCt [4,5,7,9,10,14,15,16] [];conv=>whnf
   refine ih (i+1,P) _ _ _ (by dsimp only;omega) ⟨by dsimp only;omega,by dsimp only;omega,hPm,?_⟩ rfl rfl rfl;rename_i h4;have h0:=hc;simp only[hqi]at h0;rw[if_pos ⟨h4,by rw[iW L (by omega)];exact h0⟩,List.nil_append]at hT;exact hT
  ·rename_i h4;have h0:=hc;simp only[hqi]at h0;rw[if_neg (fun h=>h0 (by rw[←iW L (by omega)];exact h.2))]at hT;apply kCt [4,5,7,9,10,14,15,16] [];conv=>whnf
   refine ih (i+1,P++[(q:Int)]) _ _ _ (by dsimp only;omega) ⟨by dsimp only;omega,by simp;omega,?_,by simpa using hT⟩ rfl rfl (by simp only[List.map_append];rfl);intro x hx;rcases List.mem_append.1 hx with hx|hx
   ·exact hPm x hx
   ·simp at hx;omega
  ·rename_i h4;rw[if_neg (fun h=>hc h.1)]at hT;apply kCt [4,5,7,9,10,14,15,16] [];conv=>whnf
   refine ih (i+1,P++[(q:Int)]) _ _ _ (by dsimp only;omega) ⟨by dsimp only;omega,by simp;omega,?_,by simpa using hT⟩ rfl rfl (by simp only[List.map_append];rfl);intro x hx;rcases List.mem_append.1 hx with hx|hx
   ·exact hPm x hx
   ·simp at hx;omega
 ·rw[List.drop_of_length_le (by omega),show flK L k []=[]by simp[flK,uj],List.append_nil]at hT;have hR2:RR=th L ⟨k,⟨a,b,c,d⟩,s,x,y,[]⟩ ⟨k',⟨a',b',c',d'⟩,s',x',y',[]⟩ P:=by rw[hRR,hT]
  clear hRR;subst hR2
  repeat' first|exact k9|refine k2 ?_|apply kA|apply kI;intro hc|refine k8 ?_|apply kL;intro hl
  ·obtain rfl:P=[]:=List.eq_nil_of_length_eq_zero (by omega);exact cR.i rfl (by simp only[th,List.map_append];rfl)
  ·obtain⟨p,rfl⟩:∃p,P=[p]:=List.length_eq_one_iff.1 (by omega);exact cR.i rfl rfl
  ·rename_i h0
   match P,h0,hc with
   |[],h0,_=>simp at h0
   |[p],_,h1=>simp at h1
   |p::q::l,_,_=>exact cR.i rfl (by simp only[th,List.map_append];rfl)⟩
instance(L:List Nod)(a b c d:Int)(s:ByteArray)(x y:Int)(K:List (List F))(ks:List Int):HA Tryz.prog X1.Γ 168 194 46 9 (L.map a8) [.ag (iH 4 a b c d s x y K),.sl (ks.map ikF)]
  (inF (j6 L ⟨4,⟨a,b,c,d⟩,s,x,y,[]⟩ ks).2) ((j6 L ⟨4,⟨a,b,c,d⟩,s,x,y,[]⟩ ks).1.map a8) (L.length<1466015503701∧ks.length≤17592186044416∧∀x∈ks,0≤x∧x<(L.length:Int)):=⟨fun h=>by
 refine⟨fun η b_ v_ b2_ v2_ h1_ h2_=>lU dV rfl rfl ?_ h1_ h2_⟩;intro vs_;repeat' first|exact k9|refine k2 ?_|apply kA|apply kI;intro hc|refine k8 ?_|apply kL;intro hl
 exact cR.i rfl rfl⟩
instance(L:List Nod)(a b c d:Int)(s:ByteArray)(x y:Int)(K:List (List F))(ks:List Int):HA Tryz.prog X1.Γ 169 194 46 9 (L.map a8) [.ag (iH 5 a b c d s x y K),.sl (ks.map ikF)]
  (inF (j6 L ⟨5,⟨a,b,c,d⟩,s,x,y,[]⟩ ks).2) ((j6 L ⟨5,⟨a,b,c,d⟩,s,x,y,[]⟩ ks).1.map a8) (L.length<1466015503701∧ks.length≤17592186044416∧∀x∈ks,0≤x∧x<(L.length:Int)):=⟨fun h=>by
 refine⟨fun η b_ v_ b2_ v2_ h1_ h2_=>lU dV rfl rfl ?_ h1_ h2_⟩;intro vs_;repeat' first|exact k9|refine k2 ?_|apply kA|apply kI;intro hc|refine k8 ?_|apply kL;intro hl
 exact cR.i rfl rfl⟩
instance(L:List Nod)(node:Int):HR Tryz.prog X1.Γ 170 194 46 9 (L.map a8) [inF node]
  (isF (chO L node)) (L.length≤1466015503701∧bD (ae L)∧0≤node∧node<L.length∧(dfs (ae L) L.length [node]).length≤1466015503701):=⟨fun h=>by
 obtain⟨hL,hch,h0,hn,hroom⟩:=h;obtain⟨nd,rfl⟩:∃nd:Nat,node=nd:=⟨node.toNat,by omega⟩
 have hlt:nd<L.length:=by omega
 obtain⟨n,hnn⟩:=exEq (L[nd]);have hni:∀h:nd<L.length,L[nd]'h=n:=fun _=>hnn.symm
 have hkA:bn L nd=n.kind:=by rw[iW L hlt,hnn];rfl
 have hkk:n.kids=ae L nd:=aF (by rw[hnn];exact List.getElem?_eq_getElem hlt);refine⟨fun η b_ v_ b2_ v2_ h1_ h2_=>LO dV rfl rfl ?_ h1_ h2_⟩;intro vs_;repeat' first|exact k9|refine k2 ?_|apply kA|apply kI;intro hc|apply kL;intro hl|((simp only[Int.toNat_natCast,hni])<;>conv=>whnf)|refine k8 ?_|fail
 rotate_left 2
 ·refine cR.i ?_ rfl;rename_i h4;rw[chO,hkA,if_neg (by simp only[hni]at h4 hc;omega),←hkk];rfl
 all_goals
  have hkd:n.kind=4∨n.kind=5:=by simp only[hni]at hc;omega
  have hR:chO L nd=b9 L n.kind L.length [(nd:Int)]:=by
   unfold chO;rw[hkA,if_pos hkd,ig hch (by omega) (by omega),hkA,if_pos rfl,aZ,List.append_nil]
  generalize chO L nd=R at *;clear hc;apply Stp.nj 6 3 1 rfl rfl;refine Stp.FO (by rfl) ?_;apply kCt [0,5,6,7] [];conv=>whnf
  refine Lp.ind (fun z:List Int×List Int=>(dfs (ae L) L.length z.1.reverse).length) (fun z=>(∀x∈z.1,0≤x∧x<L.length)∧z.2++b9 L n.kind L.length z.1.reverse=R∧z.2.length+(dfs (ae L) L.length z.1.reverse).length≤1466015503701) (fun _=>[]) (fun z=>[(3,.ro 0 3 1 (z.2.map ikF)),(5,.ro 0 3 1 (z.1.map ikF))]) (fun _=>_) ([(nd:Int)],[]) ⟨by simp;omega,by simpa using hR.symm,by simpa using hroom⟩ rfl rfl rfl ?_
  rintro G ⟨op,out⟩ ih ⟨hop,he,hrm⟩
  dsimp only at hop he hrm ih ⊢;rcases bQ op with rfl|⟨init,i,rfl⟩
  ·simp only[List.reverse_nil,aZ,List.append_nil]at he;subst he
   repeat' first|exact k9|refine k2 ?_|apply kA|apply kI;intro hc|refine k8 ?_|apply kL;intro hl
   exact cR.i rfl rfl
  ·have hi:=hop i (by simp);obtain⟨i,rfl⟩:∃y:Nat,i=y:=⟨i.toNat,by omega⟩
   have hlti:i<L.length:=by omega
   obtain⟨m,hm⟩:=exEq (L[i]);have hmi:∀h:i<L.length,L[i]'h=m:=fun _=>hm.symm
   have hkm:bn L i=m.kind:=by rw[iW L hlti,hm];rfl
   have hkids:m.kids=ae L i:=aF (by rw[hm];exact List.getElem?_eq_getElem hlti);have hlast:∀h,(init++[(i:Int)])[((List.map ikF (init++[(i:Int)])).length-1:Int).toNat]'h=(i:Int):=by
    intro h;simp[List.getElem_append]
   have htake:List.take ((List.map ikF (init++[(i:Int)])).length-1:Int).toNat (List.map ikF (init++[(i:Int)]))=List.map ikF init:=by simp[List.take_append]
   rw[List.reverse_append,List.reverse_singleton,List.singleton_append,ig hch (by omega) (by omega),hkm,←hkids]at he;rw[List.reverse_append,List.reverse_singleton,List.singleton_append,aQ hch (by omega) (by omega),←hkids]at hrm;simp only[List.length_append,List.length_cons]at hrm;have hg1:=dp (ch:=ae L) L.length m.kids (by omega);have hg2:=dp (ch:=ae L) L.length init.reverse (by omega);rw[List.length_reverse]at hg2
   repeat' first|exact k9|refine k2 ?_|apply kA|apply kI;intro hc|apply kL;intro hl|((rw[hlast])<;>conv=>whnf)|((simp only[Int.toNat_natCast,hmi])<;>conv=>whnf)|refine k8 ?_|fail
   ·refine Stp.IT 4 30 3 1 (by rfl) (by rfl) htake ?_;apply kCt [0,1,3] [0,5,6,7];conv=>whnf
    refine Lp.ind (fun z:Nat=>m.kids.length-z) (fun z=>z≤m.kids.length) (fun z=>[(3,InD ((m.kids.length:Int)-1-z))]) (fun z=>[(7,.ro 0 3 1 ((init++m.kids.reverse.take z).map ikF))]) (fun _=>_) 0 (by simp) rfl ?_ ?_ ?_
    ·simp only[List.length_map,Int.sub_zero,Int.natCast_zero];rfl
    ·simp only[List.take_zero,List.append_nil];rfl
    rintro G' z ih' hz
    by_cases hy:z<m.kids.length
    ·repeat' first|exact k9|refine k2 ?_|apply kA|apply kI;intro hc|refine k8 ?_|apply kL;intro hl
     apply kCt [0,1,3] [0,5,6,7];conv=>whnf
     refine ih' (z+1) _ _ _ (by omega) (by omega) rfl ?_ ?_
     ·rw[show(m.kids.length:Int)-1-((z+1:Nat):Int)=m.kids.length-1-z-1 by omega];rfl
     ·have e:init++m.kids.reverse.take (z+1)=(init++m.kids.reverse.take z)++[m.kids[((m.kids.length:Int)-1-z).toNat]'(by omega)]:=by
       rw[List.take_succ_eq_append_getElem (by simpa using hy),List.append_assoc]
       congr 3
       rw[List.getElem_reverse]
       congr 1
       omega
      rw[e,kE];rfl
    ·rw[List.take_of_length_le (by simp;omega)]
     repeat' first|exact k9|refine k2 ?_|apply kA|apply kI;intro hc|refine k8 ?_|apply kL;intro hl
     refine Stp.Hr (by rfl) (by rfl) (by rfl) ?_;apply kCt [0,5,6,7] [];conv=>whnf
     have hmk:m.kind=n.kind:=by
      have:L[i].kind=n.kind:=by assumption
      rw[←hm]at this;exact this
     rw[if_pos hmk]at he;refine ih (init++m.kids.reverse,out) _ _ _ ?_ ⟨?_,?_,?_⟩ rfl rfl rfl
     ·dsimp only;rw[List.reverse_append,List.reverse_append,List.reverse_singleton,List.singleton_append,List.reverse_reverse,bp,aQ hch (by omega) (by omega),←hkids];simp only[List.length_cons,List.length_append];omega
     ·intro x hx;rcases List.mem_append.1 hx with hx|hx
      ·exact hop x (by simp[hx])
      ·rw[List.mem_reverse,hkids]at hx;have:=hch i x hx;omega
     ·dsimp only;rw[List.reverse_append,List.reverse_reverse,D9];exact he
     ·dsimp only;rw[List.reverse_append,List.reverse_reverse,bp,List.length_append];omega
   ·refine Stp.IT 4 30 3 1 (by rfl) (by rfl) htake ?_;apply kCt [0,5,6,7] [];conv=>whnf
    rw[if_neg (by simp only[Int.toNat_natCast,hmi]at hc;exact hc)]at he;refine ih (init,out++[(i:Int)]) _ _ _ (by dsimp only;rw[List.reverse_append,List.reverse_singleton,List.singleton_append,aQ hch (by omega) (by omega)];simp only[List.length_cons,List.length_append];omega) ⟨fun x hx=>hop x (by simp[hx]),by rw[←he];simp,by simp only[List.length_append,List.length_cons,List.length_nil];omega⟩ rfl rfl (by simp only[List.map_append];rfl)⟩
end Go.Km
end
