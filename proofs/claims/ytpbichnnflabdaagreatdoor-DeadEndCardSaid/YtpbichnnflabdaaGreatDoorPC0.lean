/- The texts that the card needs, part 1. -/
import Derived.ArgAppend
import Derived.AtR
import Derived.Carry
import Derived.Deep.Quiet
import Derived.KernelRfl
import Derived.LaidMore
import Derived.Laws.Bits64b
import Derived.Laws.BytesArg
import Derived.Laws.Externs
import Derived.Laws.IdiomStrings
import Derived.Laws.StructEq
import Derived.Lib.AppendStr
import Derived.Lib.BufferWrite
import Derived.Lib.Builder
import Derived.Lib.Bytealg
import Derived.Lib.Strings
import Derived.Lib.TrailingZeros
import Derived.Lib.UnsafeStr
import Derived.Lib.Walk
import Derived.Maps.AppendAt
import Derived.OpenShut
import Derived.ProofKit
import Derived.RangeFuncIn
import Derived.RangeFuncLeaves
import Derived.RangeFuncNested
import Derived.RangeFuncRecord
import Derived.RangeFuncSeq
import Derived.SevenTiedAt
import Derived.StillTail
import Derived.Stop.Joined
import Derived.TacticsIn
import Derived.Test.YtpbichnnflabdaaGreatDoorCards
import Derived.Test.YtpbichnnflabdaaGreatDoorChecked
import Derived.Test.YtpbichnnflabdaaGreatDoorProg
import Derived.Test.YtpbichnnflabdaaGreatDoorTie
import Derived.WalkKit
set_option linter.all false
theorem exEq {α : Type _} (e : α) : ∃ x, x = e := ⟨e, rfl⟩
section
namespace Go.Sl
open Go.RowKit
abbrev Sg:=List (Nat×Value)
def lk:Sg→Nat→Option Value
 |[],_=>none
 |(k,v)::s,i=>bif Nat.beq k i then some v else lk s i
structure FD where
 sz:Nat
 ds:List Deferred
structure Fr(n:FD)(s:Sg)(a:Act):Prop where
 size:a.tmps.size=n.sz
 defers:a.defers=n.ds
 get:∀i v,lk s i=some v→a.tmps.getD i undef=v
theorem b6{d n:Nat}(h:Nat.blt d n=true):d<n:=Eq.mp Nat.blt_eq h
theorem Fr.put{n:FD}{s:Sg}{a:Act}{d:Nat}(h:Fr n s a)(hd:Nat.blt d n.sz=true)(v:Value):Fr n ((d,v)::s) (a.put (some d) v):=by
 have hd':d<a.tmps.size:=by rw[h.size];exact b6 hd
 refine⟨by simp[Act.put,h.size],by simpa [Act.put]using h.defers,fun i u hi=>?_⟩;simp only[lk,cond_eq_ite]at hi
 by_cases hdi:d=i
 ·subst hdi;simp at hi;subst hi;simp[Act.put,hd']
 ·have hb:Nat.beq d i=false:=by
   cases hb:Nat.beq d i with
   |false=>rfl
   |true=>exact absurd (Nat.eq_of_beq_eq_true hb) hdi
  rw[hb]at hi;simp at hi;have:=h.get i u hi;rw[←this];simp[Act.put,hdi]
def ev(s:Sg):Operand→Option Value
 |.tmp t=>lk s t
 |.const v=>some v
 |.global g=>some (.pointer (some ⟨g,0,none⟩))
 |.func f=>some (.func (.func f) #[] #[])
theorem Fr.ev{n:FD}{s:Sg}{a:Act}{x:Operand}{v:Value}(h:Fr n s a)(hx:ev s x=some v):a.eval x=v:=by
 cases x with
 |tmp t=>exact h.get t v hx
 |const c=>simpa [Sl.ev,Act.eval]using hx
 |global g=>simpa [Sl.ev,Act.eval]using hx
 |func f=>simpa [Sl.ev,Act.eval]using hx
def Sub:Sg→Sg→Prop
 |[],_=>True
 |p::s',s=>lk s p.1=some p.2∧Sub s' s
theorem Fr.sub{n:FD}{s:Sg}{a:Act}(h:Fr n s a):∀{s':Sg},Sub s' s→Fr n s' a
 |[],_=>⟨h.size,h.defers,fun i v hi=>by simp[lk]at hi⟩
 |p::s',hs=>by
  refine⟨h.size,h.defers,fun i v hi=>?_⟩;simp only[lk]at hi
  cases hb:Nat.beq p.1 i with
  |true=>
   rw[hb]at hi;simp at hi;have:p.1=i:=Nat.eq_of_beq_eq_true hb;subst this;subst hi;exact h.get _ _ hs.1
  |false=>
   rw[hb]at hi;simp at hi;exact(h.sub hs.2).get i v hi
structure T(P:Program)(ops:Array Oper)(Q:Exit→Act→World→Prop)(rest:List Oper)(n:FD)(s:Sg)(M:World→Prop):Prop where
 go:∀a w,Fr n s a→M w→wpList P ops Q rest a w
structure TC(P:Program)(c:Code)(Q:Exit→Act→World→Prop)(n:FD)(s:Sg)(M:World→Prop):Prop where
 go:∀a w,Fr n s a→M w→c.wp P Q a w
structure TX(Q:Exit→Act→World→Prop)(e:Exit)(n:FD)(s:Sg)(M:World→Prop):Prop where
 go:∀a w,Fr n s a→M w→Q e a w
structure Ev(P:Program)(n:FD)(s:Sg)(M:World→Prop)(op:Op)(ty:TypeId)(v:Value):Prop where
 go:∀a w (o:Oper),o.op=op→o.type=ty→Fr n s a→M w→(execOp a.eval o).run P w=.ok (.value v) w
section
variable {P:Program}{ops:Array Oper}{Q:Exit→Act→World→Prop}{rest:List Oper}{n:FD}{s:Sg}{M:World→Prop}
 {op:Op}{ty:TypeId}{pos:String}{af:Array Edge}{d j:Nat}{v:Value}
theorem T.mem{M':World→Prop}(hM:∀w,M w→M' w)(k:T P ops Q rest n s M'):T P ops Q rest n s M:=
 ⟨fun a w hf hm=>k.go a w hf (hM w hm)⟩
theorem TC.mem{c:Code}{M':World→Prop}(hM:∀w,M w→M' w)(k:TC P c Q n s M'):TC P c Q n s M:=
 ⟨fun a w hf hm=>k.go a w hf (hM w hm)⟩
theorem T.nil(k:TX Q .normal n s M):T P ops Q [] n s M:=⟨fun a w hf hm=>k.go a w hf hm⟩
theorem T.ev_(hd:Nat.blt d n.sz=true)(h:Ev P n s M op ty v)(k:T P ops Q rest n ((d,v)::s) M) :
  T P ops Q (⟨some d,op,ty,pos,af,none⟩::rest) n s M:=by
 refine⟨fun a w hf hm=>?_⟩;refine wpList_plain rfl fun K hK=>?_;unfold Oper.wp;rw[h.go a w ⟨some d,op,ty,pos,af,none⟩ rfl rfl hf hm];exact hK _ _ (k.go _ _ (hf.put hd v) hm)
structure Ac(P:Program)(n:FD)(s:Sg)(M:World→Prop)(op:Op)(ty:TypeId){ι:Sort _}(val:ι→Value)(M':ι→World→Prop):Prop where
 go:∀a w (o:Oper),o.op=op→o.type=ty→Fr n s a→M w→∃x w',(execOp a.eval o).run P w=.ok (.value (val x)) w'∧M' x w'
structure AcN(P:Program)(n:FD)(s:Sg)(M:World→Prop)(op:Op)(ty:TypeId){ι:Sort _}(M':ι→World→Prop):Prop where
 go:∀a w (o:Oper),o.op=op→o.type=ty→Fr n s a→M w→∃x w',((execOp a.eval o).run P w=.ok .skip w'∨∃u,(execOp a.eval o).run P w=.ok (.value u) w')∧M' x w'
structure Cl(P:Program)(n:FD)(s:Sg)(M:World→Prop)(op:Op)(ty:TypeId){ι:Sort _}(val:ι→Value)(M':ι→World→Prop):Prop where
 go:∃f args,(∀a w (o:Oper),o.op=op→o.type=ty→Fr n s a→M w→(execOp a.eval o).run P w=.ok (.enter f args) w)∧
  ∀w,M w→Calls P f args w fun e w'=>∃x,e=.returned (val x)∧M' x w'
theorem T.act {ι:Sort _}{val:ι→Value}{M':ι→World→Prop} (hd:Nat.blt d n.sz=true) (h:Ac P n s M op ty val M')
  (k:∀x,T P ops Q rest n ((d,val x)::s) (M' x)):T P ops Q (⟨some d,op,ty,pos,af,none⟩::rest) n s M:=by
 refine⟨fun a w hf hm=>?_⟩;obtain⟨x,w',hr,hm'⟩:=h.go a w ⟨some d,op,ty,pos,af,none⟩ rfl rfl hf hm;refine wpList_plain rfl fun K hK=>?_;unfold Oper.wp;rw[hr];exact hK _ _ ((k x).go _ _ (hf.put hd _) hm')
theorem T.MR {ι:Sort _}{M':ι→World→Prop} (h:AcN P n s M op ty M')
  (k:∀x,T P ops Q rest n s (M' x)):T P ops Q (⟨none,op,ty,pos,af,none⟩::rest) n s M:=by
 refine⟨fun a w hf hm=>?_⟩;obtain⟨x,w',hr,hm'⟩:=h.go a w ⟨none,op,ty,pos,af,none⟩ rfl rfl hf hm;refine wpList_plain rfl fun K hK=>?_;unfold Oper.wp;rcases hr with hr|⟨u,hr⟩<;>rw[hr]<;>exact hK _ _ ((k x).go _ _ hf hm')
theorem T.cl {ι:Sort _}{val:ι→Value}{M':ι→World→Prop} (hd:Nat.blt d n.sz=true) (h:Cl P n s M op ty val M')
  (k:∀x,T P ops Q rest n ((d,val x)::s) (M' x)):T P ops Q (⟨some d,op,ty,pos,af,none⟩::rest) n s M:=by
 refine⟨fun a w hf hm=>?_⟩;obtain⟨f,args,hop,hc⟩:=h.go;refine wpList_plain rfl fun K hK=>?_;unfold Oper.wp;rw[hop a w ⟨some d,op,ty,pos,af,none⟩ rfl rfl hf hm];simp only[Oper.upon];refine(hc w hm).mono ?_
 rintro e w' ⟨x,rfl,hm'⟩
 exact hK _ _ ((k x).go _ _ (hf.put hd _) hm')
def gd(ops:Array Oper)(j:Nat):Option Nat:=(ops[j]?).bind (·.dst)
theorem ui{a:Act}{dj:Nat}(hj:gd ops j=some dj)(hf:Fr n s a){u:Value}(hb:lk s dj=some u)(hn:Nat.blt dj n.sz=true) :
  yielded ops a.tmps j=(match u with | .bool b=>some b|_=>none):=by
 have h1:=hf.get dj u hb;have hlt:dj<a.tmps.size:=by rw[hf.size];exact b6 hn
 have h2:a.tmps[dj]?=some u:=by
  rw[←h1];simp[hlt]
 unfold yielded;unfold gd at hj;rw[hj];simp only[Option.bind_some,h2]
 cases u<;>rfl
variable {c c1 c2:Code}{id:Nat}
theorem TC.seq(k:TC P c1 (Exit.then (c2.wp P Q) Q) n s M):TC P (.seq c1 c2) Q n s M:=⟨fun a w hf hm=>wp_seq (k.go a w hf hm)⟩
theorem TC.block(k:TC P c (Exit.inBlock id Q) n s M):TC P (.block id c) Q n s M:=⟨fun a w hf hm=>wp_block (k.go a w hf hm)⟩
theorem TC.region{l:List Oper}(k:T P l.toArray Q l n s M):TC P (.region id l.toArray false) Q n s M:=⟨fun a w hf hm=>wp_region_lit (k.go a w hf hm)⟩
theorem TC.skip(k:TX Q .normal n s M):TC P .skip Q n s M:=⟨fun a w hf hm=>wp_skip (k.go a w hf hm)⟩
theorem TC.exit(k:TX Q (.exit id) n s M):TC P (.exit id) Q n s M:=⟨fun a w hf hm=>wp_exit (k.go a w hf hm)⟩
theorem TC.ret(k:TX Q .ret n s M):TC P .ret Q n s M:=⟨fun a w hf hm=>wp_ret (k.go a w hf hm)⟩
theorem TC.KK{x:Operand}{b:Bool}(hx:ev s x=some (.bool b))(hb:b=true)(k:TC P c1 Q n s M):TC P (.cond x c1 c2) Q n s M:=
 ⟨fun a w hf hm=>wp_cond_true (by rw[hf.ev hx,hb]) (k.go a w hf hm)⟩
theorem TC.Lo{x:Operand}{b:Bool}(hx:ev s x=some (.bool b))(hb:b=false)(k:TC P c2 Q n s M):TC P (.cond x c1 c2) Q n s M:=
 ⟨fun a w hf hm=>wp_cond_false (by rw[hf.ev hx,hb]) (k.go a w hf hm)⟩
theorem TX.zL(k:TC P c2 Q n s M){Q':Exit→Act→World→Prop}:TX (Exit.then (c2.wp P Q) Q') .normal n s M:=⟨fun a w hf hm=>k.go a w hf hm⟩
theorem TX.EA{K:Act→World→Prop}(k:TX Q (.exit id) n s M):TX (Exit.then K Q) (.exit id) n s M:=⟨fun a w hf hm=>k.go a w hf hm⟩
theorem TX.round{ι:Type _}{s':ι→Sg}{M':ι→World→Prop}{p:ι→Prop}{μ:ι→Nat}{m:Nat}(y:ι)(hp:p y)(hμ:μ y<m)(hs:Sub (s' y) s)(hM:∀w,M w→M' y w) :
  TX (Exit.then (fun a w=>∃y,p y∧μ y<m∧Fr n (s' y) a∧M' y w) Q) .normal n s M:=⟨fun a w hf hm=>⟨y,hp,hμ,hf.sub hs,hM w hm⟩⟩
theorem TX.enter{ι:Type _}{s':ι→Sg}{M':ι→World→Prop}{p:ι→Prop}(y:ι)(hp:p y)(hs:Sub (s' y) s)(hM:∀w,M w→M' y w):∀a w,Fr n s a→M w→∃x,p x∧Fr n (s' x) a∧M' x w:=
 fun a w hf hm=>⟨y,hp,hf.sub hs,hM w hm⟩
theorem TX.xl(k:TX Q .normal n s M):TX (Exit.inBlock id Q) .normal n s M:=⟨fun a w hf hm=>k.go a w hf hm⟩
theorem TX.BT(k:TX Q .normal n s M):TX (Exit.inBlock id Q) (.exit id) n s M:=⟨fun a w hf hm=>by
 have:=k.go a w hf hm;simpa [Exit.inBlock]using this⟩
theorem TX.o4{fn:Func}{N:Nat}{R:Ending→World→Prop}{t:Nat}{v:Value}(hr:fn.results=#[.tmp t])(hv:lk s t=some v)(k:∀w,M w→R (.returned v) w):TX (bodyPost P fn R) .ret ⟨N,[]⟩ s M:=by
 refine⟨fun a w hf hm=>?_⟩;refine bodyPost_ret (results_tmp hr _ _ _) hf.defers ?_;rw[hf.get t v hv];exact k w hm
theorem TX.MH{fn:Func}{N:Nat}{R:Ending→World→Prop}(hr:fn.results=#[])(k:∀w,M w→R (.returned (.tuple #[])) w):TX (bodyPost P fn R) .normal ⟨N,[]⟩ s M:=by
 refine⟨fun a w hf hm=>?_⟩;exact bodyPost_end (results_none hr _ _ _) hf.defers (k w hm)
def FY:Nat→List Value→Sg
 |_,[]=>[]
 |i,v::l=>(i,v)::FY (i+1) l
theorem Cw:∀(l:List Value) (i j:Nat) (v:Value),lk (FY i l) j=some v→i≤j∧l[j-i]?=some v
 |[],_,_,_,h=>by simp[FY,lk]at h
 |u::l,i,j,v,h=>by
  simp only[FY,lk]at h
  cases hb:Nat.beq i j with
  |true=>
   rw[hb]at h;simp at h;have:i=j:=Nat.eq_of_beq_eq_true hb;subst this;simp[h]
  |false=>
   rw[hb]at h;simp at h;obtain⟨h1,h2⟩:=Cw l (i+1) j v h;refine⟨by omega,?_⟩;rw[show j-i=(j-(i+1))+1 by omega];simpa using h2
theorem TC.calls {N:Nat}{f:FuncId}{fn:Func}{l:List Value}{w0:World}{R:Ending→World→Prop} (hf:P.funcs[f]?=some fn) (hb:fn.body=some c) (hn:fn.ntmps=N) (hl:Nat.ble l.length N=true)
  (hm:M w0) (h:TC P c (bodyPost P fn R) ⟨N,[]⟩ (FY 0 l) M):Calls P f l.toArray w0 R:=by
 refine calls_of_wp hf hb (h.go _ _ ⟨?_,rfl,?_⟩ hm)
 ·have:=Nat.le_of_ble_eq_true hl;simp[hn];omega
 ·intro i v hi;obtain⟨_,h2⟩:=Cw l 0 i v hi;have hlt:=(List.getElem?_eq_some_iff.1 h2).1;simp at h2 hlt;simp only[Array.getElem?_append,List.getElem?_toArray,List.size_toArray,hlt,if_true,Array.getD_eq_getD_getElem?,h2,Option.getD_some]
theorem TC.loop {ι:Type _} (s':ι→Sg) (M':ι→World→Prop) (p:ι→Prop) (μ:ι→Nat)
  (h0:∀a w,Fr n s a→M w→∃x,p x∧Fr n (s' x) a∧M' x w)
  (round:∀x,p x→TC P c (Exit.then (fun a w=>∃y,p y∧μ y<μ x∧Fr n (s' y) a∧M' y w) Q) n (s' x) (M' x)):TC P (.loop c) Q n s M:=by
 refine⟨fun a w hf hm b k cs=>?_⟩;obtain⟨x0,hp0,hf0,hm0⟩:=h0 a w hf hm;have key:∀m x a w,μ x=m→p x→Fr n (s' x) a→M' x w→
   ∃e a' w',Q e a' w'∧Arrives P (lone (b.at a (.code c :: .inLoop c::k)) cs w) b k cs e a' w':=by
  intro m
  induction m using Nat.strongRecOn with
  |_ m ih=>
   intro x a w hmx hp hf hm;obtain⟨e,a₁,w₁,hq,harr⟩:=(round x hp).go a w hf hm b (.inLoop c::k) cs
   cases e with
   |normal=>
    obtain⟨y,hpy,hlt,hfy,hmy⟩:=hq;obtain⟨e₂,a₂,w₂,hq₂,harr₂⟩:=ih (μ y) (hmx▸hlt) y a₁ w₁ rfl hpy hfy hmy;exact⟨e₂,a₂,w₂,hq₂,.of_steps (Steps.trans harr (.one step_inLoop)) harr₂⟩
   |exit id=>exact⟨_,a₁,w₁,hq,.pass (x:=.inLoop c) rfl (fun _ _=>.inl (by simp)) harr⟩
   |goto l=>exact⟨_,a₁,w₁,hq,.pass (x:=.inLoop c) rfl (fun _ _=>.inl (by simp)) harr⟩
   |ret=>exact⟨_,a₁,w₁,hq,.pass (x:=.inLoop c) rfl (fun _ _=>.inl (by simp)) harr⟩
   |panic ch=>exact⟨_,a₁,w₁,hq,.pass (x:=.inLoop c) rfl (fun _ _=>.inl (by simp)) harr⟩
   |outgrown=>exact⟨_,a₁,w₁,hq,.pass (x:=.inLoop c) rfl (fun _ _=>.inl (by simp)) harr⟩
 obtain⟨e,a',w',hq,harr⟩:=key _ x0 a w rfl hp0 hf0 hm0;exact⟨e,a',w',hq,.of_steps (.one step_loop) harr⟩
end
end Go.Sl
namespace Go.Sl
open Go.RowKit
structure HP where
 on:(Nat→Prop)→World→Prop
 mono:∀{S S':Nat→Prop}{w:World},(∀b,S b→S' b)→on S w→on S' w
 loc:∀{S:Nat→Prop}{w w':World},(∀b,S b→w'.heap[b]?=w.heap[b]?)→on S w→on S w'
def Sep:List HP→(Nat→Prop)→World→Prop
 |[],_,_=>True
 |H::L,S,w=>∃S1:Nat→Prop,(∀b,S1 b→S b)∧H.on S1 w∧Sep L (fun b=>S b∧¬S1 b) w
theorem Sep.cv:∀{L:List HP}{S S':Nat→Prop}{w w':World},(∀b,S b→S' b)→(∀b,S b→w'.heap[b]?=w.heap[b]?)→Sep L S w→Sep L S' w'
 |[],_,_,_,_,_,_,_=>trivial
 |H::_,_,_,_,_,hs,hw,⟨S1,h1,h2,h3⟩=>
  ⟨S1,fun b hb=>hs b (h1 b hb),H.loc (fun b hb=>hw b (h1 b hb)) h2,
   h3.cv (fun b hb=>⟨hs b hb.1,hb.2⟩) (fun b hb=>hw b hb.1)⟩
inductive Upd:List HP→HP→HP→List HP→Prop where
 |here {H H':HP}{L:List HP}:Upd (H::L) H H' (H'::L)
 |there {H H' K:HP}{L L':List HP}:Upd L H H' L'→Upd (K::L) H H' (K::L')
inductive At:List HP→HP→Prop where
 |here {H:HP}{L:List HP}:At (H::L) H
 |there {H K:HP}{L:List HP}:At L H→At (K::L) H
theorem At.upd{L:List HP}{H:HP}(h:At L H):Upd L H H L:=by
 induction h with
 |here=>exact .here
 |there _ ih=>exact .there ih
theorem Sep.upd{L L':List HP}{H H':HP}(hu:Upd L H H' L'):∀{S:Nat→Prop}{w:World},Sep L S w→
  ∃S1:Nat→Prop,(∀b,S1 b→S b)∧H.on S1 w∧∀(S' S1':Nat→Prop) (w':World),(∀b,S b→S' b)→(∀b,S1' b→S' b)→(∀b,S1' b→S b→S1 b)→
   (∀b,S b→¬S1 b→w'.heap[b]?=w.heap[b]?)→H'.on S1' w'→Sep L' S' w':=by
 induction hu with
 |here=>
  rintro S w ⟨S1,h1,h2,h3⟩
  refine⟨S1,h1,h2,fun S' S1' w' a b c d e=>⟨S1',b,e,h3.cv (fun x hx=>⟨a x hx.1,fun hx1=>hx.2 (c x hx1 hx.1)⟩) (fun x hx=>d x hx.1 hx.2)⟩⟩
 |there _ ih=>
  rintro S w ⟨S0,h1,h2,h3⟩
  obtain⟨S1,g1,g2,g3⟩:=ih h3;refine⟨S1,fun b hb=>(g1 b hb).1,g2,fun S' S1' w' a b c d e=>⟨S0,fun x hx=>a x (h1 x hx),?_,?_⟩⟩
  ·exact HP.loc _ (fun x hx=>d x (h1 x hx) (fun hx1=>(g1 x hx1).2 hx)) h2
  ·refine g3 _ S1' w' (fun x hx=>⟨a x hx.1,hx.2⟩) (fun x hx=>⟨b x hx,fun hx0=>?_⟩) (fun x hx hx'=>c x hx hx'.1) (fun x hx hx'=>d x hx.1 hx') e;exact(g1 x (c x hx (h1 x hx0))).2 hx0
theorem Sep.at_{L:List HP}{H:HP}(h:At L H){S:Nat→Prop}{w:World}(hs:Sep L S w):∃S1:Nat→Prop,(∀b,S1 b→S b)∧H.on S1 w:=
 let⟨S1,h1,h2,_⟩:=hs.upd h.upd
 ⟨S1,h1,h2⟩
theorem Sep.swap{H K:HP}{L:List HP}{S:Nat→Prop}{w:World}(h:Sep (H::K::L) S w):Sep (K::H::L) S w:=by
 obtain⟨S1,h1,h2,S2,g1,g2,g3⟩:=h;refine⟨S2,fun b hb=>(g1 b hb).1,g2,S1,fun b hb=>⟨h1 b hb,fun hb2=>(g1 b hb2).2 hb⟩,h2,g3.cv (fun b hb=>⟨⟨hb.1.1,hb.2⟩,hb.1.2⟩) (fun _ _=>rfl)⟩
structure Chg(w w':World)(S1:Nat→Prop):Prop where
 os:w'.os=w.os
 tape:w'.tape=w.tape
 output:w'.output=w.output
 size:w.heap.size≤w'.heap.size
 block:∀b,b<w.heap.size→¬S1 b→w'.heap[b]?=w.heap[b]?
structure St(w0:World)(L:List HP)(w:World):Prop where
 below:Below w0.heap.size w0 w
 sep:Sep L (fun b=>w0.heap.size≤b∧b<w.heap.size) w
section
variable {w0 w w':World}{L L':List HP}{H H':HP}
theorem St.start(w0:World):St w0 [] w0:=⟨Below.refl _ _,trivial⟩
theorem St.upd(hu:Upd L H H' L')(h:St w0 L w):∃S1:Nat→Prop,(∀b,S1 b→w0.heap.size≤b∧b<w.heap.size)∧H.on S1 w∧
  ∀(S1':Nat→Prop) (w':World),Chg w w' S1→(∀b,S1' b→S1 b∨(w.heap.size≤b∧b<w'.heap.size))→H'.on S1' w'→St w0 L' w':=by
 obtain⟨S1,h1,h2,h3⟩:=h.sep.upd hu;refine⟨S1,h1,h2,fun S1' w' hc hs hh=>⟨?_,?_⟩⟩
 ·refine⟨hc.os.trans h.below.os,hc.tape.trans h.below.tape,hc.output.trans h.below.output,Nat.le_trans h.below.size hc.size,fun k hk=>?_⟩;rw[hc.block k (Nat.lt_of_lt_of_le hk h.below.size) (fun hb=>by have:=(h1 k hb).1;omega)];exact h.below.block k hk
 ·refine h3 _ S1' w' (fun b hb=>⟨hb.1,Nat.lt_of_lt_of_le hb.2 hc.size⟩) (fun b hb=>?_) (fun b hb hb'=>?_) (fun b hb hb'=>hc.block b hb.2 hb') hh
  ·rcases hs b hb with hb|hb
   ·exact⟨(h1 b hb).1,Nat.lt_of_lt_of_le (h1 b hb).2 hc.size⟩
   ·exact⟨Nat.le_trans h.below.size hb.1,hb.2⟩
  ·rcases hs b hb with hb|hb
   ·exact hb
   ·have:=hb'.2;omega
theorem St.push(h:St w0 L w)(hc:Chg w w' (fun _=>False))(hh:H.on (fun b=>w.heap.size≤b∧b<w'.heap.size) w'):St w0 (H::L) w':=by
 refine⟨⟨hc.os.trans h.below.os,hc.tape.trans h.below.tape,hc.output.trans h.below.output,Nat.le_trans h.below.size hc.size,fun k hk=>?_⟩,?_⟩
 ·rw[hc.block k (Nat.lt_of_lt_of_le hk h.below.size) (fun hb=>hb)];exact h.below.block k hk
 ·refine⟨fun b=>w.heap.size≤b∧b<w'.heap.size,fun b hb=>⟨Nat.le_trans h.below.size hb.1,hb.2⟩,hh,?_⟩;refine h.sep.cv (fun b hb=>⟨⟨hb.1,Nat.lt_of_lt_of_le hb.2 hc.size⟩,fun hb'=>?_⟩) (fun b hb=>hc.block b hb.2 (fun hb=>hb));have:=hb.2;omega
theorem St.grow(h:St w0 L w)(hc:Chg w w' (fun _=>False)):St w0 L w':=by
 refine⟨⟨hc.os.trans h.below.os,hc.tape.trans h.below.tape,hc.output.trans h.below.output,Nat.le_trans h.below.size hc.size,fun k hk=>?_⟩,?_⟩
 ·rw[hc.block k (Nat.lt_of_lt_of_le hk h.below.size) (fun hb=>hb)];exact h.below.block k hk
 ·exact h.sep.cv (fun b hb=>⟨hb.1,Nat.lt_of_lt_of_le hb.2 hc.size⟩) (fun b hb=>hc.block b hb.2 (fun hb=>hb))
theorem St.at_(ha:At L H)(h:St w0 L w):∃S1:Nat→Prop,(∀b,S1 b→w0.heap.size≤b∧b<w.heap.size)∧H.on S1 w:=h.sep.at_ ha
theorem St.BI(ha:At L H)(h:St w0 L w):H.on (fun b=>b<w.heap.size) w:=
 let⟨_,h1,h2⟩:=h.at_ ha
 H.mono (fun b hb=>(h1 b hb).2) h2
theorem Chg.Hx(h:Below w.heap.size w w'):Chg w w' (fun _=>False):=⟨h.os,h.tape,h.output,h.size,fun b hb _=>h.block b hb⟩
theorem Chg.drew:Chg w w.drew (fun _=>False):=⟨rfl,rfl,rfl,Nat.le_refl _,fun _ _ _=>rfl⟩
theorem St.drew(h:St w0 L w):St w0 L w.drew:=h.grow Chg.drew
theorem Chg.alloc(o:Obj):Chg w (w.alloc o) (fun _=>False):=⟨rfl,rfl,rfl,by simp,fun b hb _=>Below.heap_alloc w o b hb⟩
theorem Chg.grown{row:Option Nat}{S1:Nat→Prop}(h:w.grownBy w' row)(hr:∀g,row=some g→S1 g):Chg w w' S1:=
 ⟨h.os,h.tape,h.output,h.size,fun b hb hn=>h.block b hb (fun e=>hn (hr b e.symm))⟩
end
def blk(b:Nat)(cs:List Value)(t:TypeId):HP where
 on S w:=S b∧w.heap[b]?=some (.cells cs.toArray t (0,0))
 mono h hh:=⟨h _ hh.1,hh.2⟩
 loc h hh:=⟨hh.1,(h _ hh.1).trans hh.2⟩
def Arr(sz:Nat)(S:Nat→Prop)(w:World)(A:Option Addr)(n:Nat)(rows:List (List Value)):Prop:=
 rows.length=n∧(∀r∈rows,r.length=sz)∧(0<n→∃a,A=some a∧S a.block∧∀j v,rows.flatten[j]?=some v→w.cell? (a.add j)=some v)
theorem pU(a:Addr)(j:Nat):(a.add j).block=a.block:=by unfold Addr.add;split<;>rfl
theorem add_add(a:Addr)(i j:Nat):(a.add i).add j=a.add (i+j):=by
 unfold Addr.add
 by_cases hi:i=0<;>by_cases hj:j=0<;>simp[hi,hj,Nat.add_assoc]
theorem add_lit(b o j:Nat):(⟨b,o,none⟩:Addr).add j=⟨b,o+j,none⟩:=by unfold Addr.add;split<;>simp_all
theorem Arr.mono{sz n:Nat}{S S':Nat→Prop}{w:World}{A:Option Addr}{rows:List (List Value)}(h:∀b,S b→S' b)(hh:Arr sz S w A n rows):Arr sz S' w A n rows:=
 ⟨hh.1,hh.2.1,fun hn=>let⟨a,h1,h2,h3⟩:=hh.2.2 hn;⟨a,h1,h _ h2,h3⟩⟩
theorem Arr.loc{sz n:Nat}{S:Nat→Prop}{w w':World}{A:Option Addr}{rows:List (List Value)}(h:∀b,S b→w'.heap[b]?=w.heap[b]?)(hh:Arr sz S w A n rows):Arr sz S w' A n rows:=
 ⟨hh.1,hh.2.1,fun hn=>let⟨a,h1,h2,h3⟩:=hh.2.2 hn;⟨a,h1,h2,fun j v hj=>
  (World.cell?_of_block (w:=w) (w':=w') (a:=a.add j) (by rw[pU];exact h _ h2)).trans (h3 j v hj)⟩⟩
theorem Arr.nil{sz:Nat}{S:Nat→Prop}{w:World}{A:Option Addr}:Arr sz S w A 0 []:=⟨rfl,by simp,fun h=>absurd h (by omega)⟩
theorem m7{sz:Nat}:∀{rows:List (List Value)} (_:∀r∈rows,r.length=sz) {i j:Nat}{r:List Value},rows[i]?=some r→j<sz→rows.flatten[i*sz+j]?=r[j]?
 |[],_,i,j,r,hi,_=>by simp at hi
 |x::l,h,0,j,r,hi,hj=>by
  simp at hi;subst hi;have hx:=h x (by simp);simp[List.flatten_cons,List.getElem?_append,hx,hj]
 |x::l,h,i+1,j,r,hi,hj=>by
  simp at hi;have hx:=h x (by simp);have:=m7 (rows:=l) (fun r hr=>h r (by simp[hr])) hi hj;rw[List.flatten_cons,List.getElem?_append_right (by rw[hx,Nat.add_mul];omega),←this]
  congr 1
  rw[hx,Nat.add_mul];omega
theorem length_flatten{sz:Nat}:∀{rows:List (List Value)} (_:∀r∈rows,r.length=sz),rows.flatten.length=rows.length*sz
 |[],_=>by simp
 |x::l,h=>by
  rw[List.flatten_cons,List.length_append,h x (by simp),length_flatten (rows:=l) (fun r hr=>h r (by simp[hr])),List.length_cons,Nat.add_mul];omega
theorem Arr.cell {sz n:Nat}{S:Nat→Prop}{w:World}{A:Option Addr}{rows:List (List Value)} (h:Arr sz S w A n rows) {i j:Nat}{r:List Value}{v:Value}
  (hi:rows[i]?=some r) (hj:r[j]?=some v):w.cell? ((A.getD default).add (i*sz+j))=some v:=by
 have hin:i<n:=by rw[←h.1];exact(List.getElem?_eq_some_iff.1 hi).1
 obtain⟨a,rfl,_,hc⟩:=h.2.2 (by omega);have hr:=h.2.1 r (List.mem_of_getElem? hi);have hjs:j<sz:=by rw[←hr];exact(List.getElem?_eq_some_iff.1 hj).1
 exact hc _ _ ((m7 h.2.1 hi hjs).trans hj)
theorem Arr.some_{sz n:Nat}{S:Nat→Prop}{w:World}{A:Option Addr}{rows:List (List Value)}(h:Arr sz S w A n rows)(hn:0<n):A=some (A.getD default):=by
 obtain⟨a,rfl,_⟩:=h.2.2 hn;rfl
def own(e sz:Nat)(A:Option Addr)(n c:Nat)(rows:List (List Value)):HP where
 on S w:=w.ownsRow 0 e sz (.slice A n c) n rows.flatten∧rows.length=n∧(∀r∈rows,r.length=sz)∧(∀g,(Value.slice A n c).ownBlock=some g→S g)
 mono h hh:=⟨hh.1,hh.2.1,hh.2.2.1,fun g hg=>h _ (hh.2.2.2 g hg)⟩
 loc h hh:=by
  refine⟨⟨hh.1.1,?_⟩,hh.2⟩;rcases hh.1.2 with h2|⟨g,cap,cur,hv,hg,hw,hr⟩
  ·exact .inl h2
  ·refine .inr ⟨g,cap,cur,hv,hg,?_,hr⟩;rw[h g (hh.2.2.2 g (by rw[hv];rfl))];exact hw
theorem own.arr{e sz n c:Nat}{A:Option Addr}{rows:List (List Value)}{S:Nat→Prop}{w:World}(h:(own e sz A n c rows).on S w):Arr sz S w A n rows:=by
 obtain⟨h1,h2,h3,h4⟩:=h;refine⟨h2,h3,fun hn=>?_⟩;rcases h1.2 with⟨hv,h0⟩|⟨g,cap,cur,hv,hg,hw,hr⟩
 ·omega
 ·injection hv with hA
  subst hA;exact⟨_,rfl,h4 g rfl,h1.cells (g:=g) rfl⟩
section
variable {w0 w:World}{L L':List HP}
theorem St.zm{b t:Nat}{cs:List Value}(h:St w0 L w)(ha:At L (blk b cs t)):w.heap[b]?=some (.cells cs.toArray t (0,0)):=(h.BI ha).2
theorem St.ue{b t:Nat}{cs:List Value}(h:St w0 L w)(ha:At L (blk b cs t)){i:Nat}{v:Value}(hi:cs[i]?=some v):w.cell? ⟨b,i,none⟩=some v:=by
 rw[cell_of_row w b i _ _ _ (h.zm ha)];simpa using hi
theorem St.Hi{p:Addr}{v:Value}(h:St w0 L w)(hp:w0.cell? p=some v):w.cell? p=some v:=by
 rw[h.below.cell (World.block_lt_of_cell? w0 p hp)];exact hp
end
end Go.Sl
namespace Go.Sl
open Go.RowKit
class FA(P:Program)(t i:Nat)(off:outParam Nat):Prop where
 run:∀p w,(Instr.fieldAt t (.pointer (some p)) i).run P w=.ok (.pointer (some (p.add off))) w
class L1(P:Program)(t:Nat):Prop where
 run:∀p w v,w.cell? p=some v→(loadVar t p).run P w=.ok v w
class LN(P:Program)(t:Nat)(k:outParam Nat):Prop where
 run:∀p w (cs:List Value),cs.length=k→(∀j v,cs[j]?=some v→w.cell? (p.add j)=some v)→(loadVar t p).run P w=.ok (.agg cs.toArray) w
class SlT(P:Program)(t:Nat)(e sz by_:outParam Nat)(z:outParam Value):Prop where
 und:P.underlying t=some (.slice e)
 info:∃i,P.info? e=some i∧i.zero=some z∧i.size=sz∧i.bytes=by_
 zsz:z.cells.size=sz
 pos:0<sz
class CF(P:Program)(f:Nat):Prop where
 run:∀args w,(callFunc f args).run P w=.ok (.enter f args) w
class SZ(P:Program)(t:Nat)(k:outParam Nat):Prop where
 info:∃i,P.info? t=some i∧i.size=k
class ZV(P:Program)(t:Nat)(z:outParam Value):Prop where
 run:∀w,(zeroValue t).run P w=.ok z w
class AT(P:Program)(t:Nat)(len e sz:outParam Nat):Prop where
 und:P.underlying t=some (.array len e)
 info:∃i,P.info? e=some i∧i.size=sz
class UD(P:Program)(t:Nat)(d:outParam TypeDesc):Prop where
 eq:P.underlying t=some d
section
variable {P:Program}
theorem SZ.of{t k:Nat}(h:(P.info? t).map (·.size)=some k):SZ P t k:=by
 obtain⟨i,hi,hk⟩:=Option.map_eq_some_iff.1 h;exact⟨⟨i,hi,hk⟩⟩
theorem ZV.of{t:Nat}{z:Value}(h:(P.info? t).map (·.zero)=some (some z)):ZV P t z:=by
 obtain⟨i,hi,hk⟩:=Option.map_eq_some_iff.1 h;exact⟨fun w=>by simp[zeroValue,typeInfo,hi,hk]⟩
theorem FA.of {t i off:Nat}{fs:Array Field}{f:Field} (hu:P.underlying t=some (.struct fs)) (hf:fs[i]?=some f) (ho:f.offset=off)
  (hs:(P.info? f.type).map (fun i=>Nat.blt 0 i.size)=some true):FA P t i off:=by
 obtain⟨j,hj,hk⟩:=Option.map_eq_some_iff.1 hs;have hk:¬j.size=0:=by have:=b6 hk;omega
 refine⟨fun p w=>?_⟩;subst ho;simp[Instr.fieldAt,run_underlying hu,hf,Instr.sureAddr,fieldPlace,sizeOf,typeInfo,hj,hk]
theorem L1.of{t:Nat}{d:TypeDesc}(hu:P.underlying t=some d)(hd:(match d with | .struct _ | .array _ _=>true|_=>false)=false):L1 P t:=by
 refine⟨fun p w v hv=>?_⟩
 cases d<;>simp at hd<;>simp[loadVar,isAgg,run_underlying hu,hv]
theorem LN.of{t:Nat}{d:TypeDesc}{k:Nat}(hu:P.underlying t=some d)(hd:(match d with | .struct _ | .array _ _=>true|_=>false)=true)(hs:(P.info? t).map (·.size)=some k):LN P t k:=by
 obtain⟨⟨i,hi,hk⟩⟩:=SZ.of hs;refine⟨fun p w cs hl hc=>?_⟩;have:=run_loadCells_list (P:=P) w p cs hc;rw[hl]at this
 cases d<;>simp at hd<;>simp[loadVar,isAgg,run_underlying hu,sizeOf,typeInfo,hi,hk,this]
theorem SlT.of {t e sz by_:Nat}{z:Value} (hu:P.underlying t=some (.slice e)) (hi:(P.info? e).map (fun i=>(i.zero,i.size,i.bytes))=some (some z,sz,by_))
  (hz:z.cells.size=sz) (hp:Nat.blt 0 sz=true):SlT P t e sz by_ z:=
 ⟨hu,info_parts hi,hz,b6 hp⟩
theorem CF.of{f:FuncId}{fn:Func}(hf:P.funcs[f]?=some fn)(hn:(fn.name== "runtime.NumGoroutine")=false)(hb:fn.body.isNone=false):CF P f:=by
 refine⟨fun args w=>?_⟩;have hn':¬fn.name= "runtime.NumGoroutine":=by simpa using hn
 have hb':¬fn.body=none:=by intro h;simp[h]at hb
 simp[callFunc,hf,hn',hb']
end
def I64(x:Int):Prop:=-9223372036854775808≤x∧x≤9223372036854775807
section
variable {P:Program}{n:FD}{s:Sg}{M:World→Prop}{ty:TypeId}
theorem Ev.move{x:Operand}{v:Value}(hx:ev s x=some v):Ev P n s M (.move x) ty v:=by
 refine⟨fun a w o ho ht hf hm=>?_⟩;simp[execOp,ho,hf.ev hx]
theorem Ev.assign{x:Operand}{v:Value}(hx:ev s x=some v):Ev P n s M (.assign x) ty v:=by
 refine⟨fun a w o ho ht hf hm=>?_⟩;simp[execOp,ho,hf.ev hx]
theorem Ev.lss{x y:Operand}{t u:TypeId}{k:IntKind}{a b:Int}(hx:ev s x=some (.int k a))(hy:ev s y=some (.int k b)):Ev P n s M (.binOp .lss t x y u) ty (.bool (decide (a<b))):=by
 refine⟨fun ac w o ho ht hf hm=>?_⟩;simp[execOp,ho,hf.ev hx,hf.ev hy,eqGuard,binOp,Op.intCmp]
theorem Ev.eql{x y:Operand}{t u:TypeId}{k:IntKind}{a b:Int}(hx:ev s x=some (.int k a))(hy:ev s y=some (.int k b)):Ev P n s M (.binOp .eql t x y u) ty (.bool (decide (a=b))):=by
 refine⟨fun ac w o ho ht hf hm=>?_⟩;have:(a==b)=decide (a=b):=by rw[Bool.eq_iff_iff];simp
 simp[execOp,ho,hf.ev hx,hf.ev hy,eqGuard,binOp,Op.intCmp,this]
theorem Ev.add{x y:Operand}{t u:TypeId}{a b:Int}(hx:ev s x=some (.int .i64 a))(hy:ev s y=some (.int .i64 b))(hb:I64 (a+b)):Ev P n s M (.binOp .add t x y u) ty (.int .i64 (a+b)):=by
 refine⟨fun ac w o ho ht hf hm=>?_⟩;simp[execOp,ho,hf.ev hx,hf.ev hy,eqGuard,binOp,Op.intArith,IntWalk.i64_in _ hb]
theorem Ev.succ{x:Operand}{t u:TypeId}{k:Nat}(hx:ev s x=some (.int .i64 (k:Int)))(hb:(k:Int)<9223372036854775807):Ev P n s M (.binOp .add t x (.const (.int .i64 1)) u) ty (.int .i64 ((k+1:Nat):Int)):=by
 have:=Ev.add (P:=P) (n:=n) (M:=M) (ty:=ty) (t:=t) (u:=u) (y:=.const (.int .i64 1)) (b:=1) hx rfl (by unfold I64;omega);simpa using this
theorem Ev.conv{x:Operand}{t u:TypeId}{k k':IntKind}{a b:Int}[ht:UD P t (.int k)][hu:UD P u (.int k')](hx:ev s x=some (.int k a))(hb:k'.wrap a=b) :
  Ev P n s M (.convert t u x) ty (.int k' b):=by
 refine⟨fun ac w o ho ht' hf hm=>?_⟩;simp[execOp,ho,hf.ev hx,convert,run_underlying ht.eq,run_underlying hu.eq,Conv.intToInt,hb]
theorem Ev.CI{x:Operand}{t u:TypeId}{a:Int}[ht:UD P t (.int .u8)][hu:UD P u (.int .i64)](hx:ev s x=some (.int .u8 a))(hb:0≤a∧a≤255) :
  Ev P n s M (.convert t u x) ty (.int .i64 a):=Ev.conv hx (IntWalk.i64_in _ (by omega))
theorem run_equal_bool{t:TypeId}(ht:P.underlying t=some .bool)(a b:Bool)(w:World):(Op.equal t (.bool a) (.bool b)).run P w=.ok (a==b) w:=by
 show(Op.equalIn (9999+1) t (.bool a) (.bool b)).run P w=_
 rw[Op.equalIn];simp[run_underlying ht]
theorem toList_eq(a b:ByteArray):(a.toList==b.toList)=decide (a=b):=by
 rw[Bool.eq_iff_iff];simp only[beq_iff_eq,decide_eq_true_eq]
 constructor
 ·intro h;rw[ByteArray.toList_eq,ByteArray.toList_eq]at h
  cases a;cases b;simp at h;simp[h]
 ·rintro rfl;rfl
theorem Ev.fieldAddr{x:Operand}{t i off:Nat}{p:Addr}[h:FA P t i off](hx:ev s x=some (.pointer (some p))):Ev P n s M (.fieldAddr t x i) ty (.pointer (some (p.add off))):=by
 refine⟨fun ac w o ho ht hf hm=>?_⟩;simp[execOp,ho,hf.ev hx,h.run p w]
theorem Ev.uT{x:Operand}{t i off b k:Nat}[h:FA P t i off](hx:ev s x=some (.pointer (some ⟨b,k,none⟩))):Ev P n s M (.fieldAddr t x i) ty (.pointer (some ⟨b,k+off,none⟩)):=by
 rw[←add_lit];exact Ev.fieldAddr hx
theorem Ev.nilCheck{x:Operand}{p:Addr}(hx:ev s x=some (.pointer (some p))):Ev P n s M (.nilCheck x) ty (.pointer (some p)):=by
 refine⟨fun ac w o ho ht hf hm=>?_⟩;simp[execOp,ho,hf.ev hx]
theorem Ev.wv{x y:Operand}{t len e sz b o i:Nat}{k:IntKind}[ht:AT P t len e sz](hx:ev s x=some (.pointer (some ⟨b,o,none⟩)))(hy:ev s y=some (.int k (i:Int)))(hi:i<len):Ev P n s M (.indexAddr t x y) ty (.pointer (some ⟨b,o+i*sz,none⟩)):=by
 refine⟨fun ac w oo ho ht' hf hm=>?_⟩;obtain⟨inf,h1,h2⟩:=ht.info;simp[execOp,ho,hf.ev hx,hf.ev hy,Instr.indexAt,Instr.sureAddr,asIntOf,run_underlying ht.und,sizeOf,typeInfo,h1,h2,hi,add_lit]
theorem Ev.Ek{x:Operand}{t e:TypeId}{A:Option Addr}{m c:Nat}[ht:UD P t (.slice e)](hx:ev s x=some (.slice A m c)) :
  Ev P n s M (.call { callee:=.builtin .len,args:=#[x],argTypes:=#[t] }) ty (.int .i64 (m:Int)):=by
 refine⟨fun ac w o ho ht' hf hm=>?_⟩;simp[execOp,ho,resolve,hf.ev hx,invoke,builtin,Builtin.len_,run_underlying ht.eq,goInt]
theorem Ev.kW {x:Operand}{t e sz by_:Nat}{z:Value}{A:Option Addr}{m c:Nat}{lo hi:Option Operand}{l h:Nat} [ht:SlT P t e sz by_ z] (hx:ev s x=some (.slice A m c))
  (hl:(lo=none∧l=0)∨∃y k,lo=some y∧ev s y=some (.int k (l:Int))) (hh:(hi=none∧h=m)∨∃y k,hi=some y∧ev s y=some (.int k (h:Int))) (hlh:l≤h) (hha:h≤c) :
  Ev P n s M (.slice t x lo hi none) ty (.slice (if c=l then A else A.map (·.add (l*sz))) (h-l) (c-l)):=by
 refine⟨fun ac w o ho ht' hf hm=>?_⟩;obtain⟨inf,h1,h2,h3,h4⟩:=ht.info;rcases hl with⟨rfl,rfl⟩|⟨y,k,rfl,hy⟩<;>rcases hh with⟨rfl,rfl⟩|⟨y',k',rfl,hy'⟩
 ·simp[execOp,ho,hf.ev hx,Instr.sliceAt,Instr.slice,Instr.sliceBounds,run_underlying ht.und,sizeOf,typeInfo,h1,h3]
 ·simp[execOp,ho,hf.ev hx,hf.ev hy',Instr.sliceAt,Instr.slice,Instr.sliceBounds,Instr.sliceBound,asIntOf,run_underlying ht.und,hha,sizeOf,typeInfo,h1,h3]
 ·simp[execOp,ho,hf.ev hx,hf.ev hy,Instr.sliceAt,Instr.slice,Instr.sliceBounds,Instr.sliceBound,asIntOf,run_underlying ht.und,hlh,sizeOf,typeInfo,h1,h3]
 ·simp[execOp,ho,hf.ev hx,hf.ev hy,hf.ev hy',Instr.sliceAt,Instr.slice,Instr.sliceBounds,Instr.sliceBound,asIntOf,run_underlying ht.und,hha,hlh,sizeOf,typeInfo,h1,h3]
theorem Ev.GB{x y:Operand}{t e sz by_:Nat}{z:Value}{A:Option Addr}{m c h:Nat}{k:IntKind}[ht:SlT P t e sz by_ z](hx:ev s x=some (.slice A m c))(hy:ev s y=some (.int k (h:Int)))(hha:h≤c) :
  Ev P n s M (.slice t x none (some y) none) ty (.slice A h c):=by
 have:=Ev.kW (P:=P) (t:=t) (n:=n) (s:=s) (M:=M) (ty:=ty) (lo:=none) (hi:=some y) (l:=0) (h:=h) hx (.inl ⟨rfl,rfl⟩) (.inr ⟨y,k,rfl,hy⟩) (by omega) hha;have e1:(if c=0 then A else A.map (·.add (0*sz)))=A:=by
  split
  ·rfl
  ·cases A<;>simp[Addr.add]
 rwa [e1,Nat.sub_zero,Nat.sub_zero]at this
theorem Ev.Kt{x:Operand}{t:TypeId}{p:Addr}{v:Value}[h:L1 P t](hx:ev s x=some (.pointer (some p)))(hv:∀w,M w→w.cell? p=some v):Ev P n s M (.load t x) ty v:=by
 refine⟨fun ac w o ho ht hf hm=>?_⟩;simp[execOp,ho,hf.ev hx,Instr.loadAt,Instr.sureAddr,h.run p w v (hv w hm)]
theorem Ev.NL{x:Operand}{t k:Nat}{p:Addr}{cs:List Value}[h:LN P t k](hx:ev s x=some (.pointer (some p)))(hk:cs.length=k)(hv:∀w,M w→∀j v,cs[j]?=some v→w.cell? (p.add j)=some v) :
  Ev P n s M (.load t x) ty (.agg cs.toArray):=by
 refine⟨fun ac w o ho ht hf hm=>?_⟩;simp[execOp,ho,hf.ev hx,Instr.loadAt,Instr.sureAddr,h.run p w cs hk (hv w hm)]
theorem qK {t:TypeId}{z:Value}{pl:Array (Nat×Nat)}{fs:Array Field}{vs:Array (Nat×Value)}{cs:Array Value} (hz:∀w,(zeroValue t).run P w=.ok z w) (hu:P.underlying t=some (.struct fs))
  (hp:∀w,(fs.mapM fun f=>(do pure (f.offset,←sizeOf f.type):Sem (Nat×Nat))).run P w=.ok pl w) (hc:Instr.fill (pl[·]?) z.cells vs.toList=some cs) (w:World):(Instr.build t vs).run P w=.ok (.agg cs) w:=by
 unfold Instr.build;rw[Sem.run_bind,hz w,Result.andThen_ok,Sem.run_bind,run_underlying hu,Result.andThen_ok];simp only;rw[Sem.run_bind,hp w,Result.andThen_ok];simp only[hc];rfl
class PL(P:Program)(t:Nat)(z:outParam Value)(pl:outParam (Array (Nat×Nat))):Prop where
 run:∀(vs:Array (Nat×Value)) cs w,Instr.fill (pl[·]?) z.cells vs.toList=some cs→(Instr.build t vs).run P w=.ok (.agg cs) w
theorem PL.of {t:TypeId}{z:Value}{pl:Array (Nat×Nat)}{fs:Array Field} (hz:∀w,(zeroValue t).run P w=.ok z w) (hu:P.underlying t=some (.struct fs))
  (hp:∀w,(fs.mapM fun f=>(do pure (f.offset,←sizeOf f.type):Sem (Nat×Nat))).run P w=.ok pl w):PL P t z pl:=⟨fun _ _ w hc=>qK hz hu hp hc w⟩
def evp(s:Sg):List (Nat×Operand)→Option (List (Nat×Value))
 |[]=>some []
 |p::l=>match ev s p.2,evp s l with
  |some v,some vs=>some ((p.1,v)::vs)
  |_,_=>none
theorem Ev.Bn{t len e sz:Nat}{cs:Array Value}[ht:AT P t len e sz][hz:ZV P t (.agg cs)]:Ev P n s M (.build t #[]) ty (.agg cs):=by
 refine⟨fun ac w o ho ht' hf hm=>?_⟩;obtain⟨inf,h1,h2⟩:=ht.info;simp[execOp,ho,Instr.build,hz.run w,run_underlying ht.und,sizeOf,typeInfo,h1,Value.cells,Instr.fill]
end
end Go.Sl
namespace Go.Sl
open Go.RowKit
inductive Del:List HP→HP→List HP→Prop where
 |here {H:HP}{L:List HP}:Del (H::L) H L
 |there {H K:HP}{L L':List HP}:Del L H L'→Del (K::L) H (K::L')
theorem Sep.N9{L L':List HP}{H:HP}(h:Del L H L'):∀{S:Nat→Prop}{w:World},Sep L S w→Sep (H::L') S w:=by
 induction h with
 |here=>exact fun h=>h
 |there _ ih=>
  rintro S w ⟨S1,h1,h2,h3⟩
  obtain⟨S2,g1,g2,g3⟩:=ih h3;exact Sep.swap ⟨S1,h1,h2,S2,g1,g2,g3⟩
section
variable {w0 w:World}{L L':List HP}{H:HP}
theorem St.del(h:Del L H L')(hs:St w0 L w):St w0 (H::L') w:=⟨hs.below,hs.sep.N9 h⟩
end
section
variable {P:Program}{ops:Array Oper}{Q:Exit→Act→World→Prop}{rest:List Oper}{n:FD}{s:Sg}{M:World→Prop}
 {op:Op}{ty:TypeId}{pos:String}{af:Array Edge}{d:Nat}{v:Value}{w0:World}{L L':List HP}
theorem Chg.refl{w:World}{S1:Nat→Prop}:Chg w w S1:=⟨rfl,rfl,rfl,Nat.le_refl _,fun _ _ _=>rfl⟩
theorem St.alloc{w:World}(h:St w0 L w)(cs:List Value)(t:TypeId):St w0 (blk w.heap.size cs t::L) (w.alloc (.cells cs.toArray t)):=by
 refine h.push (Chg.alloc _) ⟨⟨Nat.le_refl _,by simp⟩,heap_alloc_new w _⟩
theorem jg(w:World)(o:Obj):{ w with heap:=w.heap.push o }=w.alloc o:=rfl
theorem Ac.box{x:Operand}{t:TypeId}{cs:List Value}(hx:ev s x=some v)(hv:v.cells=cs.toArray):Ac P n s (St w0 L) (.box t x) ty (ι:=Nat) (fun b=>.pointer (some ⟨b,0,none⟩)) (fun b=>St w0 (blk b cs t::L)):=by
 refine⟨fun a w o ho ht hf hm=>?_⟩;refine⟨w.heap.size,w.alloc (.cells cs.toArray t),?_,hm.alloc cs t⟩;simp[execOp,ho,hf.ev hx,Instr.box,newVar,newRow,hv,jg]
theorem T.box {x:Operand}{t:TypeId}{cs:List Value} (hd:Nat.blt d n.sz=true) (hx:ev s x=some v) (hv:v.cells=cs.toArray)
  (k:∀b,T P ops Q rest n ((d,.pointer (some ⟨b,0,none⟩))::s) (St w0 (blk b cs t::L))):T P ops Q (⟨some d,.box t x,ty,pos,af,none⟩::rest) n s (St w0 L):=
 T.act hd (Ac.box hx hv) k
theorem Ac.alloc{t:TypeId}{z:Value}{cs:List Value}[hz:ZV P t z](hv:z.cells=cs.toArray):Ac P n s (St w0 L) (.alloc t) ty (ι:=Nat) (fun b=>.pointer (some ⟨b,0,none⟩)) (fun b=>St w0 (blk b cs t::L)):=by
 refine⟨fun a w o ho ht hf hm=>?_⟩;refine⟨w.heap.size,w.alloc (.cells cs.toArray t),?_,hm.alloc cs t⟩;simp[execOp,ho,Instr.alloc,hz.run w,newVar,newRow,hv,jg]
theorem T.alloc {t:TypeId}{z:Value}{cs:List Value} (hd:Nat.blt d n.sz=true) [hz:ZV P t z] (hv:z.cells=cs.toArray)
  (k:∀b,T P ops Q rest n ((d,.pointer (some ⟨b,0,none⟩))::s) (St w0 (blk b cs t::L))):T P ops Q (⟨some d,.alloc t,ty,pos,af,none⟩::rest) n s (St w0 L):=
 T.act hd (Ac.alloc hv) k
def bP(cs:List Value)(o:Nat)(vs:List Value):List Value:=cs.take o++vs++cs.drop (o+vs.length)
theorem mS{cs vs:List Value}{o:Nat}(h:o+vs.length≤cs.length):(bP cs o vs).length=cs.length:=by
 simp[bP];omega
theorem zB{l vs:List Value}{p N:Nat}(h:p+vs.length≤N)(hp:p≤l.length):(bP l p vs).take N=bP (l.take N) p vs:=by
 unfold bP;have h1:(l.take p).length=p:=by simp;omega
 rw[List.append_assoc,List.take_append,List.take_of_length_le (by omega),h1,List.take_append,List.take_of_length_le (l:=vs) (by omega),List.drop_take,List.take_take,Nat.min_eq_left (by omega)];simp[Nat.sub_sub]
theorem jI{w:World}{g:Nat}{cs:Array Value}{S1:Nat→Prop}(hg:S1 g):Chg w (w.setRow g cs) S1:=
 ⟨rfl,rfl,rfl,by simp,fun b _ hn=>setRow_other w g b cs (fun e=>hn (by subst e;exact hg))⟩
def cb(vs:List Value):Bool:=vs.all (·.oneCell')
theorem gI{vs:List Value}(h:cb vs=true):∀v∈vs,v.oneCell'=true:=by simpa [cb]using h
theorem Ac.store {x y:Operand}{t t' b o k0:Nat}{cs vs:List Value} [hs:SZ P t k0] (hx:ev s x=some (.pointer (some ⟨b,o,none⟩))) (hy:ev s y=some v) (hv:v.cells=vs.toArray) (hk0:vs.length=k0) (h1:cb vs=true)
  (hu:Upd L (blk b cs t') (blk b (bP cs o vs) t') L') (hi:Nat.ble (o+vs.length) cs.length=true):AcN P n s (St w0 L) (.store t x y) ty (ι:=Unit) (fun _=>St w0 L'):=by
 refine⟨fun a w oo ho ht hf hm=>?_⟩;obtain⟨S1,g1,g2,g3⟩:=hm.upd hu;obtain⟨i,hi1,hi2⟩:=hs.info;rw[←hk0]at hi2;have hle:o+vs.length≤cs.length:=Nat.le_of_ble_eq_true hi;have hst:=run_storeCells_at P b o t' vs 0 cs.toArray w g2.2 (by simpa using hle) (gI h1);refine⟨(),w.setRow b (bP cs o vs).toArray,.inl ?_,g3 S1 _ (jI g2.1) (fun b hb=>.inl hb) ⟨g2.1,setRow_heap w b cs.toArray _ t' (0,0) g2.2⟩⟩;simp only[Nat.add_zero]at hst;simp[execOp,ho,hf.ev hx,hf.ev hy,Instr.storeAt,Instr.sureAddr,storeVar,sizeOf,typeInfo,hi1,hi2,hv,hst,bP]
theorem T.store {x y:Operand}{t t' b o k0:Nat}{cs vs:List Value} [hs:SZ P t k0] (hx:ev s x=some (.pointer (some ⟨b,o,none⟩))) (hy:ev s y=some v) (hv:v.cells=vs.toArray) (hk0:vs.length=k0) (h1:cb vs=true)
  (hu:Upd L (blk b cs t') (blk b (bP cs o vs) t') L') (hi:Nat.ble (o+vs.length) cs.length=true)
  (k:T P ops Q rest n s (St w0 L')):T P ops Q (⟨none,.store t x y,ty,pos,af,none⟩::rest) n s (St w0 L):=
 T.MR (Ac.store hx hy hv hk0 h1 hu hi) (fun _=>k)
theorem ri{sz:Nat}:∀{rows:List (List Value)} (_:∀r∈rows,r.length=sz) {i:Nat}{r vs:List Value}{o:Nat},rows[i]?=some r→o+vs.length≤sz→
  (rows.set i (bP r o vs)).flatten=bP rows.flatten (i*sz+o) vs
 |[],_,i,r,vs,o,hi,_=>by simp at hi
 |x::l,h,0,r,vs,o,hi,ho=>by
  simp at hi;subst hi;have hx:=h x (by simp);simp only[List.set_cons_zero,List.flatten_cons,bP,Nat.zero_mul,Nat.zero_add];rw[List.take_append_of_le_length (by omega),List.drop_append_of_le_length (by omega)];simp[List.append_assoc]
 |x::l,h,i+1,r,vs,o,hi,ho=>by
  simp at hi;have hx:=h x (by simp);have ih:=ri (rows:=l) (fun r hr=>h r (by simp[hr])) hi ho;rw[List.set_cons_succ,List.flatten_cons,List.flatten_cons,ih];unfold bP;rw[show(i+1)*sz+o=x.length+(i*sz+o)by rw[hx,Nat.add_mul];omega];rw[List.take_append,List.drop_append,List.take_of_length_le (l:=x) (by omega),List.drop_of_length_le (l:=x) (by omega)];simp[Nat.add_assoc,Nat.add_sub_cancel_left]
theorem own.store {e sz m c:Nat}{A:Option Addr}{rows:List (List Value)}{S:Nat→Prop}{w:World} (h:(own e sz A m c rows).on S w) {i o:Nat}{r vs:List Value}
  (hi:rows[i]?=some r) (ho:o+vs.length≤sz) (h1:cb vs=true) (h0:0<vs.length) :
  ∃w',(storeCells ((A.getD default).add (i*sz+o)) vs).run P w=.ok () w'∧Chg w w' S∧(own e sz A m c (rows.set i (bP r o vs))).on S w':=by
 obtain⟨⟨hl,hc⟩,h2,h3,h4⟩:=h;have hin:i<rows.length:=(List.getElem?_eq_some_iff.1 hi).1;have hr:=h3 r (List.mem_of_getElem? hi);rcases hc with⟨hv,h0'⟩|⟨g,cap,cur,hv,hg,hw,hr1,hr2,hr3,hr4⟩
 ·omega
 ·injection hv with hA hm' hcap
  subst hA;subst hcap;have hsz:i*sz+sz≤m*sz:=by
   have:=Nat.mul_le_mul_right sz (show i+1≤m by omega);rw[Nat.add_mul]at this;omega
  have hmc:m*sz≤c*sz:=Nat.mul_le_mul_right sz hr1;have hle:i*sz+o+vs.length≤cur.size:=by omega
  have hst:=run_storeCells_at P g (i*sz+o) e vs 0 cur w hw (by simpa using hle) (gI h1);simp only[Nat.add_zero]at hst;have hfl:=ri h3 hi ho;refine⟨w.setRow g (List.take (i*sz+o) cur.toList++vs++List.drop (i*sz+o+vs.length) cur.toList).toArray,?_,jI (h4 g rfl),⟨⟨?_,.inr ⟨g,c,_,rfl,hg,setRow_heap w g cur _ e (0,0) hw,hr1,hr2,?_,?_⟩⟩,by simpa using h2,?_,h4⟩⟩
  ·simp only[Option.getD_some,add_lit,Nat.zero_add];exact hst
  ·rw[hfl,mS (by rw[hl];omega),hl]
  ·simp only[List.size_toArray,List.length_append,List.length_take,List.length_drop,Array.length_toList];omega
  ·rw[hfl,←hr4];exact zB (by omega) (by simp;omega)
  ·intro x hx;rcases List.mem_or_eq_of_mem_set hx with hx|rfl
   ·exact h3 x hx
   ·rw[mS (by omega)];exact hr
theorem qQ{sz:Nat}{zl:List Value}(hz:zl.length=sz)(hp:0<sz):∀(m j:Nat),(List.replicate m zl).flatten[j]?=if j<m*sz then zl[j % sz]? else none
 |0,j=>by simp
 |m+1,j=>by
  rw[List.replicate_succ,List.flatten_cons,List.getElem?_append,hz]
  by_cases h:j<sz
  ·rw[if_pos h,if_pos (by rw[Nat.add_mul];omega),Nat.mod_eq_of_lt h]
  ·rw[if_neg h,qQ hz hp m (j-sz)];have e:(j-sz) % sz=j % sz:=by rw[←Nat.mod_eq_sub_mod (by omega)]
   rw[e]
   by_cases h2:j<(m+1)*sz
   ·rw[if_pos h2,if_pos (by rw[Nat.add_mul]at h2;omega)]
   ·rw[if_neg h2,if_neg (by rw[Nat.add_mul]at h2;omega)]
theorem xM{sz:Nat}{z:Value}(hz:z.cells.size=sz)(hp:0<sz)(m:Nat):(madeCells z.cells (m*sz)).toList=(List.replicate m z.cells.toList).flatten:=by
 subst hz;apply List.ext_getElem?;intro j;rw[qQ (sz:=z.cells.size) (by simp) hp]
 by_cases h:j<m*z.cells.size
 ·have hlt:j % z.cells.size<z.cells.size:=Nat.mod_lt _ hp;have h2:j<(madeCells z.cells (m*z.cells.size)).toList.length:=by simpa [size_madeCells]using h
  rw[if_pos h,List.getElem?_eq_getElem h2];simp[madeCells,hlt]
 ·rw[if_neg h];simp[madeCells,h]
theorem Ac.make{x y:Operand}{t e sz by_ m:Nat}{z:Value}{k1 k2:IntKind}[ht:SlT P t e sz by_ z](hx:ev s x=some (.int k1 (m:Int)))(hy:ev s y=some (.int k2 (m:Int)))(hb:by_*m≤281474976710656)(hm63:m≤maxLen):Ac P n s (St w0 L) (.makeSlice t x y) ty (ι:=Nat) (fun b=>.slice (some ⟨b,0,none⟩) m m) (fun b=>St w0 (own e sz (some ⟨b,0,none⟩) m m (List.replicate m z.cells.toList)::L)):=by
 refine⟨fun a w o ho ht' hf hm=>?_⟩;obtain⟨inf,h1,h2,h3,h4⟩:=ht.info;have hfl:=xM (sz:=sz) (z:=z) ht.zsz ht.pos m;have hr:=run_make (P:=P) w t e inf z ht.und h1 h2 k1 k2 (m:Int) (m:Int) (by omega) (Int.le_refl _) (by rw[h4];omega) (by unfold maxLen at hm63;omega);simp only[Int.toNat_natCast,h3]at hr;have hh:∀S:Nat→Prop,S w.heap.size→(own e sz (some ⟨w.heap.size,0,none⟩) m m (List.replicate m z.cells.toList)).on S (w.alloc (.cells (madeCells z.cells (m*sz)) e)):=by
  intro S hS;refine⟨?_,by simp,?_,fun g hg=>?_⟩
  ·rw[←hfl];refine World.ownsRow_lit w (madeCells z.cells (m*sz)) m (Nat.zero_le _) hm63 (by simp[size_madeCells])
  ·intro r hr;rw[List.eq_of_mem_replicate hr];simpa using ht.zsz
  ·simp[Value.ownBlock]at hg;rw[←hg];exact hS
 refine⟨w.heap.size,_,?_,St.push hm (Chg.alloc _) (hh _ ⟨Nat.le_refl _,by simp⟩)⟩;simp[execOp,ho,hf.ev hx,hf.ev hy,hr]
theorem Ac.Cs{x y:Operand}{t e sz by_ m:Nat}{z:Value}{k1 k2:IntKind}[ht:SlT P t e sz by_ z](hx:ev s x=some (.int k1 0))(hy:ev s y=some (.int k2 (m:Int)))(hb:by_*m≤281474976710656)(hm63:m≤maxLen):Ac P n s (St w0 L) (.makeSlice t x y) ty (ι:=Nat) (fun b=>.slice (some ⟨b,0,none⟩) 0 m) (fun b=>St w0 (own e sz (some ⟨b,0,none⟩) 0 m []::L)):=by
 refine⟨fun a w o ho ht' hf hm=>?_⟩;obtain⟨inf,h1,h2,h3,h4⟩:=ht.info;have hr:=run_make (P:=P) w t e inf z ht.und h1 h2 k1 k2 0 (m:Int) (by omega) (by omega) (by rw[h4];omega) (by unfold maxLen at hm63;omega);simp only[Int.toNat_natCast,h3]at hr;have hh:∀S:Nat→Prop,S w.heap.size→(own e sz (some ⟨w.heap.size,0,none⟩) 0 m []).on S (w.alloc (.cells (madeCells z.cells (m*sz)) e)):=by
  intro S hS;refine⟨World.ownsRow_made w (madeCells z.cells (m*sz)) m (Nat.zero_le _) hm63 (by simp[size_madeCells]),rfl,by simp,fun g hg=>?_⟩;simp[Value.ownBlock]at hg;rw[←hg];exact hS
 refine⟨w.heap.size,_,?_,St.push hm (Chg.alloc _) (hh _ ⟨Nat.le_refl _,by simp⟩)⟩;simp[execOp,ho,hf.ev hx,hf.ev hy,hr]
theorem St.JB{w:World}{e sz:Nat}(h:St w0 L w):St w0 (own e sz none 0 0 []::L) w:=
 h.push Chg.refl ⟨World.ownsRow_nil w 0 e sz,rfl,by simp,fun g hg=>by simp[Value.ownBlock]at hg⟩
def evs(s:Sg):List Operand→Option (List Value)
 |[]=>some []
 |x::l=>match ev s x,evs s l with
  |some v,some vs=>some (v::vs)
  |_,_=>none
theorem w7{a:Act}(hf:Fr n s a):∀{l:List Operand}{vs:List Value},evs s l=some vs→l.map a.eval=vs
 |[],vs,h=>by simp[evs]at h;simp[h]
 |x::l,vs,h=>by
  simp only[evs]at h
  cases hv:ev s x with
  |none=>simp[hv]at h
  |some v=>
   cases hl:evs s l with
   |none=>simp[hv,hl]at h
   |some us=>
    simp[hv,hl]at h;subst h;simp[hf.ev hv,w7 hf hl]
def qu{α:Type}:Nat→List α→List (Nat×α)
 |_,[]=>[]
 |i,x::l=>(i,x)::qu (i+1) l
theorem qc(o:Nat):∀(l:List Value) (k:Nat) (cs:Array Value),o+k+l.length≤cs.size→
  ((l.zipIdx k).foldl (fun(cs:Array Value) (x:Value×Nat)=>cs.setIfInBounds (o+x.2) x.1) cs).toList=cs.toList.take (o+k)++l++cs.toList.drop (o+k+l.length)
 |[],k,cs,h=>by simp
 |v::l,k,cs,h=>by
  simp only[List.length_cons]at h;rw[List.zipIdx_cons,List.foldl_cons,qc o l (k+1) _ (by simp;omega)];have e:=list_seg_step cs.toList (o+k) v l (by simp;omega);simp only[Array.toList_setIfInBounds,List.length_cons];rw[show o+(k+1)=o+k+1 by omega];exact e
theorem yd{sz:Nat}:∀(vs:List Value) (j:Nat) (cs:Array Value),(∀v∈vs,v.cells.size=sz)→j*sz+vs.length*sz=cs.size→
  ∃cs':Array Value,Instr.fill (fun i=>some (i*sz,sz)) cs (qu j vs)=some cs'∧cs'.toList=cs.toList.take (j*sz)++(vs.map (·.cells.toList)).flatten
 |[],j,cs,_,h=>⟨cs,rfl,by simp at h;rw[List.take_of_length_le (by simp;omega)];simp⟩
 |v::vs,j,cs,h1,h=>by
  have hv:=h1 v (by simp);simp only[List.length_cons,Nat.add_mul,Nat.one_mul]at h;have hp:=qc (j*sz) v.cells.toList 0 cs (by simp[hv];omega);obtain⟨cs',h2,h3⟩:=yd vs (j+1) (v.cells.zipIdx.foldl (fun cs (c,i)=>cs.setIfInBounds (j*sz+i) c) cs) (fun u hu=>h1 u (by simp[hu])) (by
   have hs:(v.cells.zipIdx.foldl (fun(cs:Array Value) (x:Value×Nat)=>cs.setIfInBounds (j*sz+x.2) x.1) cs).size=cs.size:=by
    rw[←Array.foldl_toList,←Array.length_toList,Array.toList_zipIdx];rw[hp];simp[hv];omega
   rw[hs,Nat.add_mul];omega)
  refine⟨cs',?_,?_⟩
  ·simp only[qu,Instr.fill,hv];rw[if_neg (by simp;omega)];exact h2
  ·rw[h3];rw[←Array.foldl_toList,Array.toList_zipIdx,hp];simp only[Nat.add_zero,Array.length_toList,hv,List.map_cons,List.flatten_cons];rw[List.take_append_of_le_length (by simp[hv,Nat.add_mul];omega)];rw[List.take_of_length_le (by simp[hv,Nat.add_mul];omega)];simp[List.append_assoc]
theorem Ac.lit {t e sz by_:Nat}{z:Value}{ps:List (Nat×Operand)}{xs:List Operand}{vs:List Value} [ht:SlT P t e sz by_ z] (hps:ps=qu 0 xs) (hvs:evs s xs=some vs)
  (hsz:∀v∈vs,v.cells.size=sz) (hb:vs.length*sz≤16777216) {m:Nat} (hm':m=vs.length) {rows:List (List Value)} (hr:vs.map (·.cells.toList)=rows):Ac P n s (St w0 L) (.buildSlice t m ps.toArray) ty (ι:=Nat) (fun b=>.slice (some ⟨b,0,none⟩) m m) (fun b=>St w0 (own e sz (some ⟨b,0,none⟩) m m rows::L)):=by
 subst hm';subst hr;refine⟨fun a w o ho ht' hf hm=>?_⟩;obtain⟨inf,i1,i2,i3,i4⟩:=ht.info;have hev:=w7 hf hvs;have hmap:∀(xs:List Operand) (j:Nat),(qu j xs).map (fun p=>(p.1,a.eval p.2))=qu j (xs.map a.eval):=by
  intro xs
  induction xs with
  |nil=>intro j;rfl
  |cons x l ih=>intro j;simp[qu,ih]
 have hparts:(ps.map fun p=>(p.1,a.eval p.2))=qu 0 vs:=by rw[hps,hmap,hev]
 have hrun:∃cs:Array Value,cs.toList=(vs.map (·.cells.toList)).flatten∧∀w,(Instr.buildSlice t vs.length (qu 0 vs).toArray).run P w=.ok (.slice (some ⟨w.heap.size,0,none⟩) vs.length vs.length) (w.alloc (.cells cs e)):=by
  obtain⟨cs',h2,h3⟩:=yd vs 0 ((Array.range (vs.length*sz)).map ((if vs.length*sz=0 then #[]else z.cells)[· % (if vs.length*sz=0 then #[]else z.cells).size]!)) hsz (by simp);refine⟨cs',by simpa using h3,fun w=>?_⟩;have hnb:¬16777216<vs.length*sz:=by omega
  by_cases h0:vs.length*sz=0
  ·have hv0:vs.length=0:=by
    rcases Nat.mul_eq_zero.1 h0 with h|h
    ·exact h
    ·have:=ht.pos;omega
   obtain rfl:=List.eq_nil_of_length_eq_zero hv0;simp[qu,Instr.fill]at h2;subst h2;simp[Instr.buildSlice,run_underlying ht.und,sizeOf,typeInfo,i1,qu,Instr.fill,newRow,jg]
  ·simp only[h0,if_false]at h2;simp[Instr.buildSlice,run_underlying ht.und,sizeOf,typeInfo,i1,i3,hnb,h0,zeroValue,i2,newRow,jg,h2]
 obtain⟨cs,hcs,hrun⟩:=hrun;have hfl:cs.size=vs.length*sz:=by
  have:=length_flatten (rows:=vs.map (·.cells.toList)) (sz:=sz) (by simpa using hsz);rw[←hcs]at this;simpa using this
 have hh:∀S:Nat→Prop,S w.heap.size→(own e sz (some ⟨w.heap.size,0,none⟩) vs.length vs.length (vs.map (·.cells.toList))).on S (w.alloc (.cells cs e)):=by
  intro S hS;refine⟨?_,by simp,by simpa using hsz,fun g hg=>?_⟩
  ·rw[←hcs];refine World.ownsRow_lit w cs vs.length (Nat.zero_le _) ?_ hfl;have h1:vs.length≤vs.length*sz:=Nat.le_mul_of_pos_right _ ht.pos;unfold maxLen;omega
  ·simp[Value.ownBlock]at hg;rw[←hg];exact hS
 refine⟨w.heap.size,_,?_,St.push hm (Chg.alloc _) (hh _ ⟨Nat.le_refl _,by simp⟩)⟩;have:=hrun w;rw[←hparts]at this;simp only[execOp,ho];simp at this ⊢;simp[this]
end
end Go.Sl
namespace Go.Sl
open Go.RowKit
section
variable {P:Program}{ops:Array Oper}{Q:Exit→Act→World→Prop}{rest:List Oper}{n:FD}{s:Sg}{M:World→Prop}
 {op:Op}{ty:TypeId}{pos:String}{af:Array Edge}{d:Nat}{v:Value}{w0:World}{L L':List HP}
def rL(w:World)(v:Value)(e:Ending)(w':World):Prop:=e=.returned v∧Below w.heap.size w w'
theorem rL.eq{w:World}{v':Value}(h:St w0 L w)(e:v=v'):rL w0 v' (.returned v) w:=⟨by rw[e],h.below⟩
theorem Cp {f:FuncId}{xs:List Operand}{vs:List Value}{tys:Array TypeId} [hf':CF P f] (hxs:evs s xs=some vs) {a:Act}{w:World}{o:Oper}
  (ho:o.op=.call { callee:=.value (.func f),args:=xs.toArray,argTypes:=tys }) (hf:Fr n s a):(execOp a.eval o).run P w=.ok (.enter f vs.toArray) w:=by
 have h1:=w7 hf hxs;simp[execOp,ho,resolve,Deferred.ofValue,Act.eval,invoke,hf'.run _ w,←h1]
theorem Cl.Gc {f:FuncId}{xs:List Operand}{vs:List Value}{tys:Array TypeId} [hf':CF P f] (hxs:evs s xs=some vs)
  (h:∀w,St w0 L w→Calls P f vs.toArray w (rL w v)) :
  Cl P n s (St w0 L) (.call { callee:=.value (.func f),args:=xs.toArray,argTypes:=tys }) ty (fun _:Unit=>v) (fun _=>St w0 L):=by
 refine⟨f,vs.toArray,fun a w o ho _ hf _=>Cp hxs ho hf,fun w hm=>(h w hm).mono ?_⟩
 rintro e w' ⟨he,hb⟩
 exact⟨(),he,hm.grow (Chg.Hx hb)⟩
theorem Cl.Fe {ι:Sort _}{val:ι→Value}{LL:ι→List HP}{f:FuncId}{xs:List Operand}{vs:List Value}{tys:Array TypeId} [hf':CF P f] (hxs:evs s xs=some vs)
  (h:∀w,St w0 L w→Calls P f vs.toArray w (fun e w'=>∃x,e=.returned (val x)∧St w0 (LL x) w')) :
  Cl P n s (St w0 L) (.call { callee:=.value (.func f),args:=xs.toArray,argTypes:=tys }) ty val (fun x=>St w0 (LL x)):=
 ⟨f,vs.toArray,fun a w o ho _ hf _=>Cp hxs ho hf,h⟩
theorem T.Gc {f:FuncId}{xs:List Operand}{vs:List Value}{tys:Array TypeId} (hd:Nat.blt d n.sz=true) [hf':CF P f] (hxs:evs s xs=some vs)
  (h:∀w,St w0 L w→Calls P f vs.toArray w (rL w v))
  (k:T P ops Q rest n ((d,v)::s) (St w0 L)) :
  T P ops Q (⟨some d,.call { callee:=.value (.func f),args:=xs.toArray,argTypes:=tys },ty,pos,af,none⟩::rest) n s (St w0 L):=
 T.cl hd (Cl.Gc hxs h) (fun _=>k)
theorem T.Fe {ι:Sort _}{val:ι→Value}{LL:ι→List HP}{f:FuncId}{xs:List Operand}{vs:List Value}{tys:Array TypeId} (hd:Nat.blt d n.sz=true) [hf':CF P f] (hxs:evs s xs=some vs)
  (h:∀w,St w0 L w→Calls P f vs.toArray w (fun e w'=>∃x,e=.returned (val x)∧St w0 (LL x) w'))
  (k:∀x,T P ops Q rest n ((d,val x)::s) (St w0 (LL x))) :
  T P ops Q (⟨some d,.call { callee:=.value (.func f),args:=xs.toArray,argTypes:=tys },ty,pos,af,none⟩::rest) n s (St w0 L):=
 T.cl hd (Cl.Fe hxs h) k
theorem own.copy {t e sz by_ m c m' c':Nat}{z:Value}{A A':Option Addr}{rows src:List (List Value)}{S:Nat→Prop}{w:World} [ht:SlT P t e sz by_ z] (h:(own e sz A m c rows).on S w) {S':Nat→Prop}
  (hsrc:Arr sz S' w A' m' src) (h1:∀r∈src,cb r=true) :
  ∃w',(Builtin.copy_ #[t,t] ty #[.slice A m c,.slice A' m' c']).run P w=.ok (.int .i64 (min m' m:Nat)) w'∧Chg w w' S∧(own e sz A m c (src.take m++rows.drop m')).on S w':=by
 obtain⟨inf,i1,i2,i3,i4⟩:=ht.info;obtain⟨⟨hl,hc⟩,h2,h3,h4⟩:=h;rcases hc with⟨hv,h0⟩|⟨g,cap,cur,hv,hg,hw,hr1,hr2,hr3,hr4⟩
 ·injection hv with hA hm hcc
  subst hA;subst h0;subst hcc;have hr0:rows=[]:=List.eq_nil_of_length_eq_zero h2;subst hr0;refine⟨w,?_,Chg.refl,⟨⟨by simp,.inl ⟨rfl,rfl⟩⟩,by simp,by simp,fun g hg=>by simp[Value.ownBlock]at hg⟩⟩;have hfc:(Builtin.firstCells inf.size 0 (.slice A' m' c')).run P w=.ok #[] w:=by
   cases A'<;>simp[Builtin.firstCells,loadCells,loadCellsFrom]
  simp[Builtin.copy_,run_underlying ht.und,Builtin.lenOf,sizeOf,typeInfo,i1,hfc,goInt]
 ·injection hv with hA hm hcc
  subst hA;subst hcc;have hk:min m' m≤m:=Nat.min_le_right _ _;have htk:src.take (min m' m)=src.take m:=by
   rw[←hsrc.1,←List.take_take,List.take_of_length_le (l:=List.take m src) (by simp;omega)]
  have hlen:(src.take m).flatten.length=min m' m*sz:=by
   rw[length_flatten (sz:=sz) (fun r hr=>hsrc.2.1 r (List.mem_of_mem_take hr)),List.length_take,hsrc.1,Nat.min_comm]
  have hfc:(Builtin.firstCells inf.size (Nat.min m' m) (.slice A' m' c')).run P w=.ok (src.take m).flatten.toArray w:=by
   rcases Nat.eq_zero_or_pos m' with h0|hpos
   ·have:src=[]:=List.eq_nil_of_length_eq_zero (hsrc.1.trans h0);subst this;subst h0
    cases A'<;>simp[Builtin.firstCells,loadCells,loadCellsFrom]
   ·obtain⟨ad,hA',_,hcell⟩:=hsrc.2.2 hpos;subst hA';rw[i3];refine run_firstCells_some (P:=P) w sz _ ad m' c' _ hlen ?_;intro j u hj;refine hcell j u ?_;have hjl:=(List.getElem?_eq_some_iff.1 hj).1;rw[←List.take_append_drop m src,List.flatten_append,List.getElem?_append_left hjl];exact hj
  have hmc:m*sz≤c*sz:=Nat.mul_le_mul_right sz hr1;have hkm:min m' m*sz≤m*sz:=Nat.mul_le_mul_right sz hk;have hst:=run_storeCells_at P g 0 e (src.take m).flatten 0 cur w hw (by rw[hlen];omega) (fun u hu=>by
   obtain⟨r,hr,hu⟩:=List.mem_flatten.1 hu;exact gI (h1 r (List.mem_of_mem_take hr)) u hu)
  simp only[Nat.add_zero,Nat.zero_add,List.take_zero,List.nil_append]at hst;have hrl:(src.take m++rows.drop m').length=m:=by
   simp[hsrc.1,h2];omega
  have hrs:∀r∈src.take m++rows.drop m',r.length=sz:=by
   intro r hr;rcases List.mem_append.1 hr with hr|hr
   ·exact hsrc.2.1 r (List.mem_of_mem_take hr)
   ·exact h3 r (List.mem_of_mem_drop hr)
  refine⟨w.setRow g ((src.take m).flatten++List.drop (src.take m).flatten.length cur.toList).toArray,?_,jI (h4 g rfl),⟨⟨?_,.inr ⟨g,c,_,rfl,hg,setRow_heap w g cur _ e (0,0) hw,hr1,hr2,?_,?_⟩⟩,hrl,hrs,h4⟩⟩
  ·simp[Builtin.copy_,run_underlying ht.und,Builtin.lenOf,sizeOf,typeInfo,i1,goInt]at hfc ⊢;simp[hfc,hst]
  ·rw[length_flatten hrs,hrl]
  ·simp only[List.size_toArray,List.length_append,List.length_drop,Array.length_toList,hlen,hr3];omega
  ·simp only[List.flatten_append];rw[List.take_append,List.take_of_length_le (by omega),hlen]
   congr 1
   have hd:(rows.drop m').flatten=rows.flatten.drop (min m' m*sz):=by
    by_cases hmm:m'≤m
    ·rw[Nat.min_eq_left hmm];have h5:(rows.take m').flatten.length=m'*sz:=by
      rw[length_flatten (sz:=sz) (fun r hr=>h3 r (List.mem_of_mem_take hr)),List.length_take,h2,Nat.min_eq_left hmm]
     conv=>rhs;rw[←List.take_append_drop m' rows,List.flatten_append,←h5]
     rw[List.drop_left]
    ·rw[Nat.min_eq_right (by omega),List.drop_of_length_le (by omega),List.drop_of_length_le (by omega)];rfl
   rw[hd,←hr4,List.drop_take]
inductive RV(P:Program)(s:Sg)(M:World→Prop):List ResultVar→List Value→Prop where
 |nil:RV P s M [] []
 |tmp {t:Nat}{v:Value}{rs:List ResultVar}{vs:List Value}:lk s t=some v→RV P s M rs vs→RV P s M (.tmp t::rs) (v::vs)
 |cell {t:Nat}{a:Addr}{ty:TypeId}{v:Value}{rs:List ResultVar}{vs:List Value}:lk s t=some (.pointer (some a))→(∀w,M w→(loadVar ty a).run P w=.ok v w)→RV P s M rs vs→RV P s M (.cell t ty::rs) (v::vs)
def ln(tmps:Array Value):ResultVar→Sem Value
 |.tmp t=>pure (tmps.getD t undef)
 |.cell a t=>do loadVar t (←asAddr (tmps.getD a undef))
theorem tC(fn:Func)(tmps:Array Value):results fn tmps=(do let vs ←fn.results.mapM (ln tmps);pure (if h:vs.size=1 then vs[0]else .tuple vs)):=by
 unfold results
 congr 1
theorem RV.run{a:Act}{w:World}(hf:Fr n s a)(hm:M w):∀{rs:List ResultVar}{vs:List Value},RV P s M rs vs→(rs.mapM (ln a.tmps)).run P w=.ok vs w
 |_,_,.nil=>by simp
 |_,_,.tmp h k=>by
  have ih:=RV.run hf hm k;have h1:=hf.get _ _ h;rw[List.mapM_cons,Sem.run_bind];simp only[ln,Sem.run_pure,Result.andThen_ok,h1,Sem.run_bind,ih]
 |_,_,.cell h hl k=>by
  have ih:=RV.run hf hm k;have h1:=hf.get _ _ h;have h2:=hl w hm;rw[List.mapM_cons,Sem.run_bind];simp only[ln,Sem.run_bind,Sem.run_pure,Result.andThen_ok,h1,asAddr,h2,ih]
def qn:List Value→Value
 |[u]=>u
 |l=>.tuple l.toArray
theorem TX.Cm {N:Nat}{fn:Func}{R:Ending→World→Prop}{rs:List ResultVar}{vs:List Value} (hr:fn.results=rs.toArray) (hv:RV P s M rs vs)
  (k:∀w,M w→R (.returned (qn vs)) w):TX (bodyPost P fn R) .ret ⟨N,[]⟩ s M:=by
 refine⟨fun a w hf hm=>?_⟩;refine bodyPost_ret ?_ hf.defers (k w hm);have h:=hv.run hf hm;rw[tC,hr,Sem.run_bind,List.mapM_toArray,Sem.run_map,h];simp only[Result.andThen_ok,Sem.run_pure]
 match vs with
 |[]=>simp[qn]
 |[u]=>simp[qn]
 |u::u'::l=>simp[qn]
theorem C6{b t k ty:Nat}{cs:List Value}[h:LN P ty k](ha:At L (blk b cs t))(hk:cs.length=k):∀w,St w0 L w→(loadVar ty ⟨b,0,none⟩).run P w=.ok (.agg cs.toArray) w:=
 fun w hw=>h.run _ w cs hk (fun j v hj=>by rw[add_lit,Nat.zero_add];exact hw.ue ha hj)
theorem Ev.Nn{x:Operand}{t b t' k:Nat}{cs:List Value}[h:LN P t k](hx:ev s x=some (.pointer (some ⟨b,0,none⟩)))(ha:At L (blk b cs t'))(hk:cs.length=k):Ev P n s (St w0 L) (.load t x) ty (.agg cs.toArray):=
 Ev.NL hx hk (fun w hw j v hj=>by rw[add_lit,Nat.zero_add];exact hw.ue ha hj)
theorem Ev.LZ{x:Operand}{t b t' o:Nat}{cs:List Value}[h:L1 P t](hx:ev s x=some (.pointer (some ⟨b,o,none⟩)))(ha:At L (blk b cs t'))(hv:cs[o]?=some v):Ev P n s (St w0 L) (.load t x) ty v:=
 Ev.Kt hx (fun w hw=>hw.ue ha hv)
variable {tail:List Oper}
end
inductive Kd where
 |pure
 |quiet
 |here
 |cv
 |uK
def Kd.gl:Kd→Kd→Bool
 |.pure,_=>true
 |_,.pure=>true
 |.quiet,.quiet=>true
 |.quiet,.here=>true
 |.here,.quiet=>true
 |.here,.here=>true
 |.quiet,.cv=>true
 |.cv,.quiet=>true
 |_,_=>false
section
variable {P:Program}{C:World→Prop}{ops:Array Oper}
def ax(P:Program)(o:Oper)(a:Act)(w:World)(F:Value→World→Prop):Prop:=
 match(execOp a.eval o).run P w with
 |.ok (.value v) w'=>F v w'
 |.ok .skip w'=>F undef w'
 |.ok (.enter f args) w'=>Calls P f args w' (fun e w''=>∃v,e=.returned v∧F v w'')
 |_=>False
theorem ax.mono{o:Oper}{a:Act}{w:World}{F F':Value→World→Prop}(h:∀v w',F v w'→F' v w')(hh:ax P o a w F):ax P o a w F':=by
 unfold ax at *
 split at hh
 ·exact h _ _ hh
 ·exact h _ _ hh
 ·exact hh.mono fun e w'' ⟨v,he,hf⟩=>⟨v,he,h _ _ hf⟩
 ·exact hh.elim
theorem ax.ex{o:Oper}{a:Act}{w:World}{F:Value→World→Prop}(hh:ax P o a w F):∃v w',F v w':=by
 unfold ax at hh
 split at hh
 ·exact⟨_,_,hh⟩
 ·exact⟨_,_,hh⟩
 ·obtain⟨e,w',fr,⟨v,he,hf⟩,_⟩:=hh [];exact⟨v,w',hf⟩
 ·exact hh.elim
theorem ax.of_same{o:Oper}{a a':Act}{w:World}{F:Value→World→Prop}(he:execOp a'.eval o=execOp a.eval o)(hh:ax P o a w F):ax P o a' w F:=by
 unfold ax at *;rw[he];exact hh
theorem ax.wp{o:Oper}{a:Act}{w:World}{K:Act→World→Prop}{Q:Exit→Act→World→Prop}(hh:ax P o a w fun v w'=>K (a.put o.dst v) w'):o.wp P a w K Q:=by
 unfold ax at hh;unfold Oper.wp
 split at hh
 ·rename_i hr;rw[hr];exact hh
 ·rename_i hr;rw[hr];exact hh
 ·rename_i hr;rw[hr];exact hh.mono fun e w'' ⟨v,he,hf⟩=>by subst he;exact hf
 ·exact hh.elim
def Kd.dom(C:World→Prop)(w:World):Kd→World→Prop
 |.pure,_=>True
 |.quiet,w'=>C w'
 |_,w'=>w'=w
def Kd.still:Kd→Bool
 |.pure | .quiet | .here=>true
 |_=>false
def Kd.kc(C:World→Prop):Kd→World→Prop
 |.cv,w=>C w
 |_,_=>True
def opR(P:Program)(C:World→Prop)(k:Kd)(o:Oper)(K:Act→World→Prop)(a:Act)(w:World):Prop:=
 if k.still then k.dom C w w∧∃v,(∀w',k.dom C w w'→(execOp a.eval o).run P w'=.ok (.value v) w')∧K (a.put o.dst v) w
 else ax P o a w fun v w'=>Kd.kc C k w'∧K (a.put o.dst v) w'
def opK(P:Program)(C:World→Prop)(ops:Array Oper)(k:Kd)(o:Oper)(K:Act→World→Prop)(a:Act)(w:World):Prop:=
 if Region.wanted o (yielded ops a.tmps)then Kd.kc C k w∧opR P C k o K a w else K (a.put o.dst undef) w
theorem opR.mono{k:Kd}{o:Oper}{K K':Act→World→Prop}{a:Act}{w:World}(h:∀a w,K a w→K' a w)(hh:opR P C k o K a w):opR P C k o K' a w:=by
 unfold opR at *
 split
 ·rename_i hk;rw[if_pos hk]at hh;obtain⟨h1,v,h2,h3⟩:=hh;exact⟨h1,v,h2,h _ _ h3⟩
 ·rename_i hk;rw[if_neg hk]at hh;exact hh.mono fun v w' ⟨h1,h2⟩=>⟨h1,h _ _ h2⟩
theorem opK.mono{k:Kd}{o:Oper}{K K':Act→World→Prop}{a:Act}{w:World}(h:∀a w,K a w→K' a w)(hh:opK P C ops k o K a w):opK P C ops k o K' a w:=by
 unfold opK at *
 split
 ·rename_i hk;rw[if_pos hk]at hh;exact⟨hh.1,hh.2.mono h⟩
 ·rename_i hk;rw[if_neg hk]at hh;exact h _ _ hh
theorem gr{k:Kd}{o:Oper}{K:Act→World→Prop}{a:Act}{w:World}(hk:k.still=true):opR P C k o K a w=(k.dom C w w∧∃v,(∀w',k.dom C w w'→(execOp a.eval o).run P w'=.ok (.value v) w')∧K (a.put o.dst v) w):=if_pos hk
theorem mR{k:Kd}{o:Oper}{K:Act→World→Prop}{a:Act}{w:World}(hk:k.still=false):opR P C k o K a w=ax P o a w (fun v w'=>Kd.kc C k w'∧K (a.put o.dst v) w'):=by
 unfold opR;rw[if_neg (by rw[hk];simp)]
structure Two(ops:Array Oper)(o1 o2:Oper):Prop where
 l12:∀(a:Act) v,execOp (a.put o1.dst v).eval o2=execOp a.eval o2
 l21:∀(a:Act) v,execOp (a.put o2.dst v).eval o1=execOp a.eval o1
 w12:∀(a:Act) v,Region.wanted o2 (yielded ops (a.put o1.dst v).tmps)=Region.wanted o2 (yielded ops a.tmps)
 w21:∀(a:Act) v,Region.wanted o1 (yielded ops (a.put o2.dst v).tmps)=Region.wanted o1 (yielded ops a.tmps)
 com:∀(a:Act) v u,(a.put o1.dst v).put o2.dst u=(a.put o2.dst u).put o1.dst v
theorem Two.of{o1 o2:Oper}(h:o1.apart ops o2=true)(h1:∀cs b,o1.op≠.select cs b)(h2:∀cs b,o2.op≠.select cs b):Two ops o1 o2:=by
 obtain⟨a1,a2,a3⟩:=Oper.apart_spec h;exact⟨fun a v=>execOp_put o2 h2 a o1.dst v a1,fun a v=>execOp_put o1 h1 a o2.dst v a3,fun a v=>wanted_put o2 a o1.dst v a1,fun a v=>wanted_put o1 a o2.dst v a3,fun a v u=>Act.put_comm a v u a2⟩
theorem JZ {k1 k2:Kd}{o1 o2:Oper}{K:Act→World→Prop}{a:Act}{w:World} (t:Two ops o1 o2) (s1:k1.still=true) (s2:k2.still=true)
  (h:opR P C k1 o1 (fun a w=>opR P C k2 o2 K a w) a w):opR P C k2 o2 (fun a w=>opR P C k1 o1 K a w) a w:=by
 rw[gr s1]at h;rw[gr s2];obtain⟨d1,v,r1,h⟩:=h;rw[gr s2]at h;obtain⟨d2,u,r2,h⟩:=h;refine⟨d2,u,fun w' hw'=>by rw[←t.l12 a v];exact r2 w' hw',?_⟩;rw[gr s1];refine⟨d1,v,fun w' hw'=>by rw[t.l21];exact r1 w' hw',?_⟩;rw[←t.com];exact h
theorem JP {k1 k2:Kd}{o1 o2:Oper}{K:Act→World→Prop}{a:Act}{w:World} (t:Two ops o1 o2) (s1:k1.still=true) (s2:k2.still=false) (hc:k1.gl k2=true)
  (h:opR P C k1 o1 (fun a w=>opR P C k2 o2 K a w) a w):opR P C k2 o2 (fun a w=>opR P C k1 o1 K a w) a w:=by
 rw[gr s1]at h;rw[mR s2];obtain⟨d1,v,r1,h⟩:=h;rw[mR s2]at h;refine(h.of_same (t.l12 a v).symm).mono fun u w' ⟨h1,h2⟩=>⟨h1,?_⟩
 rw[gr s1]
 cases k1 with
 |pure=>exact⟨trivial,v,fun w'' hw=>by rw[t.l21];exact r1 w'' hw,by rw[←t.com];exact h2⟩
 |quiet=>
  cases k2 with
  |cv=>exact⟨h1,v,fun w'' hw=>by rw[t.l21];exact r1 w'' hw,by rw[←t.com];exact h2⟩
  |uK=>simp[Kd.gl]at hc
  |_=>simp[Kd.still]at s2
 |here=>cases k2<;>simp[Kd.gl,Kd.still]at hc s2
 |_=>simp[Kd.still]at s1
theorem JH {k1 k2:Kd}{o1 o2:Oper}{K:Act→World→Prop}{a:Act}{w:World} (t:Two ops o1 o2) (s1:k1.still=false) (s2:k2.still=true) (hc:k1.gl k2=true) (hCw:Kd.kc C k1 w)
  (h:opR P C k1 o1 (fun a w=>opR P C k2 o2 K a w) a w):opR P C k2 o2 (fun a w=>opR P C k1 o1 K a w) a w:=by
 rw[mR s1]at h;rw[gr s2];obtain⟨v0,w0,hc0,h0⟩:=h.ex;rw[gr s2]at h0;obtain⟨d0,u,r0,_⟩:=h0
 cases k2 with
 |pure=>
  refine⟨trivial,u,fun w' hw'=>by rw[←t.l12 a v0];exact r0 w' trivial,?_⟩;rw[mR s1];refine(h.of_same (t.l21 a u)).mono fun v w' ⟨h1,h2⟩=>⟨h1,?_⟩;rw[gr s2]at h2;obtain⟨_,u',r',hk⟩:=h2;have e:u'=u:=by
   have e1:=r' w' trivial;have e2:=r0 w' trivial;rw[t.l12]at e1 e2;rw[e1]at e2
   injection e2 with e2
   injection e2
  subst e;rw[←t.com];exact hk
 |quiet=>
  cases k1 with
  |cv=>
   refine⟨hCw,u,fun w' hw'=>by rw[←t.l12 a v0];exact r0 w' hw',?_⟩;rw[mR s1];refine(h.of_same (t.l21 a u)).mono fun v w' ⟨h1,h2⟩=>⟨h1,?_⟩;rw[gr s2]at h2;obtain⟨_,u',r',hk⟩:=h2;have e:u'=u:=by
    have e1:=r' w hCw;have e2:=r0 w hCw;rw[t.l12]at e1 e2;rw[e1]at e2
    injection e2 with e2
    injection e2
   subst e;rw[←t.com];exact hk
  |uK=>simp[Kd.gl]at hc
  |_=>simp[Kd.still]at s1
 |here=>cases k1<;>simp[Kd.gl,Kd.still]at hc s1
 |_=>simp[Kd.still]at s2
theorem opR.trace{k:Kd}{o:Oper}{K:Act→World→Prop}{a:Act}{w:World}(h:opR P C k o K a w):opR P C k o (fun a' w'=>(∃v,a'=a.put o.dst v)∧(k.still=true→w'=w)∧K a' w') a w:=by
 cases hk:k.still with
 |true=>
  rw[gr hk]at h ⊢;obtain⟨d,v,r,h⟩:=h;exact⟨d,v,r,⟨v,rfl⟩,fun _=>rfl,h⟩
 |false=>
  rw[mR hk]at h ⊢;exact h.mono fun v w' ⟨h1,h2⟩=>⟨h1,⟨v,rfl⟩,(fun e=>by simp at e),h2⟩
theorem K9 {k1 k2:Kd}{o1 o2:Oper}{K:Act→World→Prop}{a:Act}{w:World} (t:Two ops o1 o2) (hc:k1.gl k2=true) (c1:Kd.kc C k1 w)
  (h:opR P C k1 o1 (fun a w=>opR P C k2 o2 K a w) a w):opR P C k2 o2 (fun a w=>opR P C k1 o1 K a w) a w:=by
 cases s1:k1.still<;>cases s2:k2.still
 ·cases k1<;>cases k2<;>simp[Kd.gl,Kd.still]at hc s1 s2
 ·exact JH t s1 s2 hc c1 h
 ·exact JP t s1 s2 hc h
 ·exact JZ t s1 s2 h
theorem kn{k:Kd}{o:Oper}{K:Act→World→Prop}{a:Act}{w:World}(hw:Region.wanted o (yielded ops a.tmps)=true):opK P C ops k o K a w=(Kd.kc C k w∧opR P C k o K a w):=if_pos hw
theorem tS{k:Kd}{o:Oper}{K:Act→World→Prop}{a:Act}{w:World}(hw:¬Region.wanted o (yielded ops a.tmps)=true):opK P C ops k o K a w=K (a.put o.dst undef) w:=if_neg hw
theorem Cv{k:Kd}{o:Oper}{K K':Act→World→Prop}{a a':Act}{w:World}(he:execOp a'.eval o=execOp a.eval o)(hK:∀v w',K (a.put o.dst v) w'→K' (a'.put o.dst v) w')(h:opR P C k o K a w):opR P C k o K' a' w:=by
 cases hk:k.still with
 |true=>
  rw[gr hk]at h ⊢;obtain⟨d,v,r,h⟩:=h;exact⟨d,v,fun w' hw'=>by rw[he];exact r w' hw',hK _ _ h⟩
 |false=>
  rw[mR hk]at h ⊢;exact(h.of_same he).mono fun v w' ⟨h1,h2⟩=>⟨h1,hK _ _ h2⟩
theorem Hb {k1 k2:Kd}{o1 o2:Oper}{K:Act→World→Prop}{a:Act}{w:World} (t:Two ops o1 o2) (hc:k1.gl k2=true)
  (h:opK P C ops k1 o1 (fun a w=>opK P C ops k2 o2 K a w) a w):opK P C ops k2 o2 (fun a w=>opK P C ops k1 o1 K a w) a w:=by
 by_cases w1:Region.wanted o1 (yielded ops a.tmps)=true
 ·rw[kn w1]at h;obtain⟨c1,h⟩:=h
  by_cases w2:Region.wanted o2 (yielded ops a.tmps)=true
  ·rw[kn w2];have h1:=h.trace;have h2:opR P C k1 o1 (fun a' w'=>Kd.kc C k2 w'∧opR P C k2 o2 K a' w') a w:=by
    refine h1.mono ?_
    rintro a' w' ⟨⟨v,rfl⟩,_,hh⟩
    rw[kn (by rw[t.w12];exact w2)]at hh;exact hh
   have c2:Kd.kc C k2 w:=by
    cases k2 with
    |cv=>
     have s1:k1.still=true:=by cases k1<;>first|rfl|simp[Kd.gl]at hc
     rw[gr s1]at h2;obtain⟨_,v,_,hh⟩:=h2;exact hh.1
    |_=>trivial
   refine⟨c2,?_⟩;have h3:=(K9 t hc c1 (h2.mono fun _ _ hh=>hh.2)).trace;refine h3.mono ?_
   rintro a' w' ⟨⟨u,rfl⟩,hst,hh⟩
   rw[kn (by rw[t.w21];exact w1)];refine⟨?_,hh⟩
   cases k1 with
   |cv=>
    have s2:k2.still=true:=by cases k2<;>first|rfl|simp[Kd.gl]at hc
    rw[hst s2];exact c1
   |_=>trivial
  ·rw[tS w2,kn (by rw[t.w21];exact w1)];refine⟨c1,Cv (t.l21 a undef) (fun v w' hh=>?_) h⟩;rw[tS (by rw[t.w12];exact w2),t.com]at hh;exact hh
 ·rw[tS w1]at h
  by_cases w2:Region.wanted o2 (yielded ops a.tmps)=true
  ·rw[kn (by rw[t.w12];exact w2)]at h;rw[kn w2];refine⟨h.1,Cv (t.l12 a undef).symm (fun v w' hh=>?_) h.2⟩;rw[tS (by rw[t.w21];exact w1),←t.com];exact hh
  ·rw[tS (by rw[t.w12];exact w2)]at h;rw[tS w2,tS (by rw[t.w21];exact w1),←t.com];exact h
def opI(P:Program)(C:World→Prop)(ops:Array Oper)(ks:Nat→Kd)(i:Nat)(K:Act→World→Prop)(a:Act)(w:World):Prop:=
 match ops[i]? with
 |none=>K a w
 |some o=>opK P C ops (ks i) o K a w
theorem opI.mono{ks:Nat→Kd}{i:Nat}{K K':Act→World→Prop}{a:Act}{w:World}(h:∀a w,K a w→K' a w)(hh:opI P C ops ks i K a w):opI P C ops ks i K' a w:=by
 unfold opI at *
 split
 ·rename_i ho;rw[ho]at hh;exact h _ _ hh
 ·rename_i o ho;rw[ho]at hh;exact opK.mono h hh
def jY(P:Program)(C:World→Prop)(ops:Array Oper)(ks:Nat→Kd)(Q:Exit→Act→World→Prop):List Nat→Act→World→Prop
 |[]=>fun a w=>Q .normal a w
 |i::r=>opI P C ops ks i (jY P C ops ks Q r)
def nZ(ops:Array Oper)(ks:Nat→Kd)(k i:Nat):Bool:=
 match ops[k]?,ops[i]? with
 |some o1,some o2=>o1.apart ops o2&&(ks k).gl (ks i)
 |_,_=>true
variable {ks:Nat→Kd}{Q:Exit→Act→World→Prop}
theorem front{i:Nat}{post:List Nat}(hsel:Region.noSelect ops=true):∀(pre:List Nat),(∀k∈pre,nZ ops ks k i=true)→∀(a:Act) (w:World),jY P C ops ks Q (pre++i::post) a w→
  opI P C ops ks i (jY P C ops ks Q (pre++post)) a w
 |[],_,a,w,h=>h
 |k::pre,hp,a,w,h=>by
  have ih:=front hsel (post:=post) pre (fun x hx=>hp x (by simp[hx]));have h1:opI P C ops ks k (fun a w=>opI P C ops ks i (jY P C ops ks Q (pre++post)) a w) a w:=opI.mono (fun a w hh=>ih a w hh) h;have hpk:=hp k (by simp);show opI P C ops ks i (opI P C ops ks k (jY P C ops ks Q (pre++post))) a w
  unfold opI at h1 ⊢;unfold nZ at hpk
  cases hk:ops[k]? with
  |none=>
   simp only[hk]at h1;exact h1
  |some o1=>
   cases hi:ops[i]? with
   |none=>
    simp only[hk,hi]at h1 ⊢;exact h1
   |some o2=>
    simp only[hk,hi,Bool.and_eq_true]at h1 hpk ⊢;exact Hb (Two.of hpk.1 (Region.noSelect_spec hsel k o1 · · hk) (Region.noSelect_spec hsel i o2 · · hi)) hpk.2 h1
theorem qZ{i:Nat}{K:Act→World→Prop}{a:Act}{w:World}(h:opI P C ops ks i K a w):wpOp P ops Q i K a w:=by
 unfold opI at h;unfold wpOp
 split
 ·rename_i ho;rw[ho]at h;exact h
 ·rename_i o ho;rw[ho]at h;simp only at h;unfold opK at h
  split
  ·rename_i hw;rw[if_pos hw]at h;refine .inl ?_;obtain⟨_,h⟩:=h
   cases hk:(ks i).still with
   |true=>
    rw[gr hk]at h;obtain⟨d,v,r,hk⟩:=h;unfold Oper.wp;rw[r w d];exact hk
   |false=>
    rw[mR hk]at h;exact ax.wp (h.mono fun v w' hh=>hh.2)
  ·rename_i hw;rw[if_neg hw]at h;exact h
def cZ(ops:Array Oper):Nat→Nat→Nat→Bool
 |0,_,_=>false
 |f+1,i,k=>match ops[i]? with
  |some o=>o.after.any fun e=>Region.binds .any e&&(Nat.beq e.on k||cZ ops f e.on k)
  |none=>false
def B6(ops:Array Oper)(ks:Nat→Kd):Bool:=
 Region.noSelect ops&&(List.range ops.size).all fun i=>
  (match ops[i]? with|some o=>o.after.all fun e=>!Region.binds .any e||Nat.blt e.on i|none=>true) &&
  (List.range i).all fun k=>nZ ops ks k i||cZ ops 6 i k
structure Ny(ops:Array Oper)(rem:List Nat)(listed:Array Bool):Prop where
 size:listed.size=ops.size
 mem:∀i,i∈rem↔(i<ops.size∧listed.getD i true=false)
 sorted:rem.Pairwise (· < ·)
 closed:∀j o,ops[j]?=some o→listed.getD j false=true→∀e∈o.after,Region.binds .any e=true→listed.getD e.on false=true
theorem jV{listed:Array Bool}(hc:∀j o,ops[j]?=some o→listed.getD j false=true→∀e∈o.after,Region.binds .any e=true→listed.getD e.on false=true) :
  ∀(f i k:Nat) (o:Oper),ops[i]?=some o→(∀e∈o.after,Region.binds .any e=true→listed.getD e.on false=true)→cZ ops f i k=true→listed.getD k false=true
 |0,_,_,_,_,_,h=>by simp[cZ]at h
 |f+1,i,k,o,ho,ha,h=>by
  unfold cZ at h;rw[ho]at h;simp only at h;obtain⟨e,he,hb⟩:=Array.any_eq_true'.1 h;simp only[Bool.and_eq_true,Bool.or_eq_true]at hb;have hl:=ha e he hb.1;rcases hb.2 with hb2|hb2
  ·have:=Nat.eq_of_beq_eq_true hb2;rw[←this];exact hl
  ·cases ho':ops[e.on]? with
   |none=>
    cases f with
    |zero=>simp[cZ]at hb2
    |succ f=>simp[cZ,ho']at hb2
   |some o'=>exact jV hc f e.on k o' ho' (hc _ _ ho' hl) hb2
theorem lQ{listed:Array Bool}{i:Nat}(hi:i<listed.size):listed.getD i true=listed.getD i false:=by simp[hi]
theorem AN(hok:B6 ops ks=true):∀(fuel:Nat) (rem:List Nat) (listed:Array Bool) (a:Act) (w:World),rem.length=fuel→Ny ops rem listed→jY P C ops ks Q rem a w→wpAny P .any ops Q fuel listed a w:=by
 simp only[B6,Bool.and_eq_true,List.all_eq_true,List.mem_range]at hok;obtain⟨hsel,hok⟩:=hok;intro fuel
 induction fuel with
 |zero=>
  intro rem listed a w hl inv h;have hr:rem=[]:=List.eq_nil_of_length_eq_zero hl;subst hr;refine⟨?_,h⟩;rw[List.eq_nil_iff_forall_not_mem];intro j hj;obtain⟨h1,o,ho,_⟩:=mem_ready.1 hj;have:=(inv.mem j).2 ⟨(Array.getElem?_eq_some_iff.1 ho).1,h1⟩;simp at this
 |succ fuel ih=>
  intro rem listed a w hl inv h;refine⟨fun hnil=>?_,fun i hi=>?_⟩
  ·
   cases rem with
   |nil=>simp at hl
   |cons i rest=>
    have hi:=(inv.mem i).1 (by simp);have:i∈Region.ready .any ops listed:=by
     refine mem_ready.2 ⟨hi.2,_,Array.getElem?_eq_getElem hi.1,fun e he hb=>?_⟩;have h1:=(hok i hi.1).1;rw[Array.getElem?_eq_getElem hi.1]at h1;simp only at h1;have h2:=(Array.all_eq_true_iff_forall_mem.1 h1) e he;simp only[hb,Bool.not_true,Bool.false_or]at h2;have hlt:e.on<i:=b6 h2
     cases hle:listed.getD e.on false with
     |true=>rfl
     |false=>
      have hm:e.on∈i::rest:=(inv.mem e.on).2 ⟨by omega,by rw[lQ (by rw[inv.size];omega)];exact hle⟩;have hs:=inv.sorted;rw[List.pairwise_cons]at hs;rcases List.mem_cons.1 hm with hm|hm
      ·omega
      ·have:=hs.1 _ hm;omega
    rw[hnil]at this
    cases this
  ·obtain⟨hun,oi,hoi,hall⟩:=mem_ready.1 hi;have hilt:i<ops.size:=(Array.getElem?_eq_some_iff.1 hoi).1;have hmem:=(inv.mem i).2 ⟨hilt,hun⟩;obtain⟨pre,post,rfl⟩:=List.append_of_mem hmem;have hs:=inv.sorted;rw[List.pairwise_append]at hs;obtain⟨hs1,hs2,hs3⟩:=hs;rw[List.pairwise_cons]at hs2;have hpre:∀k∈pre,nZ ops ks k i=true:=by
    intro k hk;have hki:k<i:=hs3 k hk i (by simp);have hku:=(inv.mem k).1 (by simp[hk]);have h1:=(hok i hilt).2 k hki;simp only[Bool.or_eq_true]at h1;rcases h1 with h1|h1
    ·exact h1
    ·have h2:=jV inv.closed 6 i k oi hoi hall h1;rw[←lQ (by rw[inv.size];omega),hku.2]at h2
     cases h2
   have hf:=front hsel pre hpre a w h;refine wpOp_mono (fun a' w' hh=>?_) (qZ (Q:=Q) hf);refine ih (pre++post) (listed.setIfInBounds i true) a' w' (by simp at hl ⊢;omega) ⟨by simp[inv.size],fun j=>?_,?_,fun j o hj hlj e he hb=>?_⟩ hh
   ·have hj:=inv.mem j;have hij:i ∉ pre++post:=by
     intro hmm;rcases List.mem_append.1 hmm with hmm|hmm
     ·have:=hs3 i hmm i (by simp);omega
     ·have:=hs2.1 i hmm;omega
    by_cases hji:j=i
    ·subst hji
     constructor
     ·intro hm;exact absurd hm hij
     ·rintro⟨_,hm⟩
      have:j<listed.size:=by rw[inv.size];exact hilt
      simp[this]at hm
    ·have e1:(listed.setIfInBounds i true).getD j true=listed.getD j true:=getD_set_ne true (fun e=>hji e.symm);rw[e1,←hj];simp[hji]
   ·rw[List.pairwise_append];exact⟨hs1,hs2.2,fun x hx y hy=>hs3 x hx y (by simp[hy])⟩
   ·by_cases hji:i=j
    ·subst hji;have:o=oi:=Option.some.inj (hj.symm.trans hoi);subst this;exact getD_set_true (hall e he hb)
    ·rw[getD_set_ne false hji]at hlj;exact getD_set_true (inv.closed j o hj hlj e he hb)
theorem uY{id:Nat}{a:Act}{w:World}(hm:P.follows .mixedOrders=true)(hok:B6 ops ks=true)(h:jY P C ops ks Q (List.range ops.size) a { w with drawn:=w.drawn+1 }):(Code.region id ops true).wp P Q a w:=by
 refine wp_region_any hm (AN hok _ (List.range ops.size) _ a _ (by simp) ⟨by simp,fun i=>?_,List.pairwise_lt_range,fun j o hj hl=>?_⟩ h)
 ·rw[List.mem_range]
  constructor
  ·intro hi;exact⟨hi,by simp[hi]⟩
  ·exact fun hi=>hi.1
 ·rw[getD_replicate_false]at hl;exact absurd hl (by simp)
def p8(P:Program)(C:World→Prop)(ops:Array Oper)(ks:Nat→Kd)(Q:Exit→Act→World→Prop):Nat→List Oper→Act→World→Prop
 |_,[]=>fun a w=>Q .normal a w
 |i,o::r=>opK P C ops (ks i) o (p8 P C ops ks Q (i+1) r)
theorem u9:∀(l:List Oper) (i:Nat),(∀j,l[j]?=ops[i+j]?)→p8 P C ops ks Q i l=jY P C ops ks Q (List.range' i l.length)
 |[],i,_=>rfl
 |o::l,i,h=>by
  have h0:ops[i]?=some o:=by simpa using(h 0).symm
  have ih:=u9 l (i+1) (fun j=>by have:=h (j+1);simpa [Nat.add_assoc,Nat.add_comm 1 j]using this)
  funext a w
  simp only[p8,List.length_cons,List.range'_succ,jY,opI,h0,ih]
def N1(o:Oper):Kd:=
 match o.op with
 |.move _ | .assign _ | .pick .. | .fieldAddr .. | .field .. | .indexAddr .. | .index .. | .extract .. | .build .. | .binOp .. | .unOp .. | .convert .. | .nilCheck _ | .slice ..=>.pure
 |.load ..=>.quiet
 |.box .. | .alloc .. | .buildSlice .. | .makeSlice ..=>.cv
 |.call c=>match c.callee with
  |.builtin .len | .builtin .min | .builtin .max | .builtin .cap=>.pure
  |.builtin _=>.uK
  |_=>.cv
 |_=>.uK
def kds(l:List Oper)(ovr:List (Nat×Kd))(i:Nat):Kd:=
 match ovr.lookup i with
 |some k=>k
 |none=>match l[i]? with
  |some o=>N1 o
  |none=>.uK
structure TL(P:Program)(C:World→Prop)(ops:Array Oper)(ks:Nat→Kd)(Q:Exit→Act→World→Prop)(i:Nat)(rest:List Oper)(n:FD)(s:Sg)(M:World→Prop):Prop where
 go:∀a w,Fr n s a→M w→p8 P C ops ks Q i rest a w
end
section
variable {P:Program}{C:World→Prop}{ops:Array Oper}{ks:Nat→Kd}{Q:Exit→Act→World→Prop}{i:Nat}{rest:List Oper}{n:FD}{s:Sg}{M:World→Prop}
 {op:Op}{ty:TypeId}{pos:String}{af:Array Edge}{d:Nat}{v:Value}{w0:World}{L:List HP}
theorem TC.lex{id:Nat}{l:List Oper}(ovr:List (Nat×Kd))(hm:P.follows .mixedOrders=true)(hok:B6 l.toArray (kds l ovr)=true)(k:TL P (St w0 L) l.toArray (kds l ovr) Q 0 l n s (St w0 L)):TC P (.region id l.toArray true) Q n s (St w0 L):=by
 refine⟨fun a w hf hw=>uY (C:=St w0 L) hm hok ?_⟩;have:=k.go a w.drew hf hw.drew;rw[u9 l 0 (by simp)]at this;rw[List.range_eq_range'];simpa using this
theorem TL.nil(k:TX Q .normal n s M):TL P C ops ks Q i [] n s M:=⟨fun a w hf hm=>k.go a w hf hm⟩
theorem TL.mM(hd:Nat.blt d n.sz=true)(hk:ks i=.pure)(h:Ev P n s (fun _=>True) op ty v)(k:TL P C ops ks Q (i+1) rest n ((d,v)::s) M):TL P C ops ks Q i (⟨some d,op,ty,pos,af,none⟩::rest) n s M:=by
 refine⟨fun a w hf hm=>?_⟩;show opK P C ops (ks i) _ _ a w
 rw[kn (by simp[Region.wanted]),hk,gr rfl];exact⟨trivial,trivial,v,fun w' _=>h.go a w' _ rfl rfl hf trivial,k.go _ _ (hf.put hd v) hm⟩
theorem TL.quiet(hd:Nat.blt d n.sz=true)(hk:ks i=.quiet)(hC:∀w,M w→C w)(h:Ev P n s C op ty v)(k:TL P C ops ks Q (i+1) rest n ((d,v)::s) M):TL P C ops ks Q i (⟨some d,op,ty,pos,af,none⟩::rest) n s M:=by
 refine⟨fun a w hf hm=>?_⟩;show opK P C ops (ks i) _ _ a w
 rw[kn (by simp[Region.wanted]),hk,gr rfl];exact⟨trivial,hC w hm,v,fun w' hw'=>h.go a w' _ rfl rfl hf hw',k.go _ _ (hf.put hd v) hm⟩
theorem ax.Ku {ι:Sort _}{val:ι→Value}{M':ι→World→Prop}{F:Value→World→Prop}{a:Act}{w:World}{o:Oper} (h:Ac P n s M op ty val M') (ho:o.op=op) (ht:o.type=ty) (hf:Fr n s a) (hm:M w)
  (k:∀x w',M' x w'→F (val x) w'):ax P o a w F:=by
 obtain⟨x,w',hr,hm'⟩:=h.go a w o ho ht hf hm;unfold ax;rw[hr];exact k x w' hm'
theorem TL.cv {ι:Sort _}{val:ι→Value}{M':ι→World→Prop} (hd:Nat.blt d n.sz=true) (hk:ks i=.cv) (hC:∀w,M w→C w) (h:Ac P n s M op ty val M') (hC':∀x w,M' x w→C w)
  (k:∀x,TL P C ops ks Q (i+1) rest n ((d,val x)::s) (M' x)):TL P C ops ks Q i (⟨some d,op,ty,pos,af,none⟩::rest) n s M:=by
 refine⟨fun a w hf hm=>?_⟩;show opK P C ops (ks i) _ _ a w
 rw[kn (by simp[Region.wanted]),hk,mR rfl];exact⟨hC w hm,ax.Ku h rfl rfl hf hm fun x w' hm'=>⟨hC' x w' hm',(k x).go _ _ (hf.put hd _) hm'⟩⟩
theorem TL.uK {ι:Sort _}{val:ι→Value}{M':ι→World→Prop} (hd:Nat.blt d n.sz=true) (hk:ks i=.uK) (h:Ac P n s M op ty val M')
  (k:∀x,TL P C ops ks Q (i+1) rest n ((d,val x)::s) (M' x)):TL P C ops ks Q i (⟨some d,op,ty,pos,af,none⟩::rest) n s M:=by
 refine⟨fun a w hf hm=>?_⟩;show opK P C ops (ks i) _ _ a w
 rw[kn (by simp[Region.wanted]),hk,mR rfl];exact⟨trivial,ax.Ku h rfl rfl hf hm fun x w' hm'=>⟨trivial,(k x).go _ _ (hf.put hd _) hm'⟩⟩
end
structure Fg(p:Prop):Prop where
 go:p
theorem AtA{p:Prop}(h:p:=by first|with_reducible exact At.here|with_reducible exact(At.there At.here)|with_reducible exact(At.there (At.there At.here))|with_reducible exact(At.there (At.there (At.there At.here)))|with_reducible exact(At.there (At.there (At.there (At.there At.here))))|with_reducible exact(At.there (At.there (At.there (At.there (At.there At.here)))))|with_reducible exact(At.there (At.there (At.there (At.there (At.there (At.there At.here))))))|with_reducible exact(At.there (At.there (At.there (At.there (At.there (At.there (At.there At.here)))))))|with_reducible exact(At.there (At.there (At.there (At.there (At.there (At.there (At.there (At.there At.here))))))))|with_reducible exact(At.there (At.there (At.there (At.there (At.there (At.there (At.there (At.there (At.there At.here)))))))))|with_reducible exact(At.there (At.there (At.there (At.there (At.there (At.there (At.there (At.there (At.there (At.there At.here))))))))))|with_reducible exact(At.there (At.there (At.there (At.there (At.there (At.there (At.there (At.there (At.there (At.there (At.there At.here)))))))))))|with_reducible exact(At.there (At.there (At.there (At.there (At.there (At.there (At.there (At.there (At.there (At.there (At.there (At.there At.here))))))))))))|with_reducible exact(At.there (At.there (At.there (At.there (At.there (At.there (At.there (At.there (At.there (At.there (At.there (At.there (At.there At.here)))))))))))))|exact At.here|exact(At.there At.here)|exact(At.there (At.there At.here))|exact(At.there (At.there (At.there At.here)))|exact(At.there (At.there (At.there (At.there At.here))))|exact(At.there (At.there (At.there (At.there (At.there At.here)))))|exact(At.there (At.there (At.there (At.there (At.there (At.there At.here))))))|exact(At.there (At.there (At.there (At.there (At.there (At.there (At.there At.here)))))))|exact(At.there (At.there (At.there (At.there (At.there (At.there (At.there (At.there At.here))))))))|exact(At.there (At.there (At.there (At.there (At.there (At.there (At.there (At.there (At.there At.here)))))))))|exact(At.there (At.there (At.there (At.there (At.there (At.there (At.there (At.there (At.there (At.there At.here))))))))))|exact(At.there (At.there (At.there (At.there (At.there (At.there (At.there (At.there (At.there (At.there (At.there At.here)))))))))))|exact(At.there (At.there (At.there (At.there (At.there (At.there (At.there (At.there (At.there (At.there (At.there (At.there At.here))))))))))))|exact(At.there (At.there (At.there (At.there (At.there (At.there (At.there (At.there (At.there (At.there (At.there (At.there (At.there At.here)))))))))))))):p:=h
theorem MZ{p:Prop}(h:p:=by first|with_reducible exact Upd.here|with_reducible exact(Upd.there Upd.here)|with_reducible exact(Upd.there (Upd.there Upd.here))|with_reducible exact(Upd.there (Upd.there (Upd.there Upd.here)))|with_reducible exact(Upd.there (Upd.there (Upd.there (Upd.there Upd.here))))|with_reducible exact(Upd.there (Upd.there (Upd.there (Upd.there (Upd.there Upd.here)))))|with_reducible exact(Upd.there (Upd.there (Upd.there (Upd.there (Upd.there (Upd.there Upd.here))))))|with_reducible exact(Upd.there (Upd.there (Upd.there (Upd.there (Upd.there (Upd.there (Upd.there Upd.here)))))))|with_reducible exact(Upd.there (Upd.there (Upd.there (Upd.there (Upd.there (Upd.there (Upd.there (Upd.there Upd.here))))))))|with_reducible exact(Upd.there (Upd.there (Upd.there (Upd.there (Upd.there (Upd.there (Upd.there (Upd.there (Upd.there Upd.here)))))))))|with_reducible exact(Upd.there (Upd.there (Upd.there (Upd.there (Upd.there (Upd.there (Upd.there (Upd.there (Upd.there (Upd.there Upd.here))))))))))|with_reducible exact(Upd.there (Upd.there (Upd.there (Upd.there (Upd.there (Upd.there (Upd.there (Upd.there (Upd.there (Upd.there (Upd.there Upd.here)))))))))))|with_reducible exact(Upd.there (Upd.there (Upd.there (Upd.there (Upd.there (Upd.there (Upd.there (Upd.there (Upd.there (Upd.there (Upd.there (Upd.there Upd.here))))))))))))|with_reducible exact(Upd.there (Upd.there (Upd.there (Upd.there (Upd.there (Upd.there (Upd.there (Upd.there (Upd.there (Upd.there (Upd.there (Upd.there (Upd.there Upd.here)))))))))))))|exact Upd.here|exact(Upd.there Upd.here)|exact(Upd.there (Upd.there Upd.here))|exact(Upd.there (Upd.there (Upd.there Upd.here)))|exact(Upd.there (Upd.there (Upd.there (Upd.there Upd.here))))|exact(Upd.there (Upd.there (Upd.there (Upd.there (Upd.there Upd.here)))))|exact(Upd.there (Upd.there (Upd.there (Upd.there (Upd.there (Upd.there Upd.here))))))|exact(Upd.there (Upd.there (Upd.there (Upd.there (Upd.there (Upd.there (Upd.there Upd.here)))))))|exact(Upd.there (Upd.there (Upd.there (Upd.there (Upd.there (Upd.there (Upd.there (Upd.there Upd.here))))))))|exact(Upd.there (Upd.there (Upd.there (Upd.there (Upd.there (Upd.there (Upd.there (Upd.there (Upd.there Upd.here)))))))))|exact(Upd.there (Upd.there (Upd.there (Upd.there (Upd.there (Upd.there (Upd.there (Upd.there (Upd.there (Upd.there Upd.here))))))))))|exact(Upd.there (Upd.there (Upd.there (Upd.there (Upd.there (Upd.there (Upd.there (Upd.there (Upd.there (Upd.there (Upd.there Upd.here)))))))))))|exact(Upd.there (Upd.there (Upd.there (Upd.there (Upd.there (Upd.there (Upd.there (Upd.there (Upd.there (Upd.there (Upd.there (Upd.there Upd.here))))))))))))|exact(Upd.there (Upd.there (Upd.there (Upd.there (Upd.there (Upd.there (Upd.there (Upd.there (Upd.there (Upd.there (Upd.there (Upd.there (Upd.there Upd.here)))))))))))))):p:=h
theorem u7{p:Prop}(h:p:=by first|exact fun _ h=>h|exact fun _ h=>h.drop 1|exact fun _ h=>h.drop 2|exact fun _ h=>h.drop 3|exact fun _ h=>h.drop 4|exact fun _ h=>h.drop 5|exact fun _ h=>h.drop 6):p:=h
theorem EvA{p:Prop}(h:p:=by first|(apply Ev.move;(exact rfl))|(apply Ev.assign;(exact rfl))|(apply Ev.IA;(exact rfl))|(apply Ev.uT;(exact rfl))|(apply Ev.LZ;(exact rfl);(exact AtA);(exact rfl))|(apply Ev.Nn;(exact rfl);(exact AtA);(exact rfl))|(apply Ev.Ou;(exact rfl);(exact AtA);(exact rfl);(exact rfl))|(apply Ev.lss;(exact rfl);(exact rfl))|(apply Ev.leq;(exact rfl);(exact rfl))|(apply Ev.gtr;(exact rfl);(exact rfl))|(apply Ev.geq;(exact rfl);(exact rfl))|(apply Ev.eql;(exact rfl);(exact rfl))|(apply Ev.neq;(exact rfl);(exact rfl))|(apply Ev.not;(exact rfl))|(apply Ev.Mz;(exact rfl);(exact rfl);(assumption))|(apply Ev.NY;(exact rfl);(exact rfl);(omega))|(apply Ev.MD;(exact rfl);(exact rfl);(omega))|(apply Ev.Ek;(exact rfl))|(apply Ev.NX;(exact rfl))|(apply Ev.NW;(exact rfl);(exact rfl))|(apply Ev.NV;(exact rfl);(exact rfl))|(apply Ev.N3;(exact rfl);(first|exact rfl|assumption);(exact rfl))|(apply Ev.NZ;(exact rfl);(first|exact rfl|assumption);(exact rfl))|(apply Ev.extract;(exact rfl);(exact rfl))|(apply Ev.nilCheck;(exact rfl))|(apply Ev.succ;(exact rfl);(omega))|(apply Ev.pred;(exact rfl);(omega);(omega))|(apply Ev.CI;(exact rfl);(omega))|(apply Ev.wv;(exact rfl);(exact rfl);(first|decide|omega))|(apply Ev.Nf;(exact rfl);(exact rfl))|(apply Ev.Nu;(exact rfl);(exact rfl))|(apply Ev.indexAddr;(exact rfl);(exact rfl);(first|omega|assumption);(first|exact fun _ _=>rfl|exact fun _ _=>(by assumption)|exact fun w hw=>(St.JO hw (by exact AtA)).some_ (by omega)|exact fun w hw=>(St.Jf hw (by exact AtA)).some_ (by omega)|exact fun w hw=>(St.Jc hw (by assumption)).some_ (by omega)|exact fun w hw=>(St.bJ hw At.here).some_ (by first|omega|decide)|exact fun w hw=>(St.bJ hw (At.there At.here)).some_ (by first|omega|decide)|exact fun w hw=>(St.bJ hw (At.there (At.there At.here))).some_ (by first|omega|decide)|exact fun w hw=>(St.bJ hw (At.there (At.there (At.there At.here)))).some_ (by first|omega|decide)|exact fun w hw=>(St.bJ hw (At.there (At.there (At.there (At.there At.here))))).some_ (by first|omega|decide)|exact fun w hw=>(St.bJ hw (At.there (At.there (At.there (At.there (At.there At.here)))))).some_ (by first|omega|decide)|exact fun w hw=>(St.bJ hw (At.there (At.there (At.there (At.there (At.there (At.there At.here))))))).some_ (by first|omega|decide)|exact fun w hw=>(St.bJ hw (At.there (At.there (At.there (At.there (At.there (At.there (At.there At.here)))))))).some_ (by first|omega|decide)|exact fun w hw=>(St.bJ hw (At.there (At.there (At.there (At.there (At.there (At.there (At.there (At.there At.here))))))))).some_ (by first|omega|decide)|exact fun w hw=>(St.bJ hw (At.there (At.there (At.there (At.there (At.there (At.there (At.there (At.there (At.there At.here)))))))))).some_ (by first|omega|decide)|exact fun w hw=>(St.bJ hw (At.there (At.there (At.there (At.there (At.there (At.there (At.there (At.there (At.there (At.there At.here))))))))))).some_ (by first|omega|decide)|exact fun w hw=>(St.bJ hw (At.there (At.there (At.there (At.there (At.there (At.there (At.there (At.there (At.there (At.there (At.there At.here)))))))))))).some_ (by first|omega|decide)))|(apply Ev.indexAddrZ;(exact rfl);(exact rfl);(first|decide|omega);(first|decide|omega);(first|exact fun _ _=>rfl|exact fun _ _=>(by assumption)|exact fun w hw=>(St.JO hw (by exact AtA)).some_ (by omega)|exact fun w hw=>(St.Jf hw (by exact AtA)).some_ (by omega)|exact fun w hw=>(St.Jc hw (by assumption)).some_ (by omega)|exact fun w hw=>(St.bJ hw At.here).some_ (by first|omega|decide)|exact fun w hw=>(St.bJ hw (At.there At.here)).some_ (by first|omega|decide)|exact fun w hw=>(St.bJ hw (At.there (At.there At.here))).some_ (by first|omega|decide)|exact fun w hw=>(St.bJ hw (At.there (At.there (At.there At.here)))).some_ (by first|omega|decide)|exact fun w hw=>(St.bJ hw (At.there (At.there (At.there (At.there At.here))))).some_ (by first|omega|decide)|exact fun w hw=>(St.bJ hw (At.there (At.there (At.there (At.there (At.there At.here)))))).some_ (by first|omega|decide)|exact fun w hw=>(St.bJ hw (At.there (At.there (At.there (At.there (At.there (At.there At.here))))))).some_ (by first|omega|decide)|exact fun w hw=>(St.bJ hw (At.there (At.there (At.there (At.there (At.there (At.there (At.there At.here)))))))).some_ (by first|omega|decide)|exact fun w hw=>(St.bJ hw (At.there (At.there (At.there (At.there (At.there (At.there (At.there (At.there At.here))))))))).some_ (by first|omega|decide)|exact fun w hw=>(St.bJ hw (At.there (At.there (At.there (At.there (At.there (At.there (At.there (At.there (At.there At.here)))))))))).some_ (by first|omega|decide)|exact fun w hw=>(St.bJ hw (At.there (At.there (At.there (At.there (At.there (At.there (At.there (At.there (At.there (At.there At.here))))))))))).some_ (by first|omega|decide)|exact fun w hw=>(St.bJ hw (At.there (At.there (At.there (At.there (At.there (At.there (At.there (At.there (At.there (At.there (At.there At.here)))))))))))).some_ (by first|omega|decide)))|(apply Ev.cell0;(exact rfl);(exact rfl);(exact NH);(first|assumption|exact irows_get (by assumption)|exact rfl);(exact rfl))|(apply Ev.cell;(exact rfl);(exact rfl);(exact NH);(first|assumption|exact irows_get (by assumption)|exact rfl);(exact rfl))|(apply Ev.elem;(exact rfl);(exact rfl);(exact NH);(first|assumption|exact rfl);(first|exact rfl|assumption))|(apply Ev.build;(exact rfl);(exact rfl))|(apply Ev.Bn;(skip))|(apply Ev.tab;(exact rfl);(assumption);(exact rfl))|(apply Ev.bts_eql;(exact rfl);(exact rfl))|(apply Ev.field;(exact rfl);(exact rfl))|(apply Ev.max_;(exact rfl);(exact rfl))|(apply Ev.min_;(exact rfl);(exact rfl))|(apply Ev.quo;(exact rfl);(omega);(omega))|(apply Ev.add;(exact rfl);(exact rfl);(first|assumption|(unfold I64;omega)))|(apply Ev.sub;(exact rfl);(exact rfl);(first|assumption|(unfold I64;omega)))):p:=h
theorem W1{p q:Prop}(k:q)(h:Fg q→p:=by(intro k;first|(apply T.ev_;(exact rfl);(exact EvA);(exact k.go))|(apply T.nil;(exact k.go))|(apply T.make;(exact rfl);(exact rfl);(exact rfl);(first|omega|assumption);(first|omega|(unfold maxLen;omega));(exact k.go))|(apply T.Cs;(exact rfl);(exact rfl);(exact rfl);(first|omega|assumption);(first|omega|(unfold maxLen;omega));(exact k.go))|(apply T.Oc;(exact rfl);(exact rfl);(exact rfl);(exact rfl);(exact rfl);(exact k.go))|(apply T.lit2;(exact rfl);(exact rfl);(exact rfl);(exact rfl);(exact rfl);(exact rfl);(exact rfl);(exact rfl);(exact k.go))|(apply T.lit3;(exact rfl);(exact rfl);(exact rfl);(exact rfl);(exact rfl);(exact rfl);(exact rfl);(exact rfl);(exact rfl);(exact rfl);(exact rfl);(exact k.go))|(apply T.lit4;(exact rfl);(exact rfl);(exact rfl);(exact rfl);(exact rfl);(exact rfl);(exact rfl);(exact rfl);(exact rfl);(exact rfl);(exact rfl);(exact rfl);(exact rfl);(exact rfl);(exact k.go))|(apply T.box;(exact rfl);(exact rfl);(exact rfl);(exact k.go))|(apply T.alloc;(exact rfl);(exact rfl);(exact k.go))|(apply T.store;(exact rfl);(exact rfl);(exact rfl);(exact rfl);(exact rfl);(exact MZ);(exact rfl);(exact k.go))|(apply T.Ex;(exact rfl);(exact rfl);(exact rfl);(first|exact rfl|assumption);(exact k.go))|(apply T.Hg;(exact rfl);(exact rfl);(exact rfl);(exact rfl);(first|exact rfl|assumption);(exact k.go))|(apply T.yu;(exact rfl);(exact rfl);(exact rfl);(exact rfl);(exact k.go))|(apply TC.seq;(exact k.go))|(apply TC.region;(exact k.go))|(apply TC.lex [] mixed (by kernel_rfl);(exact k.go))|(apply TC.block;(exact k.go))|(apply TC.skip;(exact k.go))|(apply TC.exit;(exact k.go))|(apply TC.ret;(exact k.go))|(apply TC.KK;(exact rfl);(first|exact rfl|assumption);(exact k.go))|(apply TC.Lo;(exact rfl);(first|exact rfl|assumption);(exact k.go))|(apply TX.zL;(exact k.go))|(apply TX.EA;(exact k.go))|(apply TX.MQ;(exact k.go))|(apply TX.xl;(exact k.go))|(apply TX.MA;(exact k.go))|(apply TX.BT;(exact k.go))|(apply TX.Mp;(exact rfl);(exact k.go))|(apply TL.mM;(exact rfl);(exact rfl);(exact EvA);(exact k.go))|(apply TL.quiet;(exact rfl);(exact rfl);(exact u7);(exact EvA);(exact k.go))|(apply TL.cv;(exact rfl);(exact rfl);(exact u7);(first|exact Ac.box rfl rfl|exact Ac.alloc rfl);(exact wW);(exact k.go))|(apply TL.Oq;(exact rfl);(apply Ac.store;(exact rfl);(exact rfl);(exact rfl);(exact rfl);(exact rfl);(exact MZ);(exact rfl));(exact k.go))|(apply TL.nil;(exact k.go))|(apply TL.uK;(exact rfl);(exact rfl);(apply Ac.make;(exact rfl);(exact rfl);(first|omega|assumption);(first|omega|(unfold maxLen;omega)));(exact k.go))|(apply TL.cv;(exact rfl);(exact rfl);(exact u7);(apply Ac.Oc;(exact rfl);(exact rfl);(exact rfl);(exact rfl));(exact wW);(exact k.go))|(apply TL.cv;(exact rfl);(exact rfl);(exact u7);(apply Ac.lit2;(exact rfl);(exact rfl);(exact rfl);(exact rfl);(exact rfl);(exact rfl);(exact rfl));(exact wW);(exact k.go))|(apply TL.cv;(exact rfl);(exact rfl);(exact u7);(apply Ac.lit3;(exact rfl);(exact rfl);(exact rfl);(exact rfl);(exact rfl);(exact rfl);(exact rfl);(exact rfl);(exact rfl);(exact rfl));(exact wW);(exact k.go))|(apply TL.cv;(exact rfl);(exact rfl);(exact u7);(apply Ac.lit4;(exact rfl);(exact rfl);(exact rfl);(exact rfl);(exact rfl);(exact rfl);(exact rfl);(exact rfl);(exact rfl);(exact rfl);(exact rfl);(exact rfl);(exact rfl));(exact wW);(exact k.go))|(apply TL.Ex;(exact rfl);(exact rfl);(exact rfl);(first|exact rfl|assumption);(exact k.go))|(apply TL.Hg;(exact rfl);(exact rfl);(exact rfl);(exact rfl);(first|exact rfl|assumption);(exact k.go))|(apply TL.yu;(exact rfl);(exact rfl);(exact rfl);(exact rfl);(exact k.go)))):p:=h ⟨k⟩
def M4(k:Nat):List Nat→Bool
 |[]=>false
 |x::l=>bif Nat.beq x k then true else M4 k l
def L3:List Oper→List Nat
 |[]=>[]
 |o::l=>match o.dst with
  |some d=>d::L3 l
  |none=>L3 l
def asg:Code→List Nat→List Nat
 |.region _ ops _,r=>L3 ops.toList++r
 |.seq a b,r=>asg a (asg b r)
 |.cond _ a b,r=>asg a (asg b r)
 |.block _ c,r=>asg c r
 |.loop c,r=>asg c r
 |.scope c,r=>asg c r
 |.rangeFunc _ p a b,r=>p.toList++asg a (asg b r)
 |_,r=>r
inductive Kp:List Nat→Sg→Sg→Prop where
 |nil {l:List Nat}:Kp l [] []
 |skip {l:List Nat}{p:Nat×Value}{s s1:Sg}:M4 p.1 l=true→Kp l s s1→Kp l (p::s) s1
 |cv {l:List Nat}{p:Nat×Value}{s s1:Sg}:Kp (p.1::l) s s1→Kp l (p::s) (p::s1)
theorem KpA{l:List Nat}{s s1:Sg}(h:Kp l s s1:=by repeat' (first|exact Kp.nil|(apply Kp.skip;exact rfl)|apply Kp.cv)):Kp l s s1:=h
theorem HD{s s':Sg}(h:Sub s s':=by repeat' (first|exact trivial|refine⟨rfl,?_⟩)):Sub s s':=h
class FV(P:Program)(t i:Nat)(off:outParam Nat):Prop where
 run:∀(cs:Array Value) v w,cs[off]?=some v→(Instr.field t (.agg cs) i).run P w=.ok v w
theorem FV.of {P:Program}{t i off:Nat}{fs:Array Field}{f:Field}{d:TypeDesc} (hu:P.underlying t=some (.struct fs)) (hf':fs[i]?=some f) (ho:f.offset=off) (hd:P.underlying f.type=some d)
  (hd':(match d with | .struct _ | .array _ _=>true|_=>false)=false):FV P t i off:=by
 refine⟨fun cs v w hv=>?_⟩;subst ho
 cases d<;>simp at hd'<;>simp[Instr.field,run_underlying hu,hf',part,isAgg,run_underlying hd,asAgg,hv]
section
variable {P:Program}{Q:Exit→Act→World→Prop}{n:FD}{s:Sg}{M:World→Prop}{c:Code}
theorem TC.NC {ι:Type _} (x0:ι) (md:ι→Sg→Sg) (M':ι→World→Prop) (p:ι→Prop) (μ:ι→Nat) {s1:Sg} (hk:Kp (asg c []) s s1)
  (hs:Sub (md x0 s1) s) (hM:∀w,M w→M' x0 w) (hp:p x0)
  (round:∀x,p x→TC P c (Exit.then (fun a w=>∃y,p y∧μ y<μ x∧Fr n (md y s1) a∧M' y w) Q) n (md x s1) (M' x)):TC P (.loop c) Q n s M:=
 TC.loop (fun x=>md x s1) M' p μ (TX.enter x0 hp hs hM) round
end
end Go.Sl
end
section
namespace Go.Proofs.YtpbichnnflabdaaGreatDoor
open Go Go.Sl
set_option maxRecDepth 100000
instance:UD Tryz.prog 3 (.int .i64):=⟨Tryz.underlying3⟩
instance:L1 Tryz.prog 5:=L1.of Tryz.underlying5 rfl
instance:UD Tryz.prog 5 (.int .u8):=⟨Tryz.underlying5⟩
instance:SlT Tryz.prog 30 3 1 8 (.int .i64 0):=SlT.of Tryz.underlying30 (by kernel_rfl) rfl rfl
instance:SZ Tryz.prog 42 1:=SZ.of (by kernel_rfl)
instance:SZ Tryz.prog 44 4:=SZ.of (by kernel_rfl)
instance:ZV Tryz.prog 44 (.agg #[(.int .u64 0),(.int .u64 0),(.int .u64 0),(.int .u64 0)]):=ZV.of (by kernel_rfl)
instance:LN Tryz.prog 44 4:=LN.of Tryz.underlying44 rfl (by kernel_rfl)
instance:AT Tryz.prog 44 4 42 1:=⟨Tryz.underlying44,(SZ.of (k:=1) (by kernel_rfl)).info⟩
instance:UD Tryz.prog 72 (.slice 39):=⟨Tryz.underlying72⟩
instance:SlT Tryz.prog 72 39 2 32 (.agg #[(.slice none 0 0),(.int .i64 0)]):=SlT.of Tryz.underlying72 (by kernel_rfl) rfl rfl
instance:SZ Tryz.prog 200 1:=SZ.of (by kernel_rfl)
instance:L1 Tryz.prog 200:=L1.of Tryz.underlying200 rfl
instance:L1 Tryz.prog 201:=L1.of Tryz.underlying201 rfl
instance:UD Tryz.prog 201 (.slice 5):=⟨Tryz.underlying201⟩
instance:FA Tryz.prog 203 0 0:=FA.of Tryz.underlying203 rfl rfl (by kernel_rfl)
instance:FA Tryz.prog 203 1 1:=FA.of Tryz.underlying203 rfl rfl (by kernel_rfl)
instance:AT Tryz.prog 256 64 5 1:=⟨Tryz.underlying256,(SZ.of (k:=1) (by kernel_rfl)).info⟩
instance:CF Tryz.prog 90:=CF.of Tryz.func90 (by kernel_rfl) rfl
instance:CF Tryz.prog 94:=CF.of Tryz.func94 (by kernel_rfl) rfl
instance:CF Tryz.prog 125:=CF.of Tryz.func125 (by kernel_rfl) rfl
instance:CF Tryz.prog 151:=CF.of Tryz.func151 (by kernel_rfl) rfl
instance:CF Tryz.prog 154:=CF.of Tryz.func154 (by kernel_rfl) rfl
instance:CF Tryz.prog 173:=CF.of Tryz.func173 (by kernel_rfl) rfl
instance:CF Tryz.prog 190:=CF.of Tryz.func190 (by kernel_rfl) rfl
instance:CF Tryz.prog 195:=CF.of Tryz.func195 (by kernel_rfl) rfl
instance:CF Tryz.prog 198:=CF.of Tryz.func198 (by kernel_rfl) rfl
instance:CF Tryz.prog 200:=CF.of Tryz.func200 (by kernel_rfl) rfl
theorem mixed:Tryz.prog.follows .mixedOrders=true:=by kernel_rfl
end Go.Proofs.YtpbichnnflabdaaGreatDoor
end
section
namespace Go.Vc
open Go Go.RowKit Go.Sl
inductive F where
 |vl (x:Value)
 |sl (rows:List (List F))
 |ag (cs:List F)
 |tp (cs:List F)
 |pt (sz:Nat) (rows:List (List F)) (i o:Nat)
 |cl (f:Nat) (cs:List F)
 |mp (rows:List (List F))
inductive D where
 |fr (x:F)
 |ag (cs:List D)
 |tp (cs:List D)
 |cl (f:Nat) (cs:List D)
 |ptr (b v o:Nat)
 |rp (b v sz i o:Nat)
 |own (b v:Nat)
 |mv (b v:Nat)
 |yl (b v:Nat)
 |sub (b v sz lo hi:Nat) (ex:Bool)
 |fx (rows:List (List F))
 |mcl (f:Nat) (fs cs:List D)
structure Lp where
 st:Nat
 gF:Option Code
 f:Nat
 N:Nat
 s:List (Nat×D)
 ps:List Nat
 asg:Code
 body:Code
 db:Nat
 dv:Nat
structure Ext(Z:Nat→Prop)(w:World)(Z':Nat→Prop)(w':World):Prop where
 sub:∀g,Z g→Z' g
 eq:∀g,Z g→w'.heap[g]?=w.heap[g]?
theorem Ext.refl(Z:Nat→Prop)(w:World):Ext Z w Z w:=⟨fun _ h=>h,fun _ _=>rfl⟩
theorem Ext.trans{Z Z' Z'':Nat→Prop}{w w' w'':World}(h:Ext Z w Z' w')(h':Ext Z' w' Z'' w''):Ext Z w Z'' w'':=
 ⟨fun g hg=>h'.sub g (h.sub g hg),fun g hg=>(h'.eq g (h.sub g hg)).trans (h.eq g hg)⟩
structure Ab where
 on:Nat→(Nat→Prop)→World→(Nat→Prop)→World→Prop
 le:∀{g:Nat}{Z Z':Nat→Prop}{R R':World}{S:Nat→Prop}{w w':World},Ext Z R Z' R'→(∀i,S i→w'.heap[i]?=w.heap[i]?)→on g Z R S w→on g Z' R' S w'
inductive B where
 |va (v t:Nat) (cs:List D)
 |ro (v e sz:Nat) (rows:List (List F))
 |gone (v:Nat)
 |mp (v:Nat) (rows:List (List F))
 |lp (v:Nat) (l:Lp)
 |df (v:Nat)
 |gh (v:Nat) (vs:List Value) (ds:List D)
 |ab (v:Nat) (a:Ab)
def B.ver:B→Nat
 |.va v _ _=>v
 |.ro v _ _ _=>v
 |.gone v=>v
 |.mp v _=>v
 |.lp v _=>v
 |.df v=>v
 |.gh v _ _=>v
 |.ab v _=>v
instance:Inhabited F:=⟨.vl undef⟩
mutual
def F.rep(Z:Nat→Prop)(w:World):F→Value→Prop
 |.vl x,u=>u=x
 |.sl rows,u=>∃A c vr sz,u=.slice A rows.length c∧rows.length≤c∧Arr sz Z w A rows.length vr∧(∀r∈vr,cb r=true)∧F.aI Z w rows vr
 |.ag cs,u=>∃vs:List Value,u=.agg vs.toArray∧F.ah Z w cs vs
 |.tp cs,u=>∃vs:List Value,u=.tuple vs.toArray∧F.ah Z w cs vs
 |.pt sz rows i o,u=>∃A vr,u=.pointer (some (Addr.add A (i*sz+o)))∧Arr sz Z w (some A) rows.length vr∧(∀r∈vr,cb r=true)∧F.aI Z w rows vr
 |.cl f cs,u=>∃vs:List Value,u=.func (.func f) #[] vs.toArray∧F.ah Z w cs vs
 |.mp rows,u=>∃(g:Nat) (es:Array MapEntry) (clock:Nat),u=.map (some g)∧Z g∧w.heap[g]?=some (.map es clock)∧F.aI Z w rows (es.toList.map fun e=>[e.key,e.val])
def F.ah(Z:Nat→Prop)(w:World):List F→List Value→Prop
 |[],vs=>vs=[]
 |x::l,vs=>∃u us,vs=u::us∧F.rep Z w x u∧F.ah Z w l us
def F.aI(Z:Nat→Prop)(w:World):List (List F)→List (List Value)→Prop
 |[],vs=>vs=[]
 |x::l,vs=>∃u us,vs=u::us∧F.ah Z w x u∧F.aI Z w l us
end
theorem Ext.arr{Z Z':Nat→Prop}{w w':World}(h:Ext Z w Z' w'){sz n:Nat}{A:Option Addr}{rows:List (List Value)}(ha:Arr sz Z w A n rows):Arr sz Z' w' A n rows:=
 (ha.loc h.eq).mono h.sub
section
variable {Z Z':Nat→Prop}{w w':World}
mutual
theorem F.rep.ext(h:Ext Z w Z' w'):∀(x:F) (u:Value),F.rep Z w x u→F.rep Z' w' x u
 |.vl x,u,hx=>by unfold F.rep at hx ⊢;exact hx
 |.sl rows,u,hx=>by
  unfold F.rep at hx ⊢;obtain⟨A,c,vr,sz,h1,h0,h2,h3,h4⟩:=hx;exact⟨A,c,vr,sz,h1,h0,h.arr h2,h3,F.aI.ext h rows vr h4⟩
 |.ag cs,u,hx=>by
  unfold F.rep at hx ⊢;obtain⟨vs,h1,h2⟩:=hx;exact⟨vs,h1,F.ah.ext h cs vs h2⟩
 |.tp cs,u,hx=>by
  unfold F.rep at hx ⊢;obtain⟨vs,h1,h2⟩:=hx;exact⟨vs,h1,F.ah.ext h cs vs h2⟩
 |.pt sz rows i o,u,hx=>by
  unfold F.rep at hx ⊢;obtain⟨A,vr,h1,h2,h3,h4⟩:=hx;exact⟨A,vr,h1,h.arr h2,h3,F.aI.ext h rows vr h4⟩
 |.cl f cs,u,hx=>by
  unfold F.rep at hx ⊢;obtain⟨vs,h1,h2⟩:=hx;exact⟨vs,h1,F.ah.ext h cs vs h2⟩
 |.mp rows,u,hx=>by
  unfold F.rep at hx ⊢;obtain⟨g,es,k,h1,h2,h3,h4⟩:=hx;exact⟨g,es,k,h1,h.sub g h2,(h.eq g h2).trans h3,F.aI.ext h rows _ h4⟩
theorem F.ah.ext(h:Ext Z w Z' w'):∀(x:List F) (u:List Value),F.ah Z w x u→F.ah Z' w' x u
 |[],u,hx=>by unfold F.ah at hx ⊢;exact hx
 |x::l,u,hx=>by
  unfold F.ah at hx ⊢;obtain⟨a,b,h1,h2,h3⟩:=hx;exact⟨a,b,h1,F.rep.ext h x a h2,F.ah.ext h l b h3⟩
theorem F.aI.ext(h:Ext Z w Z' w'):∀(x:List (List F)) (u:List (List Value)),F.aI Z w x u→F.aI Z' w' x u
 |[],u,hx=>by unfold F.aI at hx ⊢;exact hx
 |x::l,u,hx=>by
  unfold F.aI at hx ⊢;obtain⟨a,b,h1,h2,h3⟩:=hx;exact⟨a,b,h1,F.ah.ext h x a h2,F.aI.ext h l b h3⟩
end
theorem F.aW:∀{x:List F}{u:List Value},F.ah Z w x u→u.length=x.length
 |[],u,h=>by unfold F.ah at h;simp[h]
 |x::l,u,h=>by
  unfold F.ah at h;obtain⟨a,b,rfl,_,h3⟩:=h;simp[F.aW h3]
theorem F.ic:∀{x:List (List F)}{u:List (List Value)},F.aI Z w x u→u.length=x.length
 |[],u,h=>by unfold F.aI at h;simp[h]
 |x::l,u,h=>by
  unfold F.aI at h;obtain⟨a,b,rfl,_,h3⟩:=h;simp[F.ic h3]
theorem F.b5:∀{x:List F}{u:List Value},F.ah Z w x u→∀{i:Nat}{y:F},x[i]?=some y→∃v,u[i]?=some v∧F.rep Z w y v
 |[],u,h,i,y,hi=>by simp at hi
 |x::l,u,h,i,y,hi=>by
  unfold F.ah at h;obtain⟨a,b,rfl,h2,h3⟩:=h
  cases i with
  |zero=>simp at hi;subst hi;exact⟨a,rfl,h2⟩
  |succ i=>simp at hi;simpa using F.b5 h3 hi
theorem F.ff:∀{x:List (List F)}{u:List (List Value)},F.aI Z w x u→∀{i:Nat}{y:List F},x[i]?=some y→∃v,u[i]?=some v∧F.ah Z w y v
 |[],u,h,i,y,hi=>by simp at hi
 |x::l,u,h,i,y,hi=>by
  unfold F.aI at h;obtain⟨a,b,rfl,h2,h3⟩:=h
  cases i with
  |zero=>simp at hi;subst hi;exact⟨a,rfl,h2⟩
  |succ i=>simp at hi;simpa using F.ff h3 hi
theorem F.bw:∀{x y:List F}{u v:List Value},F.ah Z w x u→F.ah Z w y v→F.ah Z w (x++y) (u++v)
 |[],y,u,v,h,h'=>by unfold F.ah at h;subst h;exact h'
 |x::l,y,u,v,h,h'=>by
  unfold F.ah at h;obtain⟨a,b,rfl,h2,h3⟩:=h;rw[List.cons_append,List.cons_append];unfold F.ah;exact⟨a,_,rfl,h2,F.bw h3 h'⟩
theorem F.eV:∀{x y:List (List F)}{u v:List (List Value)},F.aI Z w x u→F.aI Z w y v→F.aI Z w (x++y) (u++v)
 |[],y,u,v,h,h'=>by unfold F.aI at h;subst h;exact h'
 |x::l,y,u,v,h,h'=>by
  unfold F.aI at h;obtain⟨a,b,rfl,h2,h3⟩:=h;rw[List.cons_append,List.cons_append];unfold F.aI;exact⟨a,_,rfl,h2,F.eV h3 h'⟩
theorem F.cY:∀{x:List F}{u:List Value} (k:Nat),F.ah Z w x u→F.ah Z w (x.take k) (u.take k)
 |_,_,0,_=>by simp[F.ah]
 |[],u,k+1,h=>by unfold F.ah at h;subst h;simp[F.ah]
 |x::l,u,k+1,h=>by
  unfold F.ah at h;obtain⟨a,b,rfl,h2,h3⟩:=h;rw[List.take_succ_cons,List.take_succ_cons];unfold F.ah;exact⟨a,_,rfl,h2,F.cY k h3⟩
theorem F.da:∀{x:List F}{u:List Value} (k:Nat),F.ah Z w x u→F.ah Z w (x.drop k) (u.drop k)
 |_,_,0,h=>by simpa using h
 |[],u,k+1,h=>by unfold F.ah at h;subst h;simp[F.ah]
 |x::l,u,k+1,h=>by
  unfold F.ah at h;obtain⟨a,b,rfl,h2,h3⟩:=h;simpa using F.da k h3
theorem F.cH:∀{x:List (List F)}{u:List (List Value)} (k:Nat),F.aI Z w x u→F.aI Z w (x.take k) (u.take k)
 |_,_,0,_=>by simp[F.aI]
 |[],u,k+1,h=>by unfold F.aI at h;subst h;simp[F.aI]
 |x::l,u,k+1,h=>by
  unfold F.aI at h;obtain⟨a,b,rfl,h2,h3⟩:=h;rw[List.take_succ_cons,List.take_succ_cons];unfold F.aI;exact⟨a,_,rfl,h2,F.cH k h3⟩
theorem F.dn:∀{x:List (List F)}{u:List (List Value)} (k:Nat),F.aI Z w x u→F.aI Z w (x.drop k) (u.drop k)
 |_,_,0,h=>by simpa using h
 |[],u,k+1,h=>by unfold F.aI at h;subst h;simp[F.aI]
 |x::l,u,k+1,h=>by
  unfold F.aI at h;obtain⟨a,b,rfl,h2,h3⟩:=h;simpa using F.dn k h3
theorem F.tB:∀{x:List (List F)}{u:List (List Value)} (i:Nat) {r:List F}{v:List Value},F.aI Z w x u→F.ah Z w r v→F.aI Z w (x.set i r) (u.set i v)
 |[],u,i,r,v,h,_=>by unfold F.aI at h;subst h;simp[F.aI]
 |x::l,u,0,r,v,h,hr=>by
  unfold F.aI at h;obtain⟨a,b,rfl,h2,h3⟩:=h;rw[List.set_cons_zero,List.set_cons_zero];unfold F.aI;exact⟨v,b,rfl,hr,h3⟩
 |x::l,u,i+1,r,v,h,hr=>by
  unfold F.aI at h;obtain⟨a,b,rfl,h2,h3⟩:=h;rw[List.set_cons_succ,List.set_cons_succ];unfold F.aI;exact⟨a,_,rfl,h2,F.tB i h3 hr⟩
theorem F.Ad{r:List F}{v:List Value}(h:F.ah Z w r v):∀(m:Nat),F.aI Z w (List.replicate m r) (List.replicate m v)
 |0=>by simp[F.aI]
 |m+1=>by
  rw[List.replicate_succ,List.replicate_succ];unfold F.aI;exact⟨v,_,rfl,h,F.Ad h m⟩
theorem F.Fs:∀(vs:List Value),F.ah Z w (vs.map .vl) vs
 |[]=>by simp[F.ah]
 |v::l=>by
  rw[List.map_cons];unfold F.ah;exact⟨v,l,rfl,by simp[F.rep],F.Fs l⟩
end
structure Cf where
 ι:Nat→Nat→Option (Option Addr×Nat×Nat)
 R:World
 Z:Nat→Prop
structure Cf.le(c c':Cf):Prop where
 ι:∀b v x,c.ι b v=some x→c'.ι b v=some x
 ext:Ext c.Z c.R c'.Z c'.R
theorem Cf.le.refl(c:Cf):c.le c:=⟨fun _ _ _ h=>h,Ext.refl _ _⟩
theorem Cf.le.trans{c c' c'':Cf}(h:c.le c')(h':c'.le c''):c.le c'':=⟨fun b v x hx=>h'.ι b v x (h.ι b v x hx),h.ext.trans h'.ext⟩
mutual
def D.rep(c:Cf):D→Value→Prop
 |.fr x,u=>F.rep c.Z c.R x u
 |.ag cs,u=>∃vs:List Value,u=.agg vs.toArray∧D.ah c cs vs
 |.tp cs,u=>∃vs:List Value,u=.tuple vs.toArray∧D.ah c cs vs
 |.cl f cs,u=>∃vs:List Value,u=.func (.func f) #[] vs.toArray∧D.ah c cs vs
 |.ptr b v o,u=>∃g,c.ι b v=some (some ⟨g,0,none⟩,0,0)∧u=.pointer (some ⟨g,o,none⟩)
 |.rp b v sz i o,u=>∃A m k,c.ι b v=some (some A,m,k)∧u=.pointer (some (A.add (i*sz+o)))
 |.own b v,u=>∃A m k,c.ι b v=some (A,m,k)∧u=.slice A m k
 |.mv b v,u=>∃g,c.ι b v=some (some ⟨g,0,none⟩,0,0)∧u=.map (some g)
 |.yl b v,u=>∃g,c.ι b v=some (some ⟨g,0,none⟩,0,0)∧u=.func (.yield g) #[] #[]
 |.sub b v sz lo hi ex,u=>∃A m k,c.ι b v=some (A,m,k)∧lo≤hi∧hi≤m∧m≤k∧∃A',u=.slice A' (hi-lo) (bif ex then hi-lo else k-lo)∧(lo=0∨lo<(bif ex then hi else k)→A'=A.map (·.add (lo*sz)))
 |.fx rows,u=>∃A vr sz,u=.slice A rows.length rows.length∧Arr sz c.Z c.R A rows.length vr∧(∀r∈vr,cb r=true)∧F.aI c.Z c.R rows vr
 |.mcl f fs cs,u=>∃us vs:List Value,u=.func (.func f) us.toArray vs.toArray∧D.ah c fs us∧D.ah c cs vs
def D.ah(c:Cf):List D→List Value→Prop
 |[],vs=>vs=[]
 |x::l,vs=>∃u us,vs=u::us∧D.rep c x u∧D.ah c l us
end
mutual
theorem D.rep.le{c c':Cf}(h:c.le c'):∀(x:D) (u:Value),D.rep c x u→D.rep c' x u
 |.fr x,u,hx=>by unfold D.rep at hx ⊢;exact F.rep.ext h.ext x u hx
 |.ag cs,u,hx=>by unfold D.rep at hx ⊢;obtain⟨vs,h1,h2⟩:=hx;exact⟨vs,h1,D.ah.le h cs vs h2⟩
 |.tp cs,u,hx=>by unfold D.rep at hx ⊢;obtain⟨vs,h1,h2⟩:=hx;exact⟨vs,h1,D.ah.le h cs vs h2⟩
 |.cl f cs,u,hx=>by unfold D.rep at hx ⊢;obtain⟨vs,h1,h2⟩:=hx;exact⟨vs,h1,D.ah.le h cs vs h2⟩
 |.ptr b v o,u,hx=>by unfold D.rep at hx ⊢;obtain⟨g,h1,h2⟩:=hx;exact⟨g,h.ι _ _ _ h1,h2⟩
 |.rp b v sz i o,u,hx=>by unfold D.rep at hx ⊢;obtain⟨A,m,k,h1,h2⟩:=hx;exact⟨A,m,k,h.ι _ _ _ h1,h2⟩
 |.own b v,u,hx=>by unfold D.rep at hx ⊢;obtain⟨A,m,k,h1,h2⟩:=hx;exact⟨A,m,k,h.ι _ _ _ h1,h2⟩
 |.mv b v,u,hx=>by unfold D.rep at hx ⊢;obtain⟨g,h1,h2⟩:=hx;exact⟨g,h.ι _ _ _ h1,h2⟩
 |.yl b v,u,hx=>by unfold D.rep at hx ⊢;obtain⟨g,h1,h2⟩:=hx;exact⟨g,h.ι _ _ _ h1,h2⟩
 |.sub b v sz lo hi ex,u,hx=>by unfold D.rep at hx ⊢;obtain⟨A,m,k,h1,h2⟩:=hx;exact⟨A,m,k,h.ι _ _ _ h1,h2⟩
 |.fx rows,u,hx=>by unfold D.rep at hx ⊢;obtain⟨A,vr,sz,h1,h2,h3,h4⟩:=hx;exact⟨A,vr,sz,h1,h.ext.arr h2,h3,F.aI.ext h.ext _ _ h4⟩
 |.mcl f fs cs,u,hx=>by unfold D.rep at hx ⊢;obtain⟨us,vs,h1,h2,h3⟩:=hx;exact⟨us,vs,h1,D.ah.le h fs us h2,D.ah.le h cs vs h3⟩
theorem D.ah.le{c c':Cf}(h:c.le c'):∀(x:List D) (u:List Value),D.ah c x u→D.ah c' x u
 |[],u,hx=>by unfold D.ah at hx ⊢;exact hx
 |x::l,u,hx=>by
  unfold D.ah at hx ⊢;obtain⟨a,b,h1,h2,h3⟩:=hx;exact⟨a,b,h1,D.rep.le h x a h2,D.ah.le h l b h3⟩
end
section
variable {c:Cf}
theorem D.aW:∀{x:List D}{u:List Value},D.ah c x u→u.length=x.length
 |[],u,h=>by unfold D.ah at h;simp[h]
 |x::l,u,h=>by
  unfold D.ah at h;obtain⟨a,b,rfl,_,h3⟩:=h;simp[D.aW h3]
theorem D.b5:∀{x:List D}{u:List Value},D.ah c x u→∀{i:Nat}{y:D},x[i]?=some y→∃v,u[i]?=some v∧D.rep c y v
 |[],u,h,i,y,hi=>by simp at hi
 |x::l,u,h,i,y,hi=>by
  unfold D.ah at h;obtain⟨a,b,rfl,h2,h3⟩:=h
  cases i with
  |zero=>simp at hi;subst hi;exact⟨a,rfl,h2⟩
  |succ i=>simp at hi;simpa using D.b5 h3 hi
theorem D.bw:∀{x y:List D}{u v:List Value},D.ah c x u→D.ah c y v→D.ah c (x++y) (u++v)
 |[],y,u,v,h,h'=>by unfold D.ah at h;subst h;exact h'
 |x::l,y,u,v,h,h'=>by
  unfold D.ah at h;obtain⟨a,b,rfl,h2,h3⟩:=h;rw[List.cons_append,List.cons_append];unfold D.ah;exact⟨a,_,rfl,h2,D.bw h3 h'⟩
theorem D.cY:∀{x:List D}{u:List Value} (k:Nat),D.ah c x u→D.ah c (x.take k) (u.take k)
 |_,_,0,_=>by simp[D.ah]
 |[],u,k+1,h=>by unfold D.ah at h;subst h;simp[D.ah]
 |x::l,u,k+1,h=>by
  unfold D.ah at h;obtain⟨a,b,rfl,h2,h3⟩:=h;rw[List.take_succ_cons,List.take_succ_cons];unfold D.ah;exact⟨a,_,rfl,h2,D.cY k h3⟩
theorem D.da:∀{x:List D}{u:List Value} (k:Nat),D.ah c x u→D.ah c (x.drop k) (u.drop k)
 |_,_,0,h=>by simpa using h
 |[],u,k+1,h=>by unfold D.ah at h;subst h;simp[D.ah]
 |x::l,u,k+1,h=>by
  unfold D.ah at h;obtain⟨a,b,rfl,h2,h3⟩:=h;simpa using D.da k h3
theorem D.fg:∀{x:List F}{u:List Value},F.ah c.Z c.R x u→D.ah c (x.map .fr) u
 |[],u,h=>by unfold F.ah at h;simp[D.ah,h]
 |x::l,u,h=>by
  unfold F.ah at h;obtain⟨a,b,rfl,h2,h3⟩:=h;rw[List.map_cons];unfold D.ah;exact⟨a,b,rfl,by unfold D.rep;exact h2,D.fg h3⟩
end
def lk{α:Type}:List (Nat×α)→Nat→Option α
 |[],_=>none
 |(k,v)::s,i=>bif Nat.beq k i then some v else lk s i
def up{α:Type}(η:Nat→Option α)(b:Nat)(x:α):Nat→Option α:=fun i=>bif Nat.beq b i then some x else η i
theorem bU{α:Type}(h:List (Nat×α))(b:Nat)(x:α):lk ((b,x)::h)=up (lk h) b x:=rfl
theorem bf{α:Type}{η:Nat→Option α}{b:Nat}{x:α}:up η b x b=some x:=by simp[up]
theorem aG{α:Type}{η:Nat→Option α}{b i:Nat}{x:α}(h:b≠i):up η b x i=η i:=by
 unfold up;rw[show Nat.beq b i=false from by rw[←Bool.not_eq_true];exact fun e=>h (Nat.eq_of_beq_eq_true e)];rfl
def I3:Nat→LoopState
 |0=>.ready
 |1=>.busy
 |2=>.done
 |_=>.exhausted
structure bC(c:Cf)(N:Nat)(s:List (Nat×D))(tmps:Array Value):Prop where
 size:tmps.size=N
 get:∀k d,lk s k=some d→D.rep c d (tmps.getD k undef)
theorem bC.le{c c':Cf}{N:Nat}{s:List (Nat×D)}{tmps:Array Value}(h:bC c N s tmps)(hle:c.le c'):bC c' N s tmps:=
 ⟨h.size,fun k d hk=>D.rep.le hle _ _ (h.get k d hk)⟩
def enc:List Nat→Nat
 |[]=>0
 |g::l=>2^g*(2*enc l+1)
theorem Ci:∀{a b x y:Nat},2^a*(2*x+1)=2^b*(2*y+1)→a=b∧x=y
 |0,0,x,y,h=>⟨rfl,by omega⟩
 |0,b+1,x,y,h=>by rw[Nat.pow_succ,Nat.pow_zero,Nat.mul_comm (2^b) 2,Nat.mul_assoc]at h;omega
 |a+1,0,x,y,h=>by rw[Nat.pow_succ,Nat.pow_zero,Nat.mul_comm (2^a) 2,Nat.mul_assoc]at h;omega
 |a+1,b+1,x,y,h=>by
  rw[Nat.pow_succ,Nat.pow_succ,Nat.mul_comm (2^a) 2,Nat.mul_comm (2^b) 2,Nat.mul_assoc,Nat.mul_assoc]at h;obtain⟨h1,h2⟩:=Ci (a:=a) (b:=b) (x:=x) (y:=y) (by omega);exact⟨by omega,h2⟩
theorem CV:∀{l m:List Nat},enc l=enc m→l=m
 |[],[],_=>rfl
 |[],g::m,h=>by
  have:=Nat.two_pow_pos g;have h2:0<2^g*(2*enc m+1):=Nat.mul_pos this (by omega);simp only[enc]at h;omega
 |g::l,[],h=>by
  have:=Nat.two_pow_pos g;have h2:0<2^g*(2*enc l+1):=Nat.mul_pos this (by omega);simp only[enc]at h;omega
 |g::l,g'::m,h=>by
  obtain⟨h1,h2⟩:=Ci h;rw[h1,CV h2]
def AtM(c:Cf)(b v:Nat)(gs:List Nat):Prop:=(∃g,gs=[g]∧c.ι b v=some (some ⟨g,0,none⟩,0,0))∨c.ι b v=some (none,enc gs,1)
theorem AtM.le{c c':Cf}{b v:Nat}{gs:List Nat}(h:c.le c'):AtM c b v gs→AtM c' b v gs
 |.inl ⟨g,h1,h2⟩=>.inl ⟨g,h1,h.ι _ _ _ h2⟩
 |.inr h1=>.inr (h.ι _ _ _ h1)
theorem AtM.eq{c:Cf}{b v:Nat}{gs gs':List Nat}(h:AtM c b v gs)(h':AtM c b v gs'):gs=gs':=by
 rcases h with⟨g,h1,h2⟩|h1<;>rcases h' with⟨g',h3,h4⟩|h3
 ·rw[h2]at h4
  cases h4;rw[h1,h3]
 ·rw[h2]at h3
  cases h3
 ·rw[h4]at h1
  cases h1
 ·rw[h1]at h3;simp only[Option.some.injEq,Prod.mk.injEq,true_and,and_true]at h3;exact CV h3
theorem AtM.of{c c':Cf}{b b' v v':Nat}{gs:List Nat}(h:c'.ι b' v'=c.ι b v):AtM c b v gs→AtM c' b' v' gs
 |.inl ⟨g,h1,h2⟩=>.inl ⟨g,h1,h.trans h2⟩
 |.inr h1=>.inr (h.trans h1)
def B.on(c:Cf)(b:Nat)(S:Nat→Prop)(w:World):B→Prop
 |.va v t cs=>∃g vs,c.ι b v=some (some ⟨g,0,none⟩,0,0)∧D.ah c cs vs∧cb vs=true∧(blk g vs t).on S w
 |.ro v e sz rows=>∃A k vr,c.ι b v=some (A,rows.length,k)∧F.aI c.Z c.R rows vr∧(∀r∈vr,cb r=true)∧(own e sz A rows.length k vr).on S w
 |.gone _=>True
 |.mp v rows=>∃g es clock,c.ι b v=some (some ⟨g,0,none⟩,0,0)∧S g∧w.heap[g]?=some (.map es clock)∧F.aI c.Z c.R rows (es.toList.map fun e=>[e.key,e.val])
 |.lp v l=>∃g L gd,c.ι b v=some (some ⟨g,0,none⟩,0,0)∧S g∧w.heap[g]?=some (.loop L)∧L.state=I3 l.st∧L.pending=l.gF∧L.fn=l.f∧L.params=l.ps.toArray∧L.assign=l.asg∧L.body=l.body∧bC c l.N l.s L.tmps∧
   c.ι l.db l.dv=some (some ⟨gd,0,none⟩,0,0)∧L.defers=gd
 |.df v=>∃gs,AtM c b v gs∧gs.Nodup∧∀g∈gs,S g∧w.heap[g]?=some (.deferred (some []))
 |.gh _ vs ds=>D.ah c ds vs
 |.ab v a=>∃g,c.ι b v=some (some ⟨g,0,none⟩,0,0)∧a.on g c.Z c.R S w
theorem B.on.le{c c':Cf}{b:Nat}{S:Nat→Prop}{w w':World}(h:c.le c')(hw:∀g,S g→w'.heap[g]?=w.heap[g]?):∀{x:B},x.on c b S w→x.on c' b S w'
 |.va v t cs,⟨g,vs,h1,h2,h3,h4⟩=>⟨g,vs,h.ι _ _ _ h1,D.ah.le h _ _ h2,h3,HP.loc _ hw h4⟩
 |.ro v e sz rows,⟨A,k,vr,h1,h2,h3,h4⟩=>⟨A,k,vr,h.ι _ _ _ h1,F.aI.ext h.ext _ _ h2,h3,HP.loc _ hw h4⟩
 |.gone _,_=>trivial
 |.mp v rows,⟨g,es,k,h1,h2,h3,h4⟩=>⟨g,es,k,h.ι _ _ _ h1,h2,(hw g h2).trans h3,F.aI.ext h.ext _ _ h4⟩
 |.lp v l,⟨g,L,gd,h1,h2,h3,h4,h5,h6,h7,h8,h9,h10,h11,h12⟩=>⟨g,L,gd,h.ι _ _ _ h1,h2,(hw g h2).trans h3,h4,h5,h6,h7,h8,h9,h10.le h,h.ι _ _ _ h11,h12⟩
 |.df v,⟨gs,h1,h2,h3⟩=>⟨gs,h1.le h,h2,fun g hg=>⟨(h3 g hg).1,(hw g (h3 g hg).1).trans (h3 g hg).2⟩⟩
 |.gh v vs ds,h1=>D.ah.le h _ _ h1
 |.ab v a,⟨g,h1,h2⟩=>⟨g,h.ι _ _ _ h1,a.le h.ext hw h2⟩
structure Hp(c:Cf)(O:Nat→Nat→Prop)(η:Nat→Option B)(w:World):Prop where
 pc:∀b x,η b=some x→x.on c b (O b) w
 bound:∀b v y,c.ι b v=some y→∃x,η b=some x∧v≤x.ver
 apart:∀b b' g,O b g→O b' g→b=b'
 fz:∀g,c.Z g→g<w.heap.size∧w.heap[g]?=c.R.heap[g]?∧∀b,¬O b g
 lt:∀b g,O b g→g<w.heap.size
def upO(O:Nat→Nat→Prop)(b:Nat)(S:Nat→Prop):Nat→Nat→Prop:=fun i g=>(i=b→S g)∧(i≠b→O i g)
theorem Hu{O:Nat→Nat→Prop}{b:Nat}{S:Nat→Prop}{g:Nat}:upO O b S b g↔S g:=by simp[upO]
theorem D2{O:Nat→Nat→Prop}{b i:Nat}{S:Nat→Prop}{g:Nat}(h:i≠b):upO O b S i g↔O i g:=by simp[upO,h]
theorem Hp.upd {c c':Cf}{O:Nat→Nat→Prop}{η:Nat→Option B}{w w':World}{b:Nat}{S':Nat→Prop}{x':B} (h:Hp c O η w) (hc:Chg w w' (O b))
  (hs:∀g,S' g→O b g∨(w.heap.size≤g∧g<w'.heap.size)) (hle:c.le c') (hZ:c'.Z=c.Z) (hR:c'.R=c.R)
  (hb:∀i v y,c'.ι i v=some y→∃x,up η b x' i=some x∧v≤x.ver) (hx:x'.on c' b S' w'):Hp c' (upO O b S') (up η b x') w':=by
 refine⟨fun i x hi=>?_,hb,fun i j g h1 h2=>?_,fun g hg=>?_,fun i g hg=>?_⟩
 ·by_cases e:b=i
  ·subst e;rw[bf]at hi
   cases hi;have:upO O b S' b=S':=funext fun g=>propext Hu
   rw[this];exact hx
  ·rw[aG e]at hi;have e':upO O b S' i=O i:=funext fun g=>propext (D2 (Ne.symm e))
   rw[e'];refine(h.pc i x hi).le hle (fun g hg=>hc.block g (h.lt i g hg) (fun hbg=>e (h.apart b i g hbg hg)))
 ·have key:∀i g,upO O b S' i g→(i=b∧S' g)∨(i≠b∧O i g):=by
   intro i g hi
   by_cases e:i=b
   ·exact .inl ⟨e,hi.1 e⟩
   ·exact .inr ⟨e,hi.2 e⟩
  rcases key i g h1 with⟨e1,g1⟩|⟨e1,g1⟩<;>rcases key j g h2 with⟨e2,g2⟩|⟨e2,g2⟩
  ·rw[e1,e2]
  ·exfalso
   rcases hs g g1 with g3|g3
   ·exact e2 (h.apart j b g g2 g3)
   ·have:=h.lt j g g2;omega
  ·exfalso
   rcases hs g g2 with g3|g3
   ·exact e1 (h.apart i b g g1 g3)
   ·have:=h.lt i g g1;omega
  ·exact h.apart i j g g1 g2
 ·rw[hZ]at hg;obtain⟨h1,h2,h3⟩:=h.fz g hg;refine⟨Nat.lt_of_lt_of_le h1 hc.size,?_,fun i hi=>?_⟩
  ·rw[hc.block g h1 (h3 b),h2,hR]
  ·by_cases e:i=b
   ·rcases hs g (hi.1 e)with g3|g3
    ·exact h3 b g3
    ·omega
   ·exact h3 i (hi.2 e)
 ·by_cases e:i=b
  ·rcases hs g (hg.1 e)with g3|g3
   ·exact Nat.lt_of_lt_of_le (h.lt b g g3) hc.size
   ·exact g3.2
  ·exact Nat.lt_of_lt_of_le (h.lt i g (hg.2 e)) hc.size
def nv(η:Nat→Option B)(b:Nat):Nat:=match η b with|none=>0|some x=>x.ver+1
def Cf.add(c:Cf)(b v:Nat)(y:Option Addr×Nat×Nat):Cf:={ c with ι:=fun i u=>if i=b∧u=v then some y else c.ι i u }
theorem Hp.fresh{c:Cf}{O:Nat→Nat→Prop}{η:Nat→Option B}{w:World}(h:Hp c O η w)(b:Nat):c.ι b (nv η b)=none:=by
 cases hb:c.ι b (nv η b)with
 |none=>rfl
 |some y=>
  obtain⟨x,hx,hv⟩:=h.bound _ _ _ hb;unfold nv at hv;rw[hx]at hv;simp only at hv;omega
theorem Cf.eB{c:Cf}{b v:Nat}{y:Option Addr×Nat×Nat}(h:c.ι b v=none):c.le (c.add b v y):=by
 refine⟨fun i u x hx=>?_,Ext.refl _ _⟩;unfold Cf.add
 by_cases e:i=b∧u=v
 ·rw[e.1,e.2,h]at hx;cases hx
 ·simp[e,hx]
theorem Cf.cP{c:Cf}{b v:Nat}{y:Option Addr×Nat×Nat}:(c.add b v y).ι b v=some y:=by simp[Cf.add]
theorem Hp.cq{c:Cf}{O:Nat→Nat→Prop}{η:Nat→Option B}{w:World}(h:Hp c O η w){b:Nat}{y:Option Addr×Nat×Nat}{x':B}(hv:x'.ver=nv η b) :
  ∀i v z,(c.add b (nv η b) y).ι i v=some z→∃x,up η b x' i=some x∧v≤x.ver:=by
 intro i v z hz
 by_cases e:b=i
 ·subst e;refine⟨x',bf,?_⟩;rw[hv]
  by_cases e2:v=nv η b
  ·omega
  ·have:c.ι b v=some z:=by simpa [Cf.add,e2]using hz
   obtain⟨x,hx,hle⟩:=h.bound _ _ _ this;unfold nv;rw[hx];simp only;omega
 ·rw[aG e];have:c.ι i v=some z:=by simpa [Cf.add,Ne.symm e]using hz
  exact h.bound _ _ _ this
theorem Hp.cu{c:Cf}{O:Nat→Nat→Prop}{η:Nat→Option B}{w:World}(h:Hp c O η w){b:Nat}{x x':B}(hx:η b=some x)(hv:x'.ver=x.ver) :
  ∀i v z,c.ι i v=some z→∃x,up η b x' i=some x∧v≤x.ver:=by
 intro i v z hz;obtain⟨y,hy,hle⟩:=h.bound _ _ _ hz
 by_cases e:b=i
 ·subst e;rw[hx]at hy
  cases hy;exact⟨x',bf,by omega⟩
 ·rw[aG e];exact⟨y,hy,hle⟩
structure Bs where
 w:World
 O:Nat→Prop
 c:Cf
structure Old(W:Bs)(c:Cf)(O:Nat→Nat→Prop)(w:World):Prop where
 os:w.os=W.w.os
 tape:w.tape=W.w.tape
 output:w.output=W.w.output
 size:W.w.heap.size≤w.heap.size
 cv:∀g,g<W.w.heap.size→¬W.O g→w.heap[g]?=W.w.heap[g]?
 own:∀b g,O b g→W.O g∨W.w.heap.size≤g
 mF:∀g,c.Z g→W.c.Z g∨W.O g∨W.w.heap.size≤g
 le:Ext W.c.Z W.c.R c.Z c.R
theorem Old.upd {W:Bs}{c c':Cf}{O:Nat→Nat→Prop}{w w':World}{b:Nat}{S':Nat→Prop} (h:Old W c O w) (hc:Chg w w' (O b))
  (hs:∀g,S' g→O b g∨(w.heap.size≤g∧g<w'.heap.size)) (hZ:c'.Z=c.Z) (hR:c'.R=c.R):Old W c' (upO O b S') w':=by
 refine⟨hc.os.trans h.os,hc.tape.trans h.tape,hc.output.trans h.output,Nat.le_trans h.size hc.size,fun g hg hn=>?_,fun i g hi=>?_,fun g hg=>?_,?_⟩
 ·rw[hc.block g (Nat.lt_of_lt_of_le hg h.size) (fun hb=>?_)]
  ·exact h.cv g hg hn
  ·rcases h.own b g hb with h1|h1
   ·exact hn h1
   ·omega
 ·by_cases e:i=b
  ·rcases hs g (hi.1 e)with h1|h1
   ·exact h.own b g h1
   ·exact .inr (Nat.le_trans h.size h1.1)
  ·exact h.own i g (hi.2 e)
 ·rw[hZ]at hg;exact h.mF g hg
 ·rw[hZ,hR];exact h.le
structure A where
 s:List (Nat×D)
 h:List (Nat×B)
structure kS(c:Cf)(n:FD)(s:List (Nat×D))(a:Act):Prop where
 size:a.tmps.size=n.sz
 defers:a.defers=n.ds
 get:∀k d,lk s k=some d→D.rep c d (a.tmps.getD k undef)
structure Is(W:Bs)(n:FD)(st:A)(a:Act)(w:World)(c:Cf)(O:Nat→Nat→Prop):Prop where
 yL:kS c n st.s a
 hp:Hp c O (lk st.h) w
 old:Old W c O w
theorem kS.put{c:Cf}{n:FD}{s:List (Nat×D)}{a:Act}(h:kS c n s a){t:Nat}(ht:Nat.blt t n.sz=true){d:D}{v:Value}(hd:D.rep c d v):kS c n ((t,d)::s) (a.put (some t) v):=by
 have ht':t<a.tmps.size:=by rw[h.size];exact b6 ht
 refine⟨by simp[Act.put,h.size],by simpa [Act.put]using h.defers,fun k x hk=>?_⟩;simp only[lk]at hk
 by_cases e:t=k
 ·subst e;simp at hk;subst hk;simpa [Act.put,ht']using hd
 ·rw[show Nat.beq t k=false from by rw[←Bool.not_eq_true];exact fun e'=>e (Nat.eq_of_beq_eq_true e')]at hk;have:=h.get k x hk;simpa [Act.put,e]using this
end Go.Vc
end
