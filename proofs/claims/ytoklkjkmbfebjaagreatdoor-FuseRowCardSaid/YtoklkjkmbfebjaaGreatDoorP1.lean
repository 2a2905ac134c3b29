/- The texts that the card needs, part 2. -/
import Derived.Test.YtoklkjkmbfebjaaGreatDoorP0
set_option linter.all false
section
namespace Go.Sl
open Go.RowKit
def MP(k:Nat):List Nat→Bool
 | []=>false
 | x :: l=>bif Nat.beq x k then true else MP k l
def Lv:List Oper→List Nat
 | []=>[]
 | o :: l=>match o.dst with
  | some d=>d :: Lv l
  | none=>Lv l
def asg:Code→List Nat→List Nat
 | .region _ ops _,r=>Lv ops.toList++r
 | .seq a b,r=>asg a (asg b r)
 | .cond _ a b,r=>asg a (asg b r)
 | .block _ c,r=>asg c r
 | .loop c,r=>asg c r
 | .scope c,r=>asg c r
 | .rangeFunc _ p a b,r=>p.toList++asg a (asg b r)
 | _,r=>r
inductive Kp:List Nat→Sg→Sg→Prop where
 | nil {l:List Nat}:Kp l [] []
 | skip {l:List Nat} {p:Nat×Value} {s s1:Sg}:MP p.1 l=true→Kp l s s1→Kp l (p :: s) s1
 | b4 {l:List Nat} {p:Nat×Value} {s s1:Sg}:Kp (p.1 :: l) s s1→Kp l (p :: s) (p :: s1)
theorem KpA{l:List Nat}{s s1:Sg}(h:Kp l s s1:=by repeat' (first|exact Kp.nil|(apply Kp.skip;exact rfl)|apply Kp.b4)):Kp l s s1:=h
theorem FZ{s s':Sg}(h:Sub s s':=by repeat' (first|exact trivial|refine⟨rfl,?_⟩)):Sub s s':=h
class LW(H:HP)(sz:outParam Nat)(A:Option Addr)(n:outParam Nat)(rows:outParam (List (List Value))):Prop where
 get:∀(S:Nat→Prop) w,H.on S w→Arr sz S w A n rows
theorem St.aJ{w0 w:World}{L:List HP}{H:HP}{sz n:Nat}{A:Option Addr}{rows:List (List Value)}[h:LW H sz A n rows](hw:St w0 L w)(ha:At L H):Arr sz (fun b=>b<w.heap.size) w A n rows:=h.get _ w (hw.sT ha)
class FV(P:Program)(t i:Nat)(off:outParam Nat):Prop where
 run:∀(cs:Array Value) v w,cs[off]?=some v→(Instr.field t (.agg cs) i).run P w=.ok v w
theorem FV.of {P:Program} {t i off:Nat} {fs:Array Field} {f:Field} {d:TypeDesc} (hu:P.underlying t=some (.struct fs)) (hf':fs[i]?=some f) (ho:f.offset=off) (hd:P.underlying f.type=some d)
  (hd':(match d with | .struct _ | .array _ _=>true|_=>false)=false):FV P t i off:=by
 refine⟨fun cs v w hv=>?_⟩;subst ho
 cases d<;>simp at hd'<;>simp[Instr.field,run_underlying hu,hf',part,isAgg,run_underlying hd,asAgg,hv]
theorem Ev.field{P:Program}{n:FD}{s:Sg}{M:World→Prop}{ty:TypeId}{x:Operand}{t i off:Nat}{cs:Array Value}{v:Value}[h:FV P t i off](hx:ev s x=some (.agg cs))(hv:cs[off]?=some v):Ev P n s M (.field t x i) ty v:=by
 refine⟨fun a w o ho ht hf hm=>?_⟩;simp[execOp,ho,hf.ev hx,h.run cs v w hv]
structure N0(p:Prop):Prop where
 go:p
section
variable {P:Program} {Q:Exit→Act→World→Prop} {n:FD} {s:Sg} {M:World→Prop} {c:Code}
theorem TC.MC {ι:Type _} (x0:ι) (md:ι→Sg→Sg) (M':ι→World→Prop) (p:ι→Prop) (μ:ι→Nat) {s1:Sg} (hk:Kp (asg c []) s s1)
  (hs:Sub (md x0 s1) s) (hM:∀w,M w→M' x0 w) (hp:p x0)
  (round:∀x,p x→TC P c (Exit.then (fun a w=>∃y,p y∧μ y<μ x∧Fr n (md y s1) a∧M' y w) Q) n (md x s1) (M' x)):TC P (.loop c) Q n s M:=
 TC.loop (fun x=>md x s1) M' p μ (TX.enter x0 hp hs hM) round
theorem TC.hold(id:Nat){ops:Array Oper}{draw:Bool}{c c2:Code}(h:N0 (TC P (.seq (.seq (.region id ops draw) c) c2) Q n s M)):TC P (.seq (.seq (.region id ops draw) c) c2) Q n s M:=h.go
theorem TX.join{ι:Sort _}{s':ι→Sg}{M':ι→World→Prop}(x:ι)(hs:Sub (s' x) s)(hM:∀w,M w→M' x w) :
  TX (Exit.then (fun a w=>∃x,Fr n (s' x) a∧M' x w) Q) .normal n s M:=⟨fun a w hf hm=>⟨x,hf.sub hs,hM w hm⟩⟩
end
end Go.Sl
end
section
namespace Go.Proofs.YtoklkjkmbfebjaaGreatDoor
open Go Go.Sl
set_option maxRecDepth 100000
instance:UD Tryz.prog 3 (.int .i64):=⟨Tryz.underlying3⟩
instance:L1 Tryz.prog 5:=L1.of Tryz.underlying5 rfl
instance:UD Tryz.prog 5 (.int .u8):=⟨Tryz.underlying5⟩
instance:SlT Tryz.prog 25 3 1 8 (.int .i64 0):=SlT.of Tryz.underlying25 (by kernel_rfl) rfl rfl
instance:SZ Tryz.prog 50 1:=SZ.of (by kernel_rfl)
instance:SZ Tryz.prog 52 4:=SZ.of (by kernel_rfl)
instance:ZV Tryz.prog 52 (.agg #[(.int .u64 0),(.int .u64 0),(.int .u64 0),(.int .u64 0)]):=ZV.of (by kernel_rfl)
instance:LN Tryz.prog 52 4:=LN.of Tryz.underlying52 rfl (by kernel_rfl)
instance:AT Tryz.prog 52 4 50 1:=⟨Tryz.underlying52,(SZ.of (k:=1) (by kernel_rfl)).info⟩
instance:SZ Tryz.prog 184 1:=SZ.of (by kernel_rfl)
instance:L1 Tryz.prog 184:=L1.of Tryz.underlying184 rfl
instance:L1 Tryz.prog 185:=L1.of Tryz.underlying185 rfl
instance:UD Tryz.prog 185 (.slice 5):=⟨Tryz.underlying185⟩
instance:FA Tryz.prog 187 0 0:=FA.of Tryz.underlying187 rfl rfl (by kernel_rfl)
instance:FA Tryz.prog 187 1 1:=FA.of Tryz.underlying187 rfl rfl (by kernel_rfl)
instance:AT Tryz.prog 232 64 5 1:=⟨Tryz.underlying232,(SZ.of (k:=1) (by kernel_rfl)).info⟩
instance:CF Tryz.prog 105:=CF.of Tryz.func105 (by kernel_rfl) rfl
instance:CF Tryz.prog 129:=CF.of Tryz.func129 (by kernel_rfl) rfl
instance:CF Tryz.prog 132:=CF.of Tryz.func132 (by kernel_rfl) rfl
instance:CF Tryz.prog 138:=CF.of Tryz.func138 (by kernel_rfl) rfl
instance:CF Tryz.prog 150:=CF.of Tryz.func150 (by kernel_rfl) rfl
instance:CF Tryz.prog 155:=CF.of Tryz.func155 (by kernel_rfl) rfl
instance:CF Tryz.prog 158:=CF.of Tryz.func158 (by kernel_rfl) rfl
instance:CF Tryz.prog 160:=CF.of Tryz.func160 (by kernel_rfl) rfl
theorem mixed:Tryz.prog.follows .mixedOrders=true:=by kernel_rfl
end Go.Proofs.YtoklkjkmbfebjaaGreatDoor
end
section
namespace Go.Vc
open Go Go.RowKit Go.Sl
inductive F where
 | vl (x:Value)
 | sl (rows:List (List F))
 | ag (cs:List F)
 | tp (cs:List F)
 | pt (sz:Nat) (rows:List (List F)) (i o:Nat)
 | cl (f:Nat) (cs:List F)
 | mp (rows:List (List F))
inductive D where
 | fr (x:F)
 | ag (cs:List D)
 | tp (cs:List D)
 | cl (f:Nat) (cs:List D)
 | ptr (b v o:Nat)
 | rp (b v sz i o:Nat)
 | own (b v:Nat)
 | mv (b v:Nat)
 | yl (b v:Nat)
 | sub (b v sz lo hi:Nat) (ex:Bool)
 | fx (rows:List (List F))
 | mcl (f:Nat) (fs cs:List D)
structure Lp where
 st:Nat
 gI:Option Code
 f:Nat
 N:Nat
 s:List (Nat×D)
 ps:List Nat
 asg:Code
 body:Code
 db:Nat
 dv:Nat
structure Ext(Z:Nat→Prop)(w:World)(Z':Nat→Prop)(w':World):Prop where
 sub:∀g,Z g→Z' g
 eq:∀g,Z g→w'.heap[g]?=w.heap[g]?
theorem Ext.refl(Z:Nat→Prop)(w:World):Ext Z w Z w:=⟨fun _ h=>h,fun _ _=>rfl⟩
theorem Ext.trans{Z Z' Z'':Nat→Prop}{w w' w'':World}(h:Ext Z w Z' w')(h':Ext Z' w' Z'' w''):Ext Z w Z'' w'':=
 ⟨fun g hg=>h'.sub g (h.sub g hg),fun g hg=>(h'.eq g (h.sub g hg)).trans (h.eq g hg)⟩
structure Ab where
 on:Nat→(Nat→Prop)→World→(Nat→Prop)→World→Prop
 le:∀{g:Nat} {Z Z':Nat→Prop} {R R':World} {S:Nat→Prop} {w w':World},Ext Z R Z' R'→(∀i,S i→w'.heap[i]?=w.heap[i]?)→on g Z R S w→on g Z' R' S w'
inductive B where
 | va (v t:Nat) (cs:List D)
 | ro (v e sz:Nat) (rows:List (List F))
 | gone (v:Nat)
 | mp (v:Nat) (rows:List (List F))
 | lp (v:Nat) (l:Lp)
 | df (v:Nat)
 | gh (v:Nat) (vs:List Value) (ds:List D)
 | ab (v:Nat) (a:Ab)
def B.ver:B→Nat
 | .va v _ _=>v
 | .ro v _ _ _=>v
 | .gone v=>v
 | .mp v _=>v
 | .lp v _=>v
 | .df v=>v
 | .gh v _ _=>v
 | .ab v _=>v
instance:Inhabited F:=⟨.vl undef⟩
mutual
def F.rep(Z:Nat→Prop)(w:World):F→Value→Prop
 | .vl x,u=>u=x
 | .sl rows,u=>∃A c vr sz,u=.slice A rows.length c∧rows.length≤c∧Arr sz Z w A rows.length vr∧(∀r∈vr,bZ r=true)∧F.aG Z w rows vr
 | .ag cs,u=>∃vs:List Value,u=.agg vs.toArray∧F.ah Z w cs vs
 | .tp cs,u=>∃vs:List Value,u=.tuple vs.toArray∧F.ah Z w cs vs
 | .pt sz rows i o,u=>∃A vr,u=.pointer (some (Addr.add A (i * sz+o)))∧Arr sz Z w (some A) rows.length vr∧(∀r∈vr,bZ r=true)∧F.aG Z w rows vr
 | .cl f cs,u=>∃vs:List Value,u=.func (.func f) #[] vs.toArray∧F.ah Z w cs vs
 | .mp rows,u=>∃(g:Nat) (es:Array MapEntry) (clock:Nat),u=.map (some g)∧Z g∧w.heap[g]?=some (.map es clock)∧F.aG Z w rows (es.toList.map fun e=>[e.key,e.val])
def F.ah(Z:Nat→Prop)(w:World):List F→List Value→Prop
 | [],vs=>vs=[]
 | x :: l,vs=>∃u us,vs=u :: us∧F.rep Z w x u∧F.ah Z w l us
def F.aG(Z:Nat→Prop)(w:World):List (List F)→List (List Value)→Prop
 | [],vs=>vs=[]
 | x :: l,vs=>∃u us,vs=u :: us∧F.ah Z w x u∧F.aG Z w l us
end
theorem Ext.arr{Z Z':Nat→Prop}{w w':World}(h:Ext Z w Z' w'){sz n:Nat}{A:Option Addr}{rows:List (List Value)}(ha:Arr sz Z w A n rows):Arr sz Z' w' A n rows:=
 (ha.loc h.eq).mono h.sub
section
variable {Z Z':Nat→Prop} {w w':World}
mutual
theorem F.rep.ext(h:Ext Z w Z' w'):∀(x:F) (u:Value),F.rep Z w x u→F.rep Z' w' x u
 | .vl x,u,hx=>by unfold F.rep at hx ⊢;exact hx
 | .sl rows,u,hx=>by
  unfold F.rep at hx ⊢;obtain⟨A,c,vr,sz,h1,h0,h2,h3,h4⟩:=hx;exact⟨A,c,vr,sz,h1,h0,h.arr h2,h3,F.aG.ext h rows vr h4⟩
 | .ag cs,u,hx=>by
  unfold F.rep at hx ⊢;obtain⟨vs,h1,h2⟩:=hx;exact⟨vs,h1,F.ah.ext h cs vs h2⟩
 | .tp cs,u,hx=>by
  unfold F.rep at hx ⊢;obtain⟨vs,h1,h2⟩:=hx;exact⟨vs,h1,F.ah.ext h cs vs h2⟩
 | .pt sz rows i o,u,hx=>by
  unfold F.rep at hx ⊢;obtain⟨A,vr,h1,h2,h3,h4⟩:=hx;exact⟨A,vr,h1,h.arr h2,h3,F.aG.ext h rows vr h4⟩
 | .cl f cs,u,hx=>by
  unfold F.rep at hx ⊢;obtain⟨vs,h1,h2⟩:=hx;exact⟨vs,h1,F.ah.ext h cs vs h2⟩
 | .mp rows,u,hx=>by
  unfold F.rep at hx ⊢;obtain⟨g,es,k,h1,h2,h3,h4⟩:=hx;exact⟨g,es,k,h1,h.sub g h2,(h.eq g h2).trans h3,F.aG.ext h rows _ h4⟩
theorem F.ah.ext(h:Ext Z w Z' w'):∀(x:List F) (u:List Value),F.ah Z w x u→F.ah Z' w' x u
 | [],u,hx=>by unfold F.ah at hx ⊢;exact hx
 | x :: l,u,hx=>by
  unfold F.ah at hx ⊢;obtain⟨a,b,h1,h2,h3⟩:=hx;exact⟨a,b,h1,F.rep.ext h x a h2,F.ah.ext h l b h3⟩
theorem F.aG.ext(h:Ext Z w Z' w'):∀(x:List (List F)) (u:List (List Value)),F.aG Z w x u→F.aG Z' w' x u
 | [],u,hx=>by unfold F.aG at hx ⊢;exact hx
 | x :: l,u,hx=>by
  unfold F.aG at hx ⊢;obtain⟨a,b,h1,h2,h3⟩:=hx;exact⟨a,b,h1,F.ah.ext h x a h2,F.aG.ext h l b h3⟩
end
theorem F.aW:∀{x:List F} {u:List Value},F.ah Z w x u→u.length=x.length
 | [],u,h=>by unfold F.ah at h;simp[h]
 | x :: l,u,h=>by
  unfold F.ah at h;obtain⟨a,b,rfl,_,h3⟩:=h;simp[F.aW h3]
theorem F.iU:∀{x:List (List F)} {u:List (List Value)},F.aG Z w x u→u.length=x.length
 | [],u,h=>by unfold F.aG at h;simp[h]
 | x :: l,u,h=>by
  unfold F.aG at h;obtain⟨a,b,rfl,_,h3⟩:=h;simp[F.iU h3]
theorem F.bT:∀{x:List F} {u:List Value},F.ah Z w x u→∀{i:Nat} {y:F},x[i]?=some y→∃v,u[i]?=some v∧F.rep Z w y v
 | [],u,h,i,y,hi=>by simp at hi
 | x :: l,u,h,i,y,hi=>by
  unfold F.ah at h;obtain⟨a,b,rfl,h2,h3⟩:=h
  cases i with
  | zero=>simp at hi;subst hi;exact⟨a,rfl,h2⟩
  | succ i=>simp at hi;simpa using F.bT h3 hi
theorem F.eR:∀{x:List (List F)} {u:List (List Value)},F.aG Z w x u→∀{i:Nat} {y:List F},x[i]?=some y→∃v,u[i]?=some v∧F.ah Z w y v
 | [],u,h,i,y,hi=>by simp at hi
 | x :: l,u,h,i,y,hi=>by
  unfold F.aG at h;obtain⟨a,b,rfl,h2,h3⟩:=h
  cases i with
  | zero=>simp at hi;subst hi;exact⟨a,rfl,h2⟩
  | succ i=>simp at hi;simpa using F.eR h3 hi
theorem F.bJ:∀{x y:List F} {u v:List Value},F.ah Z w x u→F.ah Z w y v→F.ah Z w (x++y) (u++v)
 | [],y,u,v,h,h'=>by unfold F.ah at h;subst h;exact h'
 | x :: l,y,u,v,h,h'=>by
  unfold F.ah at h;obtain⟨a,b,rfl,h2,h3⟩:=h;rw[List.cons_append,List.cons_append];unfold F.ah;exact⟨a,_,rfl,h2,F.bJ h3 h'⟩
theorem F.fV:∀{x y:List (List F)} {u v:List (List Value)},F.aG Z w x u→F.aG Z w y v→F.aG Z w (x++y) (u++v)
 | [],y,u,v,h,h'=>by unfold F.aG at h;subst h;exact h'
 | x :: l,y,u,v,h,h'=>by
  unfold F.aG at h;obtain⟨a,b,rfl,h2,h3⟩:=h;rw[List.cons_append,List.cons_append];unfold F.aG;exact⟨a,_,rfl,h2,F.fV h3 h'⟩
theorem F.cX:∀{x:List F} {u:List Value} (k:Nat),F.ah Z w x u→F.ah Z w (x.take k) (u.take k)
 | _,_,0,_=>by simp[F.ah]
 | [],u,k+1,h=>by unfold F.ah at h;subst h;simp[F.ah]
 | x :: l,u,k+1,h=>by
  unfold F.ah at h;obtain⟨a,b,rfl,h2,h3⟩:=h;rw[List.take_succ_cons,List.take_succ_cons];unfold F.ah;exact⟨a,_,rfl,h2,F.cX k h3⟩
theorem F.cW:∀{x:List F} {u:List Value} (k:Nat),F.ah Z w x u→F.ah Z w (x.drop k) (u.drop k)
 | _,_,0,h=>by simpa using h
 | [],u,k+1,h=>by unfold F.ah at h;subst h;simp[F.ah]
 | x :: l,u,k+1,h=>by
  unfold F.ah at h;obtain⟨a,b,rfl,h2,h3⟩:=h;simpa using F.cW k h3
theorem F.cT:∀{x:List (List F)} {u:List (List Value)} (k:Nat),F.aG Z w x u→F.aG Z w (x.take k) (u.take k)
 | _,_,0,_=>by simp[F.aG]
 | [],u,k+1,h=>by unfold F.aG at h;subst h;simp[F.aG]
 | x :: l,u,k+1,h=>by
  unfold F.aG at h;obtain⟨a,b,rfl,h2,h3⟩:=h;rw[List.take_succ_cons,List.take_succ_cons];unfold F.aG;exact⟨a,_,rfl,h2,F.cT k h3⟩
theorem F.dL:∀{x:List (List F)} {u:List (List Value)} (k:Nat),F.aG Z w x u→F.aG Z w (x.drop k) (u.drop k)
 | _,_,0,h=>by simpa using h
 | [],u,k+1,h=>by unfold F.aG at h;subst h;simp[F.aG]
 | x :: l,u,k+1,h=>by
  unfold F.aG at h;obtain⟨a,b,rfl,h2,h3⟩:=h;simpa using F.dL k h3
theorem F.sM:∀{x:List (List F)} {u:List (List Value)} (i:Nat) {r:List F} {v:List Value},F.aG Z w x u→F.ah Z w r v→F.aG Z w (x.set i r) (u.set i v)
 | [],u,i,r,v,h,_=>by unfold F.aG at h;subst h;simp[F.aG]
 | x :: l,u,0,r,v,h,hr=>by
  unfold F.aG at h;obtain⟨a,b,rfl,h2,h3⟩:=h;rw[List.set_cons_zero,List.set_cons_zero];unfold F.aG;exact⟨v,b,rfl,hr,h3⟩
 | x :: l,u,i+1,r,v,h,hr=>by
  unfold F.aG at h;obtain⟨a,b,rfl,h2,h3⟩:=h;rw[List.set_cons_succ,List.set_cons_succ];unfold F.aG;exact⟨a,_,rfl,h2,F.sM i h3 hr⟩
theorem F.xQ{r:List F}{v:List Value}(h:F.ah Z w r v):∀(m:Nat),F.aG Z w (List.replicate m r) (List.replicate m v)
 | 0=>by simp[F.aG]
 | m+1=>by
  rw[List.replicate_succ,List.replicate_succ];unfold F.aG;exact⟨v,_,rfl,h,F.xQ h m⟩
theorem F.FC:∀(vs:List Value),F.ah Z w (vs.map .vl) vs
 | []=>by simp[F.ah]
 | v :: l=>by
  rw[List.map_cons];unfold F.ah;exact⟨v,l,rfl,by simp[F.rep],F.FC l⟩
end
structure Cf where
 ι:Nat→Nat→Option (Option Addr×Nat×Nat)
 R:World
 Z:Nat→Prop
structure Cf.le(c c':Cf):Prop where
 ι:∀b v x,c.ι b v=some x→c'.ι b v=some x
 ext:Ext c.Z c.R c'.Z c'.R
theorem Cf.le.refl(c:Cf):c.le c:=⟨fun _ _ _ h=>h,Ext.refl _ _⟩
theorem Cf.le.trans{c c' c'':Cf}(h:c.le c')(h':c'.le c''):c.le c'':=⟨fun b v x hx=>h'.ι b v x (h.ι b v x hx),h.ext.trans h'.ext⟩
mutual
def D.rep(c:Cf):D→Value→Prop
 | .fr x,u=>F.rep c.Z c.R x u
 | .ag cs,u=>∃vs:List Value,u=.agg vs.toArray∧D.ah c cs vs
 | .tp cs,u=>∃vs:List Value,u=.tuple vs.toArray∧D.ah c cs vs
 | .cl f cs,u=>∃vs:List Value,u=.func (.func f) #[] vs.toArray∧D.ah c cs vs
 | .ptr b v o,u=>∃g,c.ι b v=some (some ⟨g,0,none⟩,0,0)∧u=.pointer (some ⟨g,o,none⟩)
 | .rp b v sz i o,u=>∃A m k,c.ι b v=some (some A,m,k)∧u=.pointer (some (A.add (i * sz+o)))
 | .own b v,u=>∃A m k,c.ι b v=some (A,m,k)∧u=.slice A m k
 | .mv b v,u=>∃g,c.ι b v=some (some ⟨g,0,none⟩,0,0)∧u=.map (some g)
 | .yl b v,u=>∃g,c.ι b v=some (some ⟨g,0,none⟩,0,0)∧u=.func (.yield g) #[] #[]
 | .sub b v sz lo hi ex,u=>∃A m k,c.ι b v=some (A,m,k)∧lo≤hi∧hi≤m∧m≤k∧∃A',u=.slice A' (hi - lo) (bif ex then hi - lo else k - lo)∧(lo=0∨lo<(bif ex then hi else k)→A'=A.map (·.add (lo * sz)))
 | .fx rows,u=>∃A vr sz,u=.slice A rows.length rows.length∧Arr sz c.Z c.R A rows.length vr∧(∀r∈vr,bZ r=true)∧F.aG c.Z c.R rows vr
 | .mcl f fs cs,u=>∃us vs:List Value,u=.func (.func f) us.toArray vs.toArray∧D.ah c fs us∧D.ah c cs vs
def D.ah(c:Cf):List D→List Value→Prop
 | [],vs=>vs=[]
 | x :: l,vs=>∃u us,vs=u :: us∧D.rep c x u∧D.ah c l us
end
mutual
theorem D.rep.le{c c':Cf}(h:c.le c'):∀(x:D) (u:Value),D.rep c x u→D.rep c' x u
 | .fr x,u,hx=>by unfold D.rep at hx ⊢;exact F.rep.ext h.ext x u hx
 | .ag cs,u,hx=>by unfold D.rep at hx ⊢;obtain⟨vs,h1,h2⟩:=hx;exact⟨vs,h1,D.ah.le h cs vs h2⟩
 | .tp cs,u,hx=>by unfold D.rep at hx ⊢;obtain⟨vs,h1,h2⟩:=hx;exact⟨vs,h1,D.ah.le h cs vs h2⟩
 | .cl f cs,u,hx=>by unfold D.rep at hx ⊢;obtain⟨vs,h1,h2⟩:=hx;exact⟨vs,h1,D.ah.le h cs vs h2⟩
 | .ptr b v o,u,hx=>by unfold D.rep at hx ⊢;obtain⟨g,h1,h2⟩:=hx;exact⟨g,h.ι _ _ _ h1,h2⟩
 | .rp b v sz i o,u,hx=>by unfold D.rep at hx ⊢;obtain⟨A,m,k,h1,h2⟩:=hx;exact⟨A,m,k,h.ι _ _ _ h1,h2⟩
 | .own b v,u,hx=>by unfold D.rep at hx ⊢;obtain⟨A,m,k,h1,h2⟩:=hx;exact⟨A,m,k,h.ι _ _ _ h1,h2⟩
 | .mv b v,u,hx=>by unfold D.rep at hx ⊢;obtain⟨g,h1,h2⟩:=hx;exact⟨g,h.ι _ _ _ h1,h2⟩
 | .yl b v,u,hx=>by unfold D.rep at hx ⊢;obtain⟨g,h1,h2⟩:=hx;exact⟨g,h.ι _ _ _ h1,h2⟩
 | .sub b v sz lo hi ex,u,hx=>by unfold D.rep at hx ⊢;obtain⟨A,m,k,h1,h2⟩:=hx;exact⟨A,m,k,h.ι _ _ _ h1,h2⟩
 | .fx rows,u,hx=>by unfold D.rep at hx ⊢;obtain⟨A,vr,sz,h1,h2,h3,h4⟩:=hx;exact⟨A,vr,sz,h1,h.ext.arr h2,h3,F.aG.ext h.ext _ _ h4⟩
 | .mcl f fs cs,u,hx=>by unfold D.rep at hx ⊢;obtain⟨us,vs,h1,h2,h3⟩:=hx;exact⟨us,vs,h1,D.ah.le h fs us h2,D.ah.le h cs vs h3⟩
theorem D.ah.le{c c':Cf}(h:c.le c'):∀(x:List D) (u:List Value),D.ah c x u→D.ah c' x u
 | [],u,hx=>by unfold D.ah at hx ⊢;exact hx
 | x :: l,u,hx=>by
  unfold D.ah at hx ⊢;obtain⟨a,b,h1,h2,h3⟩:=hx;exact⟨a,b,h1,D.rep.le h x a h2,D.ah.le h l b h3⟩
end
section
variable {c:Cf}
theorem D.aW:∀{x:List D} {u:List Value},D.ah c x u→u.length=x.length
 | [],u,h=>by unfold D.ah at h;simp[h]
 | x :: l,u,h=>by
  unfold D.ah at h;obtain⟨a,b,rfl,_,h3⟩:=h;simp[D.aW h3]
theorem D.bT:∀{x:List D} {u:List Value},D.ah c x u→∀{i:Nat} {y:D},x[i]?=some y→∃v,u[i]?=some v∧D.rep c y v
 | [],u,h,i,y,hi=>by simp at hi
 | x :: l,u,h,i,y,hi=>by
  unfold D.ah at h;obtain⟨a,b,rfl,h2,h3⟩:=h
  cases i with
  | zero=>simp at hi;subst hi;exact⟨a,rfl,h2⟩
  | succ i=>simp at hi;simpa using D.bT h3 hi
theorem D.bJ:∀{x y:List D} {u v:List Value},D.ah c x u→D.ah c y v→D.ah c (x++y) (u++v)
 | [],y,u,v,h,h'=>by unfold D.ah at h;subst h;exact h'
 | x :: l,y,u,v,h,h'=>by
  unfold D.ah at h;obtain⟨a,b,rfl,h2,h3⟩:=h;rw[List.cons_append,List.cons_append];unfold D.ah;exact⟨a,_,rfl,h2,D.bJ h3 h'⟩
theorem D.cX:∀{x:List D} {u:List Value} (k:Nat),D.ah c x u→D.ah c (x.take k) (u.take k)
 | _,_,0,_=>by simp[D.ah]
 | [],u,k+1,h=>by unfold D.ah at h;subst h;simp[D.ah]
 | x :: l,u,k+1,h=>by
  unfold D.ah at h;obtain⟨a,b,rfl,h2,h3⟩:=h;rw[List.take_succ_cons,List.take_succ_cons];unfold D.ah;exact⟨a,_,rfl,h2,D.cX k h3⟩
theorem D.cW:∀{x:List D} {u:List Value} (k:Nat),D.ah c x u→D.ah c (x.drop k) (u.drop k)
 | _,_,0,h=>by simpa using h
 | [],u,k+1,h=>by unfold D.ah at h;subst h;simp[D.ah]
 | x :: l,u,k+1,h=>by
  unfold D.ah at h;obtain⟨a,b,rfl,h2,h3⟩:=h;simpa using D.cW k h3
theorem D.eL:∀{x:List F} {u:List Value},F.ah c.Z c.R x u→D.ah c (x.map .fr) u
 | [],u,h=>by unfold F.ah at h;simp[D.ah,h]
 | x :: l,u,h=>by
  unfold F.ah at h;obtain⟨a,b,rfl,h2,h3⟩:=h;rw[List.map_cons];unfold D.ah;exact⟨a,b,rfl,by unfold D.rep;exact h2,D.eL h3⟩
end
def lk{α:Type}:List (Nat×α)→Nat→Option α
 | [],_=>none
 | (k,v) :: s,i=>bif Nat.beq k i then some v else lk s i
def up{α:Type}(η:Nat→Option α)(b:Nat)(x:α):Nat→Option α:=fun i=>bif Nat.beq b i then some x else η i
theorem bW{α:Type}(h:List (Nat×α))(b:Nat)(x:α):lk ((b,x) :: h)=up (lk h) b x:=rfl
theorem bj{α:Type}{η:Nat→Option α}{b:Nat}{x:α}:up η b x b=some x:=by simp[up]
theorem aF{α:Type}{η:Nat→Option α}{b i:Nat}{x:α}(h:b≠i):up η b x i=η i:=by
 unfold up;rw[show Nat.beq b i=false from by rw[←Bool.not_eq_true];exact fun e=>h (Nat.eq_of_beq_eq_true e)];rfl
def IA:Nat→LoopState
 | 0=>.ready
 | 1=>.busy
 | 2=>.done
 | _=>.exhausted
structure bq(c:Cf)(N:Nat)(s:List (Nat×D))(tmps:Array Value):Prop where
 size:tmps.size=N
 get:∀k d,lk s k=some d→D.rep c d (tmps.getD k undef)
theorem bq.le{c c':Cf}{N:Nat}{s:List (Nat×D)}{tmps:Array Value}(h:bq c N s tmps)(hle:c.le c'):bq c' N s tmps:=
 ⟨h.size,fun k d hk=>D.rep.le hle _ _ (h.get k d hk)⟩
def enc:List Nat→Nat
 | []=>0
 | g :: l=>2 ^ g * (2 * enc l+1)
theorem Ct:∀{a b x y:Nat},2 ^ a * (2 * x+1)=2 ^ b * (2 * y+1)→a=b∧x=y
 | 0,0,x,y,h=>⟨rfl,by omega⟩
 | 0,b+1,x,y,h=>by rw[Nat.pow_succ,Nat.pow_zero,Nat.mul_comm (2 ^ b) 2,Nat.mul_assoc] at h;omega
 | a+1,0,x,y,h=>by rw[Nat.pow_succ,Nat.pow_zero,Nat.mul_comm (2 ^ a) 2,Nat.mul_assoc] at h;omega
 | a+1,b+1,x,y,h=>by
  rw[Nat.pow_succ,Nat.pow_succ,Nat.mul_comm (2 ^ a) 2,Nat.mul_comm (2 ^ b) 2,Nat.mul_assoc,Nat.mul_assoc] at h;obtain⟨h1,h2⟩:=Ct (a:=a) (b:=b) (x:=x) (y:=y) (by omega);exact⟨by omega,h2⟩
theorem Du:∀{l m:List Nat},enc l=enc m→l=m
 | [],[],_=>rfl
 | [],g :: m,h=>by
  have:=Nat.two_pow_pos g;have h2:0<2 ^ g * (2 * enc m+1):=Nat.mul_pos this (by omega);simp only[enc] at h;omega
 | g :: l,[],h=>by
  have:=Nat.two_pow_pos g;have h2:0<2 ^ g * (2 * enc l+1):=Nat.mul_pos this (by omega);simp only[enc] at h;omega
 | g :: l,g' :: m,h=>by
  obtain⟨h1,h2⟩:=Ct h;rw[h1,Du h2]
def AtM(c:Cf)(b v:Nat)(gs:List Nat):Prop:=(∃g,gs=[g]∧c.ι b v=some (some ⟨g,0,none⟩,0,0))∨c.ι b v=some (none,enc gs,1)
theorem AtM.le{c c':Cf}{b v:Nat}{gs:List Nat}(h:c.le c'):AtM c b v gs→AtM c' b v gs
 | .inl ⟨g,h1,h2⟩=>.inl ⟨g,h1,h.ι _ _ _ h2⟩
 | .inr h1=>.inr (h.ι _ _ _ h1)
theorem AtM.eq{c:Cf}{b v:Nat}{gs gs':List Nat}(h:AtM c b v gs)(h':AtM c b v gs'):gs=gs':=by
 rcases h with ⟨g,h1,h2⟩|h1<;>rcases h' with ⟨g',h3,h4⟩|h3
 ·rw[h2] at h4
  cases h4;rw[h1,h3]
 ·rw[h2] at h3
  cases h3
 ·rw[h4] at h1
  cases h1
 ·rw[h1] at h3;simp only[Option.some.injEq,Prod.mk.injEq,true_and,and_true] at h3;exact Du h3
theorem AtM.of{c c':Cf}{b b' v v':Nat}{gs:List Nat}(h:c'.ι b' v'=c.ι b v):AtM c b v gs→AtM c' b' v' gs
 | .inl ⟨g,h1,h2⟩=>.inl ⟨g,h1,h.trans h2⟩
 | .inr h1=>.inr (h.trans h1)
def B.on(c:Cf)(b:Nat)(S:Nat→Prop)(w:World):B→Prop
 | .va v t cs=>∃g vs,c.ι b v=some (some ⟨g,0,none⟩,0,0)∧D.ah c cs vs∧bZ vs=true∧(blk g vs t).on S w
 | .ro v e sz rows=>∃A k vr,c.ι b v=some (A,rows.length,k)∧F.aG c.Z c.R rows vr∧(∀r∈vr,bZ r=true)∧(own e sz A rows.length k vr).on S w
 | .gone _=>True
 | .mp v rows=>∃g es clock,c.ι b v=some (some ⟨g,0,none⟩,0,0)∧S g∧w.heap[g]?=some (.map es clock)∧F.aG c.Z c.R rows (es.toList.map fun e=>[e.key,e.val])
 | .lp v l=>∃g L gd,c.ι b v=some (some ⟨g,0,none⟩,0,0)∧S g∧w.heap[g]?=some (.loop L)∧L.state=IA l.st∧L.pending=l.gI∧L.fn=l.f∧L.params=l.ps.toArray∧L.assign=l.asg∧L.body=l.body∧bq c l.N l.s L.tmps∧
   c.ι l.db l.dv=some (some ⟨gd,0,none⟩,0,0)∧L.defers=gd
 | .df v=>∃gs,AtM c b v gs∧gs.Nodup∧∀g∈gs,S g∧w.heap[g]?=some (.deferred (some []))
 | .gh _ vs ds=>D.ah c ds vs
 | .ab v a=>∃g,c.ι b v=some (some ⟨g,0,none⟩,0,0)∧a.on g c.Z c.R S w
theorem B.on.le{c c':Cf}{b:Nat}{S:Nat→Prop}{w w':World}(h:c.le c')(hw:∀g,S g→w'.heap[g]?=w.heap[g]?):∀{x:B},x.on c b S w→x.on c' b S w'
 | .va v t cs,⟨g,vs,h1,h2,h3,h4⟩=>⟨g,vs,h.ι _ _ _ h1,D.ah.le h _ _ h2,h3,HP.loc _ hw h4⟩
 | .ro v e sz rows,⟨A,k,vr,h1,h2,h3,h4⟩=>⟨A,k,vr,h.ι _ _ _ h1,F.aG.ext h.ext _ _ h2,h3,HP.loc _ hw h4⟩
 | .gone _,_=>trivial
 | .mp v rows,⟨g,es,k,h1,h2,h3,h4⟩=>⟨g,es,k,h.ι _ _ _ h1,h2,(hw g h2).trans h3,F.aG.ext h.ext _ _ h4⟩
 | .lp v l,⟨g,L,gd,h1,h2,h3,h4,h5,h6,h7,h8,h9,h10,h11,h12⟩=>⟨g,L,gd,h.ι _ _ _ h1,h2,(hw g h2).trans h3,h4,h5,h6,h7,h8,h9,h10.le h,h.ι _ _ _ h11,h12⟩
 | .df v,⟨gs,h1,h2,h3⟩=>⟨gs,h1.le h,h2,fun g hg=>⟨(h3 g hg).1,(hw g (h3 g hg).1).trans (h3 g hg).2⟩⟩
 | .gh v vs ds,h1=>D.ah.le h _ _ h1
 | .ab v a,⟨g,h1,h2⟩=>⟨g,h.ι _ _ _ h1,a.le h.ext hw h2⟩
structure Hp(c:Cf)(O:Nat→Nat→Prop)(η:Nat→Option B)(w:World):Prop where
 pc:∀b x,η b=some x→x.on c b (O b) w
 bound:∀b v y,c.ι b v=some y→∃x,η b=some x∧v≤x.ver
 apart:∀b b' g,O b g→O b' g→b=b'
 fz:∀g,c.Z g→g<w.heap.size∧w.heap[g]?=c.R.heap[g]?∧∀b,¬O b g
 lt:∀b g,O b g→g<w.heap.size
def upO(O:Nat→Nat→Prop)(b:Nat)(S:Nat→Prop):Nat→Nat→Prop:=fun i g=>(i=b→S g)∧(i≠b→O i g)
theorem HE{O:Nat→Nat→Prop}{b:Nat}{S:Nat→Prop}{g:Nat}:upO O b S b g↔S g:=by simp[upO]
theorem DX{O:Nat→Nat→Prop}{b i:Nat}{S:Nat→Prop}{g:Nat}(h:i≠b):upO O b S i g↔O i g:=by simp[upO,h]
theorem Hp.upd {c c':Cf} {O:Nat→Nat→Prop} {η:Nat→Option B} {w w':World} {b:Nat} {S':Nat→Prop} {x':B} (h:Hp c O η w) (hc:Chg w w' (O b))
  (hs:∀g,S' g→O b g∨(w.heap.size≤g∧g<w'.heap.size)) (hle:c.le c') (hZ:c'.Z=c.Z) (hR:c'.R=c.R)
  (hb:∀i v y,c'.ι i v=some y→∃x,up η b x' i=some x∧v≤x.ver) (hx:x'.on c' b S' w'):Hp c' (upO O b S') (up η b x') w':=by
 refine⟨fun i x hi=>?_,hb,fun i j g h1 h2=>?_,fun g hg=>?_,fun i g hg=>?_⟩
 ·by_cases e:b=i
  ·subst e;rw[bj] at hi
   cases hi;have:upO O b S' b=S':=funext fun g=>propext HE
   rw[this];exact hx
  ·rw[aF e] at hi;have e':upO O b S' i=O i:=funext fun g=>propext (DX (Ne.symm e))
   rw[e'];refine(h.pc i x hi).le hle (fun g hg=>hc.block g (h.lt i g hg) (fun hbg=>e (h.apart b i g hbg hg)))
 ·have key:∀i g,upO O b S' i g→(i=b∧S' g)∨(i≠b∧O i g):=by
   intro i g hi
   by_cases e:i=b
   ·exact .inl ⟨e,hi.1 e⟩
   ·exact .inr ⟨e,hi.2 e⟩
  rcases key i g h1 with ⟨e1,g1⟩|⟨e1,g1⟩<;>rcases key j g h2 with ⟨e2,g2⟩|⟨e2,g2⟩
  ·rw[e1,e2]
  ·exfalso
   rcases hs g g1 with g3|g3
   ·exact e2 (h.apart j b g g2 g3)
   ·have:=h.lt j g g2;omega
  ·exfalso
   rcases hs g g2 with g3|g3
   ·exact e1 (h.apart i b g g1 g3)
   ·have:=h.lt i g g1;omega
  ·exact h.apart i j g g1 g2
 ·rw[hZ] at hg;obtain⟨h1,h2,h3⟩:=h.fz g hg;refine⟨Nat.lt_of_lt_of_le h1 hc.size,?_,fun i hi=>?_⟩
  ·rw[hc.block g h1 (h3 b),h2,hR]
  ·by_cases e:i=b
   ·rcases hs g (hi.1 e) with g3|g3
    ·exact h3 b g3
    ·omega
   ·exact h3 i (hi.2 e)
 ·by_cases e:i=b
  ·rcases hs g (hg.1 e) with g3|g3
   ·exact Nat.lt_of_lt_of_le (h.lt b g g3) hc.size
   ·exact g3.2
  ·exact Nat.lt_of_lt_of_le (h.lt i g (hg.2 e)) hc.size
def nv(η:Nat→Option B)(b:Nat):Nat:=match η b with|none=>0|some x=>x.ver+1
def Cf.add(c:Cf)(b v:Nat)(y:Option Addr×Nat×Nat):Cf:={ c with ι:=fun i u=>if i=b∧u=v then some y else c.ι i u }
theorem Hp.fresh{c:Cf}{O:Nat→Nat→Prop}{η:Nat→Option B}{w:World}(h:Hp c O η w)(b:Nat):c.ι b (nv η b)=none:=by
 cases hb:c.ι b (nv η b) with
 | none=>rfl
 | some y=>
  obtain⟨x,hx,hv⟩:=h.bound _ _ _ hb;unfold nv at hv;rw[hx] at hv;simp only at hv;omega
theorem Cf.eT{c:Cf}{b v:Nat}{y:Option Addr×Nat×Nat}(h:c.ι b v=none):c.le (c.add b v y):=by
 refine⟨fun i u x hx=>?_,Ext.refl _ _⟩;unfold Cf.add
 by_cases e:i=b∧u=v
 ·rw[e.1,e.2,h] at hx;cases hx
 ·simp[e,hx]
theorem Cf.cY{c:Cf}{b v:Nat}{y:Option Addr×Nat×Nat}:(c.add b v y).ι b v=some y:=by simp[Cf.add]
theorem Hp.cF{c:Cf}{O:Nat→Nat→Prop}{η:Nat→Option B}{w:World}(h:Hp c O η w){b:Nat}{y:Option Addr×Nat×Nat}{x':B}(hv:x'.ver=nv η b) :
  ∀i v z,(c.add b (nv η b) y).ι i v=some z→∃x,up η b x' i=some x∧v≤x.ver:=by
 intro i v z hz
 by_cases e:b=i
 ·subst e;refine⟨x',bj,?_⟩;rw[hv]
  by_cases e2:v=nv η b
  ·omega
  ·have:c.ι b v=some z:=by simpa [Cf.add,e2] using hz
   obtain⟨x,hx,hle⟩:=h.bound _ _ _ this;unfold nv;rw[hx];simp only;omega
 ·rw[aF e];have:c.ι i v=some z:=by simpa [Cf.add,Ne.symm e] using hz
  exact h.bound _ _ _ this
theorem Hp.cq{c:Cf}{O:Nat→Nat→Prop}{η:Nat→Option B}{w:World}(h:Hp c O η w){b:Nat}{x x':B}(hx:η b=some x)(hv:x'.ver=x.ver) :
  ∀i v z,c.ι i v=some z→∃x,up η b x' i=some x∧v≤x.ver:=by
 intro i v z hz;obtain⟨y,hy,hle⟩:=h.bound _ _ _ hz
 by_cases e:b=i
 ·subst e;rw[hx] at hy
  cases hy;exact⟨x',bj,by omega⟩
 ·rw[aF e];exact⟨y,hy,hle⟩
structure Bs where
 w:World
 O:Nat→Prop
 c:Cf
structure Old(W:Bs)(c:Cf)(O:Nat→Nat→Prop)(w:World):Prop where
 os:w.os=W.w.os
 tape:w.tape=W.w.tape
 output:w.output=W.w.output
 size:W.w.heap.size≤w.heap.size
 b4:∀g,g<W.w.heap.size→¬W.O g→w.heap[g]?=W.w.heap[g]?
 own:∀b g,O b g→W.O g∨W.w.heap.size≤g
 mW:∀g,c.Z g→W.c.Z g∨W.O g∨W.w.heap.size≤g
 le:Ext W.c.Z W.c.R c.Z c.R
theorem Old.upd {W:Bs} {c c':Cf} {O:Nat→Nat→Prop} {w w':World} {b:Nat} {S':Nat→Prop} (h:Old W c O w) (hc:Chg w w' (O b))
  (hs:∀g,S' g→O b g∨(w.heap.size≤g∧g<w'.heap.size)) (hZ:c'.Z=c.Z) (hR:c'.R=c.R):Old W c' (upO O b S') w':=by
 refine⟨hc.os.trans h.os,hc.tape.trans h.tape,hc.output.trans h.output,Nat.le_trans h.size hc.size,fun g hg hn=>?_,fun i g hi=>?_,fun g hg=>?_,?_⟩
 ·rw[hc.block g (Nat.lt_of_lt_of_le hg h.size) (fun hb=>?_)]
  ·exact h.b4 g hg hn
  ·rcases h.own b g hb with h1|h1
   ·exact hn h1
   ·omega
 ·by_cases e:i=b
  ·rcases hs g (hi.1 e) with h1|h1
   ·exact h.own b g h1
   ·exact .inr (Nat.le_trans h.size h1.1)
  ·exact h.own i g (hi.2 e)
 ·rw[hZ] at hg;exact h.mW g hg
 ·rw[hZ,hR];exact h.le
structure A where
 s:List (Nat×D)
 h:List (Nat×B)
structure iA(c:Cf)(n:FD)(s:List (Nat×D))(a:Act):Prop where
 size:a.tmps.size=n.sz
 defers:a.defers=n.ds
 get:∀k d,lk s k=some d→D.rep c d (a.tmps.getD k undef)
structure Is(W:Bs)(n:FD)(st:A)(a:Act)(w:World)(c:Cf)(O:Nat→Nat→Prop):Prop where
 tv:iA c n st.s a
 hp:Hp c O (lk st.h) w
 old:Old W c O w
theorem iA.le{c c':Cf}{n:FD}{s:List (Nat×D)}{a:Act}(h:iA c n s a)(hle:c.le c'):iA c' n s a:=
 ⟨h.size,h.defers,fun k d hk=>D.rep.le hle _ _ (h.get k d hk)⟩
theorem iA.put{c:Cf}{n:FD}{s:List (Nat×D)}{a:Act}(h:iA c n s a){t:Nat}(ht:Nat.blt t n.sz=true){d:D}{v:Value}(hd:D.rep c d v):iA c n ((t,d) :: s) (a.put (some t) v):=by
 have ht':t<a.tmps.size:=by rw[h.size];exact bD ht
 refine⟨by simp[Act.put,h.size],by simpa [Act.put] using h.defers,fun k x hk=>?_⟩;simp only[lk] at hk
 by_cases e:t=k
 ·subst e;simp at hk;subst hk;simpa [Act.put,ht'] using hd
 ·rw[show Nat.beq t k=false from by rw[←Bool.not_eq_true];exact fun e'=>e (Nat.eq_of_beq_eq_true e')] at hk;have:=h.get k x hk;simpa [Act.put,e] using this
end Go.Vc
end
section
namespace Go.Vc
open Go Go.RowKit Go.Sl
inductive TK where
 | int (k:IntKind)
 | flt (k:FloatKind)
 | cpx (k:FloatKind)
 | bool
 | str
 | sl (e sz by_:Nat)
 | st (fs:List (Nat×Nat×Bool))
 | ar (len e sz:Nat)
 | mp (k e:Nat)
 | fn
 | ptr
 | oth
structure TI where
 sz:Nat
 z:List Value
 k:TK
def TK.agg:TK→Bool
 | .st _=>true
 | .ar _ _ _=>true
 | _=>false
abbrev TE:=Nat→Option TI
abbrev Ks:=D→List Nat→List (Nat×B)→Prop
abbrev Env:=Nat→Option B
def F.one:F→Bool
 | .vl x=>x.oneCell'
 | .ag _=>false
 | .tp _=>false
 | _=>true
def D.one:D→Bool
 | .fr x=>x.one
 | .ag _=>false
 | .tp _=>false
 | _=>true
def D.cells:D→List D
 | .ag cs=>cs
 | .fr (.ag cs)=>cs.map .fr
 | d=>[d]
def F.Ak:F→D
 | .ag cs=>.ag (cs.map .fr)
 | x=>.fr x
def F.toD:F→D
 | .ag cs=>.ag (cs.map .fr)
 | .tp cs=>.tp (cs.map F.Ak)
 | x=>.fr x
def cz{α β:Type}(f:α→Option (β×List Nat)):List α→Option (List β×List Nat)
 | []=>some ([],[])
 | x :: l=>match f x,cz f l with
  | some (y,i),some (ys,is)=>some (y :: ys,i++is)
  | _,_=>none
abbrev F.nz:F→F
 | .vl (.slice none 0 0)=>.sl []
 | x=>x
def D.toF(η:Env):Nat→D→Option (F×List Nat)
 | 0,_=>none
 | n+1,d=>match d with
  | .fr x=>some (x.nz,[])
  | .ag cs=>match cz (D.toF η n) cs with
   | some (l,is)=>some (.ag l,is)
   | none=>none
  | .tp cs=>match cz (D.toF η n) cs with
   | some (l,is)=>some (.tp l,is)
   | none=>none
  | .cl f cs=>match cz (D.toF η n) cs with
   | some (l,is)=>some (.cl f l,is)
   | none=>none
  | .ptr b v o=>match η b with
   | some (.va v' t cs)=>bif Nat.beq v v' then (match cz (D.toF η n) cs with
    | some (l,is)=>some (.pt l.length [l] 0 o,b :: is)
    | none=>none) else none
   | _=>none
  | .own b v=>match η b with
   | some (.ro v' e sz rows)=>bif Nat.beq v v' then some (.sl rows,[b]) else none
   | _=>none
  | .mv b v=>match η b with
   | some (.mp v' rows)=>bif Nat.beq v v' then some (.mp rows,[b]) else none
   | _=>none
  | .sub b v sz lo hi _=>match η b with
   | some (.ro v' _ sz' rows)=>bif Nat.beq v v'&&Nat.beq sz sz' then some (.sl ((rows.take hi).drop lo),[b]) else none
   | _=>none
  | .fx rows=>some (.sl rows,[])
  | .rp _ _ _ _ _=>none
  | .yl _ _=>none
  | .mcl _ _ _=>none
def aS(η:Env):List Nat→List (Nat×B)
 | []=>[]
 | b :: l=>match η b with
  | some x=>(b,.gone x.ver) :: aS η l
  | none=>aS η l
def setAt{α:Type}:List α→Nat→List α→List α
 | cs,_,[]=>cs
 | [],_,_=>[]
 | _ :: cs,0,v :: vs=>v :: setAt cs 0 vs
 | c :: cs,o+1,vs=>c :: setAt cs o vs
def I(k:IntKind)(n:Int):D:=.fr (.vl (.int k n))
def Bo(b:Bool):D:=.fr (.vl (.bool b))
def St(s:ByteArray):D:=.fr (.vl (.string s))
def Un:D:=.fr (.vl undef)
def yy(op:BinOp)(k:IntKind)(x y:Int):Option Int:=
 let a:=BitVec.ofInt k.bits x
 let b:=BitVec.ofInt k.bits y
 match op with
 | .and=>some (k.wrap (a &&& b).toNat)
 | .or=>some (k.wrap (a ||| b).toNat)
 | .xor=>some (k.wrap (a ^^^ b).toNat)
 | .andNot=>some (k.wrap (a &&& ~~~b).toNat)
 | _=>none
def ri(k:IntKind)(n:Int)(K:D→Prop):Prop:=match k with
 | .i64=>I64 n∧K (.fr (.vl (.int .i64 n)))
 | k=>∃m,k.wrap n=m∧K (.fr (.vl (.int k m)))
def qN(op:BinOp)(ka:IntKind)(a:Int)(kb:IntKind)(b:Int)(K:D→Prop):Prop:=
 match op with
 | .add=>bif decide (ka=kb) then ri ka (a+b) K else False
 | .sub=>bif decide (ka=kb) then ri ka (a - b) K else False
 | .mul=>bif decide (ka=kb) then ri ka (a * b) K else False
 | .lss=>bif decide (ka=kb) then K (.fr (.vl (.bool (decide (a<b))))) else False
 | .leq=>bif decide (ka=kb) then K (.fr (.vl (.bool (decide (a≤b))))) else False
 | .gtr=>bif decide (ka=kb) then K (.fr (.vl (.bool (decide (b<a))))) else False
 | .geq=>bif decide (ka=kb) then K (.fr (.vl (.bool (decide (b≤a))))) else False
 | .eql=>bif decide (ka=kb) then K (.fr (.vl (.bool (decide (a=b))))) else False
 | .neq=>bif decide (ka=kb) then K (.fr (.vl (.bool (!decide (a=b))))) else False
 | .shl=>0≤b∧K (.fr (.vl (.int ka (ka.wrap (a * 2 ^ (min b.toNat ka.bits))))))
 | .shr=>0≤b∧K (.fr (.vl (.int ka (a.fdiv (2 ^ (min b.toNat ka.bits))))))
 | .quo=>bif decide (ka=kb) then b≠0∧∃m,ka.wrap (a.tdiv b)=m∧K (.fr (.vl (.int ka m))) else False
 | .rem=>bif decide (ka=kb) then b≠0∧∃m,a.tmod b=m∧K (.fr (.vl (.int ka m))) else False
 | op=>bif decide (ka=kb) then (match yy op ka a b with|some n=>K (.fr (.vl (.int ka n)))|none=>False) else False
def qI(op:BinOp)(a b:ByteArray)(K:D→Prop):Prop:=
 match op with
 | .add=>((a.size+b.size:Nat):Int)≤9223372036854775807∧K (.fr (.vl (.string (a++b))))
 | .eql=>K (.fr (.vl (.bool (decide (a=b)))))
 | .neq=>K (.fr (.vl (.bool (!decide (a=b)))))
 | _=>False
def uc(op:BinOp)(x y:D)(K:D→Prop):Prop:=
 match x,y with
 | .fr (.vl (.int ka a)),.fr (.vl (.int kb b))=>qN op ka a kb b K
 | .fr (.vl (.string a)),.fr (.vl (.string b))=>qI op a b K
 | _,_=>False
def m7(op:BinOp)(x y:D)(K:D→Prop):Prop:=
 match x,y with
 | .fr (.vl (.bool a)),.fr (.vl (.bool b))=>(match op with
  | .eql=>K (.fr (.vl (.bool (a==b))))
  | .neq=>K (.fr (.vl (.bool (!(a==b)))))
  | _=>False)
 | _,_=>False
def ints(k:IntKind):List D→Option (List Int)
 | []=>some []
 | .fr (.vl (.int k' n)) :: l=>bif decide (k=k') then (match ints k l with
  | some m=>some (n :: m)
  | none=>none) else none
 | _=>none
def jy:D→Bool
 | .ag _=>true
 | .fr (.ag _)=>true
 | _=>false
theorem sj{k:IntKind}:∀{l:List D} {m:List Int},ints k l=some m→m.length=l.length
 | [],m,h=>by simp[ints] at h;simp[←h]
 | x :: l,m,h=>by
  unfold ints at h
  split at h
  ·rename_i hx;cases hx
  ·rename_i k' n l' hx
   cases hx
   cases hk:decide (k=k') with
   | false=>rw[hk] at h;simp at h
   | true=>
    rw[hk] at h;simp only[cond_true] at h
    split at h
    ·rename_i m' hm
     cases h;simp[sj hm]
    ·cases h
  ·cases h
def qL(k:IntKind)(op:BinOp)(x y:D)(K:D→Prop):Prop:=
 match ints k x.cells,ints k y.cells with
 | some l,some m=>bif jy x&&jy y then (match op with
  | .eql=>K (.fr (.vl (.bool (decide (l=m)))))
  | .neq=>K (.fr (.vl (.bool (!decide (l=m)))))
  | _=>False) else False
 | _,_=>False
def AO(op:UnOp)(x:D)(K:D→Prop):Prop:=
 match op,x with
 | .not,.fr (.vl (.bool b))=>K (.fr (.vl (.bool (!b))))
 | .neg,.fr (.vl (.int k a))=>ri k (0 - a) K
 | _,_=>False
theorem wrap_i64{n:Int}(h:I64 n):IntKind.i64.wrap n=n:=IntWalk.i64_in _ h
theorem wrap_u64{n:Int}(h:0≤n∧n≤18446744073709551615):IntKind.u64.wrap n=n:=IntWalk.u64_in _ (by omega)
theorem wrap_u8{n:Int}(h:0≤n∧n≤255):IntKind.u8.wrap n=n:=by
 simp[IntKind.wrap,IntKind.bits,IntKind.signed];omega
section
variable (E:TE) (η:Env) (t:Nat)
def eJ(t':Nat)(x:D)(k:Ks):Prop:=
 match x,E t' with
 | .ptr b v o,some i=>(match η b with
  | some (.va v' _ cs)=>bif Nat.beq v v' then
    (
     bif i.k.agg then o+i.sz≤cs.length∧k (.ag ((cs.drop o).take i.sz)) [b] []
     else ∃d,cs[o]?=some d∧k d [b] []) else False
  | _=>False)
 | .rp b v sz j o,some i=>(match η b with
  | some (.ro v' _ sz' rows)=>bif Nat.beq v v'&&Nat.beq sz sz' then
    ∃r,rows[j]?=some r∧(bif i.k.agg then o+i.sz≤r.length∧k (.ag (((r.drop o).take i.sz).map .fr)) [b] []
     else ∃d,r[o]?=some d∧k (.fr d) [b] []) else False
  | _=>False)
 | .fr (.pt sz rows j o),some i=>
    ∃r,rows[j]?=some r∧(bif i.k.agg then o+i.sz≤r.length∧k (.ag (((r.drop o).take i.sz).map .fr)) [] []
     else ∃d,r[o]?=some d∧k (.fr d) [] [])
 | _,_=>False
def fG(t':Nat)(x y:D)(k:Ks):Prop:=
 match x,E t' with
 | .ptr b v o,some i=>(match η b with
  | some (.va v' bt cs)=>bif Nat.beq v v'&&Nat.beq y.cells.length i.sz then
    y.cells.all D.one=true∧o+i.sz≤cs.length∧0<i.sz∧k Un [b] [(b,.va v bt (setAt cs o y.cells))] else False
  | _=>False)
 | .rp b v sz j o,some i=>(match η b with
  | some (.ro v' e sz' rows)=>bif Nat.beq v v'&&Nat.beq sz sz'&&Nat.beq y.cells.length i.sz then
    ∃r,rows[j]?=some r∧(match cz (D.toF η 4) y.cells with
     | some (fs,is)=>fs.all F.one=true∧o+i.sz≤sz∧0<i.sz∧is.elem b=false∧k Un (b :: is) ((b,.ro v e sz (rows.set j (setAt r o fs))) :: aS η is)
     | none=>False) else False
  | _=>False)
 | _,_=>False
def bS(t':Nat)(x:D)(j:Nat)(k:Ks):Prop:=
 match E t' with
 | some ⟨_,_,.st fs⟩=>(match fs[j]? with
  | some (o',s',_)=>bif Nat.blt 0 s' then (match x with
   | .ptr b v o=>k (.ptr b v (o+o')) [] []
   | .rp b v sz i o=>k (.rp b v sz i (o+o')) [] []
   | .fr (.pt sz rows i o)=>k (.fr (.pt sz rows i (o+o'))) [] []
   | _=>False) else False
  | none=>False)
 | _=>False
def ep(t':Nat)(x:D)(j:Nat)(k:Ks):Prop:=
 match E t' with
 | some ⟨n,_,.st fs⟩=>(match fs[j]?,x with
  | some (o',s',g),.ag cs=>bif Nat.beq cs.length n then (bif g then k (.ag ((cs.drop o').take s')) [] [] else ∃d,cs[o']?=some d∧k d [] []) else False
  | some (o',s',g),.fr (.ag cs)=>bif Nat.beq cs.length n then (bif g then k (.ag (((cs.drop o').take s').map .fr)) [] [] else ∃d,cs[o']?=some d∧k (.fr d) [] []) else False
  | _,_=>False)
 | _=>False
def bn(t':Nat)(x:D)(y:D)(k:Ks):Prop:=
 match y with
 | .fr (.vl (.int _ n))=>(match E t' with
  | some ⟨_,_,.sl e sz _⟩=>(match x with
   | .own b v=>(match η b with
    | some (.ro v' _ sz' rows)=>bif Nat.beq v v'&&Nat.beq sz sz' then ∃i:Nat,n=(i:Int)∧i<rows.length∧k (.rp b v sz i 0) [b] [] else False
    | _=>False)
   | .fr (.sl rows)=>∃i:Nat,n=(i:Int)∧∃r,rows[i]?=some r∧r.length=sz∧k (.fr (.pt sz rows i 0)) [] []
   | _=>False)
  | some ⟨_,_,.ar len e sz⟩=>(match x with
   | .ptr b v o=>∃i:Nat,n=(i:Int)∧i<len∧k (.ptr b v (o+i * sz)) [] []
   | .rp b v sz' j o=>∃i:Nat,n=(i:Int)∧i<len∧k (.rp b v sz' j (o+i * sz)) [] []
   | .fr (.pt sz' rows j o)=>∃i:Nat,n=(i:Int)∧i<len∧k (.fr (.pt sz' rows j (o+i * sz))) [] []
   | _=>False)
  | _=>False)
 | _=>False
def gJ(t':Nat)(x:D)(y:D)(k:Ks):Prop:=
 match y with
 | .fr (.vl (.int _ n))=>(match E t',x with
  | some ⟨_,_,.str⟩,.fr (.vl (.string s))=>∃i:Nat,n=(i:Int)∧∃u,s.data[i]?=some u∧k (.fr (.vl (.int .u8 u.toNat))) [] []
  | _,_=>False)
 | _=>False
def bound(d:Nat)(x:Option D)(K:Nat→Prop):Prop:=
 match x with
 | none=>K d
 | some (.fr (.vl (.int _ n)))=>∃i:Nat,n=(i:Int)∧K i
 | _=>False
def fK(t':Nat)(x:D)(lo hi:Option (Option D))(mx:Bool)(k:Ks):Prop:=
 bif mx then False else
 match lo,hi with
 | some lo,some hi=>(match E t',x with
  | some ⟨_,_,.str⟩,.fr (.vl (.string s))=>bound 0 lo fun l=>bound s.size hi fun h=>l≤h∧h≤s.size∧k (.fr (.vl (.string (s.extract l h)))) [] []
  | some ⟨_,_,.sl e sz _⟩,.fr (.sl rows)=>bound 0 lo fun l=>bound rows.length hi fun h=>l≤h∧h≤rows.length∧(∀r∈rows,r.length=sz)∧k (.fr (.sl ((rows.take h).drop l))) [] []
  | _,_=>False)
 | _,_=>False
def eF(x:D)(j:Nat)(k:Ks):Prop:=
 match x with
 | .tp ds=>∃d,ds[j]?=some d∧k d [] []
 | _=>False
def oK(pl:List (Nat×Nat×Bool)):List D→List (Nat×Option D)→Option (List D)
 | cs,[]=>some cs
 | cs,(j,some d) :: l=>match pl[j]? with
  | some (o,s,_)=>bif Nat.beq d.cells.length s&&d.cells.all D.one&&Nat.ble (o+s) cs.length then oK pl (setAt cs o d.cells) l else none
  | none=>none
 | _,(_,none) :: _=>none
def fF(t':Nat)(ps:List (Nat×Option D))(k:Ks):Prop:=
 match E t' with
 | some ⟨_,z,.st fs⟩=>(match oK fs (z.map fun v=>.fr (.vl v)) ps with
  | some cs=>k (.ag cs) [] []
  | none=>False)
 | some ⟨_,z :: zs,.ar len _ sz⟩=>(match oK ((List.range len).map fun j=>(j * sz,sz,false)) ((z :: zs).map fun v=>.fr (.vl v)) ps with
  | some cs=>k (.ag cs) [] []
  | none=>False)
 | _=>False
def kn(η:Env)(sz:Nat):Nat→List (Nat×Option D)→Option (List (List F)×List Nat)
 | _,[]=>some ([],[])
 | j,(i,some d) :: l=>bif Nat.beq i j&&Nat.beq d.cells.length sz then (match cz (D.toF η 4) d.cells,kn η sz (j+1) l with
  | some (r,is),some (rs,is')=>bif r.all F.one then some (r :: rs,is++is') else none
  | _,_=>none) else none
 | _,(_,none) :: _=>none
def o5(t':Nat)(len:Nat)(ps:List (Nat×Option D))(k:Ks):Prop:=
 match E t' with
 | some ⟨_,_,.sl e sz _⟩=>(match kn η sz 0 ps with
  | some (rows,is)=>bif Nat.beq len ps.length&&Nat.ble (len * sz) 16777216 && !(is.elem t) then k (.own t (nv η t)) (t :: is) ((t,.ro (nv η t) e sz rows) :: aS η is) else False
  | none=>False)
 | _=>False
def jN(t':Nat)(l c:D)(k:Ks):Prop:=
 match E t',l,c with
 | some ⟨_,_,.sl e sz by_⟩,.fr (.vl (.int _ n)),.fr (.vl (.int _ m))=>(match E e with
  | some i=>i.z.length=sz∧∃j:Nat,n=(j:Int)∧∃j':Nat,m=(j':Int)∧(j=j'∨j=0)∧by_ * j'≤281474976710656∧j'≤maxLen∧k (.own t (nv η t)) [t] [(t,.ro (nv η t) e sz (List.replicate j (i.z.map fun v=>F.nz (.vl v))))]
  | none=>False)
 | _,_,_=>False
def j7(t':Nat)(x:D)(k:Ks):Prop:=
 match E t',x with
 | some ⟨_,_,.str⟩,.fr (.vl (.string s))=>k (.fr (.vl (.int .i64 (s.size:Int)))) [] []
 | some ⟨_,_,.sl _ _ _⟩,.fr (.sl rows)=>k (.fr (.vl (.int .i64 (rows.length:Int)))) [] []
 | some ⟨_,_,.sl _ _ _⟩,.fr (.vl (.slice none 0 0))=>k (.fr (.vl (.int .i64 0))) [] []
 | some ⟨_,_,.sl _ _ _⟩,.own b v=>(match η b with
  | some (.ro v' _ _ rows)=>bif Nat.beq v v' then k (.fr (.vl (.int .i64 (rows.length:Int)))) [b] [] else False
  | _=>False)
 | _,_=>False
def fI(η:Env):D→Option (List (List F)×List Nat)
 | .fr (.sl rows)=>some (rows,[])
 | .fr (.vl (.slice none 0 0))=>some ([],[])
 | .own b v=>match η b with
  | some (.ro v' _ _ rows)=>bif Nat.beq v v' then some (rows,[b]) else none
  | _=>none
 | _=>none
def ee(t':Nat)(x y:D)(k:Ks):Prop:=
 match E t',fI η y with
 | some ⟨_,_,.sl e sz by_⟩,some (news,rd)=>(match x with
  | .own b v=>(match η b with
   | some (.ro v' e' sz' rows)=>bif Nat.beq v v'&&Nat.beq e e'&&Nat.beq sz sz' then (∀r∈news,r.length=sz)∧rows.length+news.length≤maxLen∧(rows.length+news.length) * by_≤140737488355328∧k (.own b (v+1)) (b :: rd) [(b,.ro (v+1) e sz (rows++news))] else False
   | _=>False)
  | .fr (.vl (.slice none 0 0))=>(∀r∈news,r.length=sz)∧news.length≤maxLen∧news.length * by_≤140737488355328∧k (.own t (nv η t)) (t :: rd) [(t,.ro (nv η t) e sz news)]
  | _=>False)
 | _,_=>False
abbrev CG:=Nat→Env→FuncId→List D→Ks→Prop
def jq{α:Type}:List (Option α)→Option (List α)
 | []=>some []
 | some x :: l=>match jq l with
  | some xs=>some (x :: xs)
  | none=>none
 | none :: _=>none
def dT(G:CG)(ρ:Operand→Option D)(c:Call)(k:Ks):Prop:=
 match c.callee with
 | .builtin .len=>(match c.args.toList,c.argTypes.toList with
  | [x],[t']=>(match ρ x with|some d=>j7 E η t' d k|none=>False)
  | _,_=>False)
 | .builtin .append=>(match c.args.toList,c.argTypes.toList with
  | [x,y],[t',t'']=>(match ρ x,ρ y with|some d,some d'=>bif Nat.beq t' t'' then ee E η t t' d d' k else False|_,_=>False)
  | _,_=>False)
 | .builtin .max=>(match c.args.toList with
  | [x,y]=>(match ρ x,ρ y with
   | some (.fr (.vl (.int .i64 a))),some (.fr (.vl (.int .i64 b)))=>k (.fr (.vl (.int .i64 (max a b)))) [] []
   | _,_=>False)
  | _=>False)
 | .builtin .min=>(match c.args.toList with
  | [x,y]=>(match ρ x,ρ y with
   | some (.fr (.vl (.int .i64 a))),some (.fr (.vl (.int .i64 b)))=>k (.fr (.vl (.int .i64 (min a b)))) [] []
   | _,_=>False)
  | _=>False)
 | .value f=>(match ρ f,jq (c.args.toList.map ρ) with
  | some (.cl f cs),some l=>G t η f (l++cs) k
  | some (.fr (.cl f cs)),some l=>G t η f (l++cs.map F.toD) k
  | _,_=>False)
 | _=>False
def jS(t1 t2:Nat)(x:D)(k:Ks):Prop:=
 match E t1,E t2,x with
 | some ⟨_,_,.int k1⟩,some ⟨_,_,.int k2⟩,.fr (.vl (.int k' n))=>bif decide (k'=k1) then (∃m,k2.wrap n=m∧k (.fr (.vl (.int k2 m))) [] []) else False
 | some ⟨_,_,.sl e sz _⟩,some ⟨_,_,.str⟩,d=>(match E e with
  | some ⟨_,_,.int .u8⟩=>(match fI η d with
   | some (rows,rd)=>sz=1∧∃bs:List UInt8,rows=(bs.map fun b=>[.vl (.int .u8 b.toNat)])∧k (.fr (.vl (.string ⟨bs.toArray⟩))) rd []
   | none=>False)
  | _=>False)
 | _,_,_=>False
def dV(ρ:Operand→Option D):Option Operand→Option (Option D)
 | none=>some none
 | some y=>(ρ y).map some
def wpOp(G:CG)(ρ:Operand→Option D)(op:Op)(k:Ks):Prop:=
 match op with
 | .move x=>(match ρ x with|some d=>k d [] []|none=>False)
 | .assign x=>(match ρ x with|some d=>k d [] []|none=>False)
 | .pick c a b=>(match ρ c,ρ a,ρ b with|some (.fr (.vl (.bool q))),some x,some y=>(q=true→k x [] [])∧(q=false→k y [] [])|_,_,_=>False)
 | .alloc t'=>(match E t' with
  | some i=>bif Nat.blt 0 i.z.length then k (.ptr t (nv η t) 0) [t] [(t,.va (nv η t) t' (i.z.map fun v=>.fr (.vl v)))] else False
  | none=>False)
 | .box t' x=>(match ρ x with|some d=>d.cells.all D.one=true∧k (.ptr t (nv η t) 0) [t] [(t,.va (nv η t) t' d.cells)]|none=>False)
 | .build t' ps=>fF E t' (ps.toList.map fun p=>(p.1,ρ p.2)) k
 | .buildSlice t' n ps=>o5 E η t t' n (ps.toList.map fun p=>(p.1,ρ p.2)) k
 | .load t' x=>(match ρ x with|some d=>eJ E η t' d k|none=>False)
 | .store t' x y=>(match ρ x,ρ y with|some d,some d'=>fG E η t' d d' k|_,_=>False)
 | .nilCheck x=>(match ρ x with
  | some (.ptr b v o)=>k (.ptr b v o) [] []
  | some (.rp b v sz i o)=>k (.rp b v sz i o) [] []
  | some (.fr (.pt sz rows i o))=>k (.fr (.pt sz rows i o)) [] []
  | some (.cl f cs)=>k (.cl f cs) [] []
  | some (.fr (.cl f cs))=>k (.fr (.cl f cs)) [] []
  | _=>False)
 | .binOp op ty x y _=>(match ρ x,ρ y with
  | some d,some d'=>(match E ty with
   | some ⟨_,_,.bool⟩=>m7 op d d' fun r=>k r [] []
   | some ⟨_,_,.ar len e sz⟩=>(match E e with
    | some ⟨_,_,.int ik⟩=>bif Nat.beq sz 1&&Nat.beq d.cells.length len&&Nat.beq d'.cells.length len then qL ik op d d' fun r=>k r [] [] else False
    | _=>False)
   | _=>uc op d d' fun r=>k r [] [])
  | _,_=>False)
 | .unOp op _ x=>(match ρ x with|some d=>AO op d fun r=>k r [] []|none=>False)
 | .convert t1 t2 x=>(match ρ x with|some d=>jS E η t1 t2 d k|none=>False)
 | .makeFunc (.func f) fst cap=>(match fst.toList,jq (cap.toList.map ρ) with|[],some l=>k (.cl f l) [] []|_,_=>False)
 | .makeSlice t' l c=>(match ρ l,ρ c with|some d,some d'=>jN E η t t' d d' k|_,_=>False)
 | .slice t' x lo hi mx=>(match ρ x with
  | some d=>fK E t' d (dV ρ lo) (dV ρ hi) mx.isSome k
  | none=>False)
 | .fieldAddr t' x j=>(match ρ x with|some d=>bS E t' d j k|none=>False)
 | .field t' x j=>(match ρ x with|some d=>ep E t' d j k|none=>False)
 | .indexAddr t' x y=>(match ρ x,ρ y with|some d,some d'=>bn E η t' d d' k|_,_=>False)
 | .index t' x y=>(match ρ x,ρ y with|some d,some d'=>gJ E t' d d' k|_,_=>False)
 | .extract x j=>(match ρ x with|some d=>eF d j k|none=>False)
 | .call c=>dT E η t G ρ c k
 | _=>False
end
def evD(Γ:Nat→Option (List F))(s:List (Nat×D)):Operand→Option D
 | .tmp t=>lk s t
 | .const v=>some (.fr (.vl v))
 | .global g=>match Γ g with
  | some cs=>some (.fr (.pt cs.length [cs] 0 0))
  | none=>none
 | .func f=>some (.fr (.cl f []))
structure Cx where
 Q:Nat→Bool
 B:Nat
 E:TE
 Γ:Nat→Option (List F)
 G:CG
 GD:CG
 N:Nat
def A.put(st:A)(dst:Option Nat)(d:D)(e:List (Nat×B)):A:=
 match dst with
 | some t=>⟨(t,d) :: st.s,(match e with|[]=>st.h|e=>e++st.h)⟩
 | none=>⟨st.s,(match e with|[]=>st.h|e=>e++st.h)⟩
def yv(X:Cx):Option Nat→Bool
 | some t=>Nat.blt t X.N
 | none=>true
inductive Ac where
 | ex (d:D) (rd:List Nat) (e:List (Nat×B))
 | sk
def Ac.rd:Ac→List Nat
 | .ex _ rd _=>rd
 | .sk=>[]
def Ac.wr:Ac→List Nat
 | .ex _ _ e=>e.map (·.1)
 | .sk=>[]
def um(l m:List Nat):Bool:=l.all fun x=>m.all fun y=>!Nat.beq x y
def vL(ops:Array Oper)(acs:List Ac)(k i:Nat):Bool:=
 match ops[k]?,ops[i]?,acs[k]?,acs[i]? with
 | some o1,some o2,some a1,some a2=>o1.apart ops o2&&um a1.wr (a2.rd++a2.wr)&&um a2.wr a1.rd
 | _,_,_,_=>true
def okD(ops:Array Oper)(acs:List Ac):Bool:=
 Region.noSelect ops&&(List.range ops.size).all fun i=>
  (match ops[i]? with|some o=>o.after.all fun e=>!Region.binds .any e||Nat.blt e.on i|none=>true) &&
  (List.range i).all fun k=>ct ops 6 i k||vL ops acs k i
def FX(P:Program)(t j o s:Nat)(g:Bool):Prop:=
 match g with
 | false=>∀(cs:Array Value) v w,cs[o]?=some v→(Instr.field t (.agg cs) j).run P w=.ok v w
 | true=>∀(cs:Array Value) w,(Instr.field t (.agg cs) j).run P w=.ok (.agg (cs.extract o (o+s))) w
theorem FX.of1 {P:Program} {t i off s:Nat} {fs:Array Field} {f:Field} {d:TypeDesc} (hu:P.underlying t=some (.struct fs)) (hf':fs[i]?=some f) (ho:f.offset=off) (hd:P.underlying f.type=some d)
  (hd':(match d with | .struct _ | .array _ _=>true|_=>false)=false):FX P t i off s false:=(FV.of hu hf' ho hd hd').run
theorem FX.ofA {P:Program} {t i off s:Nat} {fs:Array Field} {f:Field} {d:TypeDesc} (hu:P.underlying t=some (.struct fs)) (hf':fs[i]?=some f) (ho:f.offset=off) (hd:P.underlying f.type=some d)
  (hd':(match d with | .struct _ | .array _ _=>true|_=>false)=true) (hs:(P.info? f.type).map (·.size)=some s):FX P t i off s true:=by
 obtain⟨⟨inf,h1,h2⟩⟩:=SZ.of hs;intro cs w;subst ho
 cases d<;>simp at hd'<;>simp[Instr.field,run_underlying hu,hf',part,isAgg,run_underlying hd,asAgg,sizeOf,typeInfo,h1,h2]
structure TOk(P:Program)(t:Nat)(i:TI):Prop where
 sz:SZ P t i.sz
 z:i.z≠[]→∃v,ZV P t v∧v.cells=i.z.toArray∧bZ i.z=true
 ld:match i.k.agg with
  | true=>LN P t i.sz
  | false=>L1 P t
 k:match i.k with
  | .int k=>UD P t (.int k)
  | .flt k=>UD P t (.float k)
  | .cpx k=>UD P t (.complex k)
  | .bool=>UD P t .bool
  | .str=>UD P t .string
  | .sl e sz by_=>∃z,SlT P t e sz by_ z
  | .st fs=>(∀j o s g,fs[j]?=some (o,s,g)→(0<s→FA P t j o)∧FX P t j o s g)∧PL P t (.agg i.z.toArray) (fs.map fun p=>(p.1,p.2.1)).toArray
  | .ar len e sz=>AT P t len e sz∧(i.z≠[]→ZV P t (.agg i.z.toArray))
  | .mp k e=>UD P t (.map k e)
  | .fn=>∃a b c,UD P t (.func a b c)
  | .ptr=>∃e n,UD P t (.pointer e)∧SZ P e n∧0<n
  | .oth=>True
 zd:i.z≠[]→match i.k.agg with
  | true=>ZV P t (.agg i.z.toArray)
  | false=>∀u,i.z=[u]→ZV P t u
section
variable {P:Program} {n:FD} {s:List (Nat×D)} {Γ:Nat→Option (List F)} {c:Cf} {a:Act} {w:World}
def GOk(Γ:Nat→Option (List F))(c:Cf):Prop:=∀g cs,Γ g=some cs→F.rep c.Z c.R (.pt cs.length [cs] 0 0) (.pointer (some ⟨g,0,none⟩))
theorem GOk.ext{c':Cf}(h:GOk Γ c)(he:Ext c.Z c.R c'.Z c'.R):GOk Γ c':=fun g cs hg=>F.rep.ext he _ _ (h g cs hg)
theorem mm(hs:iA c n s a)(hg:GOk Γ c){x:Operand}{d:D}(h:evD Γ s x=some d):D.rep c d (a.eval x):=by
 cases x with
 | tmp t=>exact hs.get t d h
 | const v=>
  simp[evD] at h;subst h;unfold D.rep F.rep;rfl
 | global g=>
  simp only[evD] at h
  split at h
  ·rename_i cs hcs
   cases h;unfold D.rep;exact hg g cs hcs
  ·cases h
 | func f=>
  simp[evD] at h;subst h;unfold D.rep F.rep;exact⟨[],rfl,by simp[F.ah]⟩
def sv(a:Act)(s:List (Nat×D)):Sg:=s.map fun p=>(p.1,a.tmps.getD p.1 undef)
theorem Ke:∀(s:List (Nat×D)) (k:Nat) (v:Value),Sl.lk (sv a s) k=some v→v=a.tmps.getD k undef
 | [],k,v,h=>by simp[sv,Sl.lk] at h
 | p :: l,k,v,h=>by
  simp only[sv,List.map_cons,Sl.lk] at h
  cases hb:Nat.beq p.1 k with
  | true=>
   rw[hb] at h;have e:=Nat.eq_of_beq_eq_true hb;rw[e] at h;simpa using h.symm
  | false=>
   rw[hb] at h;exact Ke l k v h
theorem Hu(hs:iA c n s a):Fr n (sv a s) a:=⟨hs.size,hs.defers,fun i v h=>(Ke s i v h).symm⟩
theorem CE:∀(s:List (Nat×D)) (k:Nat) (d:D),lk s k=some d→Sl.lk (sv a s) k=some (a.tmps.getD k undef)
 | [],k,v,h=>by simp[lk] at h
 | p :: l,k,v,h=>by
  simp only[lk] at h;simp only[sv,List.map_cons,Sl.lk]
  cases hb:Nat.beq p.1 k with
  | true=>
   have e:=Nat.eq_of_beq_eq_true hb;rw[e];rfl
  | false=>
   rw[hb] at h;exact CE l k v h
theorem MA{x:Operand}{d:D}(h:evD Γ s x=some d):Sl.ev (sv a s) x=some (a.eval x):=by
 cases x with
 | tmp t=>exact CE s t d h
 | const v=>rfl
 | global g=>rfl
 | func f=>rfl
theorem aH{x u:Value}(h:D.rep c (.fr (.vl x)) u):u=x:=by unfold D.rep F.rep at h;exact h
theorem aV(x:Value):D.rep c (.fr (.vl x)) x:=by unfold D.rep F.rep;rfl
theorem DA{op:BinOp}{k:IntKind}{x y m:Int}{K:D→Prop}(h:ri k m K)(hr:∀w,(Op.intArith op k x y).run P w=.ok (.int k (k.wrap m)) w) :
  ∃d v,K d∧D.rep c d v∧∀w,(Op.intArith op k x y).run P w=.ok v w:=by
 unfold ri at h
 split at h
 ·refine⟨_,_,h.2,aV _,fun w=>?_⟩;rw[hr w,IntWalk.i64_in _ h.1]
 ·obtain⟨m',rfl,h⟩:=h;exact⟨_,_,h,aV _,hr⟩
theorem L7{op:BinOp}{ka kb:IntKind}{x y:Int}{t:TypeId}{K:D→Prop}(h:qN op ka x kb y K):∃d v,K d∧D.rep c d v∧∀w,(binOp op t (.int ka x) (.int kb y)).run P w=.ok v w:=by
 have sel:∀{X:Prop},(bif decide (ka=kb) then X else False)→ka=kb∧X:=by
  intro X hX
  by_cases e:ka=kb
  ·simp[e] at hX;exact⟨e,hX⟩
  ·simp[e] at hX
 unfold qN at h
 split at h
 ·obtain⟨e0,h'⟩:=sel h;clear h;subst e0;obtain⟨d,v,h1,h2,h3⟩:=DA (P:=P) (op:=.add) (x:=x) (y:=y) (c:=c) h' (fun w=>rfl);exact⟨d,v,h1,h2,fun w=>by simp[binOp,h3]⟩
 ·obtain⟨e0,h'⟩:=sel h;clear h;subst e0;obtain⟨d,v,h1,h2,h3⟩:=DA (P:=P) (op:=.sub) (x:=x) (y:=y) (c:=c) h' (fun w=>rfl);exact⟨d,v,h1,h2,fun w=>by simp[binOp,h3]⟩
 ·obtain⟨e0,h'⟩:=sel h;clear h;subst e0;obtain⟨d,v,h1,h2,h3⟩:=DA (P:=P) (op:=.mul) (x:=x) (y:=y) (c:=c) h' (fun w=>rfl);exact⟨d,v,h1,h2,fun w=>by simp[binOp,h3]⟩
 ·obtain⟨e0,h'⟩:=sel h;clear h;subst e0;exact⟨_,_,h',aV _,fun w=>by simp[binOp,Op.intCmp]⟩
 ·obtain⟨e0,h'⟩:=sel h;clear h;subst e0;exact⟨_,_,h',aV _,fun w=>by simp[binOp,Op.intCmp]⟩
 ·obtain⟨e0,h'⟩:=sel h;clear h;subst e0;exact⟨_,_,h',aV _,fun w=>by simp[binOp,Op.intCmp]⟩
 ·obtain⟨e0,h'⟩:=sel h;clear h;subst e0;exact⟨_,_,h',aV _,fun w=>by simp[binOp,Op.intCmp]⟩
 ·obtain⟨e0,h'⟩:=sel h;clear h;subst e0;have e:(x==y)=decide (x=y):=by rw[Bool.eq_iff_iff];simp
  exact⟨_,_,h',aV _,fun w=>by simp[binOp,Op.intCmp,e]⟩
 ·obtain⟨e0,h'⟩:=sel h;clear h;subst e0;have e:(x != y)=!decide (x=y):=by rw[Bool.eq_iff_iff];simp
  exact⟨_,_,h',aV _,fun w=>by simp[binOp,Op.intCmp,e]⟩
 ·refine⟨_,_,h.2,aV _,fun w=>?_⟩;simp[binOp,Op.shift,show ¬y<0 by omega]
 ·refine⟨_,_,h.2,aV _,fun w=>?_⟩;simp[binOp,Op.shift,show ¬y<0 by omega]
 ·obtain⟨e0,h'⟩:=sel h;clear h;subst e0;obtain⟨hy,m',rfl,h'⟩:=h';exact⟨_,_,h',aV _,fun w=>by simp[binOp,Op.intDiv,hy]⟩
 ·obtain⟨e0,h'⟩:=sel h;clear h;subst e0;obtain⟨hy,m',rfl,h'⟩:=h';exact⟨_,_,h',aV _,fun w=>by simp[binOp,Op.intDiv,hy]⟩
 ·rename_i h1 h2 h3 h4 h5 h6 h7 h8 h9 h10 h11 h12 h13;obtain⟨e0,h'⟩:=sel h;clear h;subst e0
  cases op<;>simp[yy] at h'<;>first|exact⟨_,_,h',aV _,fun w=>by simp[binOp,Op.intBits]⟩|(exfalso;simp at *)
theorem sL{ik:IntKind}:∀{l:List D} {m:List Int} {vs:List Value},ints ik l=some m→D.ah c l vs→vs=m.map (.int ik)
 | [],m,vs,h,hr=>by
  simp[ints] at h;unfold D.ah at hr;simp[h,hr]
 | x :: l,m,vs,h,hr=>by
  unfold D.ah at hr;obtain⟨u,us,rfl,hu,hus⟩:=hr;unfold ints at h
  split at h
  ·rename_i hx;cases hx
  ·rename_i k' n l' hx
   cases hx
   by_cases e:ik=k'
   ·subst e;simp only[decide_true,cond_true] at h
    split at h
    ·rename_i m' hm
     cases h;rw[sL hm hus,aH hu];rfl
    ·cases h
   ·simp[e] at h
  ·cases h
theorem qW{t e len:Nat}{ik:IntKind}(ht:P.underlying t=some (.array len e))(he:P.underlying e=some (.int ik))(hz:SZ P e 1)(l m:List Int)(hl:l.length=len)(hm:m.length=len)(w:World) :
  (Op.equal t (.agg (l.map (.int ik)).toArray) (.agg (m.map (.int ik)).toArray)).run P w=.ok (decide (l=m)) w:=by
 have h1:∀(a b:Int) w,(Op.equalIn 9999 e (.int ik a) (.int ik b)).run P w=.ok (a==b) w:=fun a b w=>run_equalIn_int w 9998 _ _ _ a b he
 have h2:(sizeOf e).run P w=.ok 1 w:=by
  obtain⟨i,hi,hk⟩:=hz.info;simp[sizeOf,typeInfo,hi,hk]
 have h3:∀w,(isAgg e).run P w=.ok false w:=fun w=>by simp[isAgg,run_underlying he]
 have hp:∀(xs:List Int) i x,xs[i]?=some x→(part e (xs.map (.int ik)).toArray (i * 1)).run P w=.ok (.int ik x) w:=by
  intro xs i x hx;have:((xs.map (.int ik)).toArray)[i * 1]?=some (Value.int ik x):=by simp[hx]
  simp[part,h3,hx]
 show(Op.equalIn (9999+1) _ _ _).run _ _=_
 rw[Op.equalIn];simp only[Sem.run_bind,run_underlying ht,Result.andThen_ok,h2];simp only[Std.Legacy.Range.forIn_eq_forIn_range',Std.Legacy.Range.size];have key:∀(k s:Nat),s+k=len→(forIn (m:=Sem) (List.range' s k) ((none:Option Bool),()) fun i _=>do
    let x ←part e (l.map (.int ik)).toArray (i * 1)
    let y ←part e (m.map (.int ik)).toArray (i * 1)
    let b ←Op.equalIn 9999 e x y
    if (!b)=true then pure (ForInStep.done (some false,())) else pure (ForInStep.yield (none,()))).run P w =
   .ok (if l.drop s=m.drop s then (none,()) else (some false,())) w:=by
  intro k
  induction k with
  | zero=>
   intro s hs;rw[List.drop_of_length_le (by omega),List.drop_of_length_le (by omega)];simp
  | succ k ih=>
   intro s hs;have hsl:s<l.length:=by omega
   have hsm:s<m.length:=by omega
   have g1:=hp l s _ (List.getElem?_eq_getElem hsl);have g2:=hp m s _ (List.getElem?_eq_getElem hsm);have ih':=ih (s+1) (by omega);rw[List.range'_succ,List.forIn_cons];simp only[Sem.run_bind,g1,g2,h1,Result.andThen_ok];rw[List.drop_eq_getElem_cons hsl,List.drop_eq_getElem_cons hsm]
   by_cases e0:l[s]=m[s]
   ·simp only[e0,beq_self_eq_true,Bool.not_true,Bool.false_eq_true,if_false,Sem.run_pure,Result.andThen_ok,ih',List.cons.injEq,true_and]
   ·have e1:(l[s]==m[s])=false:=by simpa using e0
    simp only[e1,Bool.not_false,if_true,Sem.run_pure,Result.andThen_ok];rw[if_neg (fun h=>e0 (List.cons.inj h).1)]
 have:=key len 0 (by omega);rw[show(len - 0+1 - 1) / 1=len by simp,this]
 by_cases e0:l=m<;>simp[e0]
theorem ED{t e len:Nat}{ik:IntKind}(ht:P.underlying t=some (.array len e))(he:P.underlying e=some (.int ik))(hd:2≤P.depth):P.eqGuardType P.depth t=false:=by
 obtain⟨d,hd⟩:∃d,P.depth=d+2:=⟨P.depth - 2,by omega⟩
 rw[hd];simp[Program.eqGuardType,ht,he]
theorem Li{op:BinOp}{x y:ByteArray}{t:TypeId}{K:D→Prop}(h:qI op x y K):∃d v,K d∧D.rep c d v∧∀w,(binOp op t (.string x) (.string y)).run P w=.ok v w:=by
 unfold qI at h
 split at h
 ·refine⟨_,_,h.2,aV _,fun w=>?_⟩;have h1:=h.1;simp[binOp,Op.stringOp];have e:¬IntKind.i64.max<(x.size:Int)+(y.size:Int):=by
   have:IntKind.i64.max=9223372036854775807:=by decide
   omega
  simp[e];omega
 ·exact⟨_,_,h,aV _,fun w=>by simp[binOp,Op.stringOp,←toList_eq]⟩
 ·exact⟨_,_,h,aV _,fun w=>by simp[binOp,Op.stringOp,←toList_eq]⟩
 ·exact h.elim
def Res(W:Bs)(η:Env)(c:Cf)(k:Ks)(v:Value)(w':World):Prop:=
 ∃d rd e c' O',k d rd e∧c.le c'∧D.rep c' d v∧Hp c' O' (lk2 e η) w'∧Old W c' O' w'
where
 lk2:List (Nat×B)→Env→Env
  | [],η=>η
  | (b,x) :: l,η=>up (lk2 l η) b x
theorem p7:∀(e h:List (Nat×B)),lk (e++h)=Res.lk2 e (lk h)
 | [],h=>rfl
 | (b,x) :: l,h=>by
  rw[List.cons_append,bW,p7 l h];rfl
variable {W:Bs} {O:Nat→Nat→Prop} {η:Env} {k:Ks} {E:TE} {t:Nat}
theorem Res.val{d:D}{v:Value}{rd:List Nat}(hk:k d rd [])(hd:D.rep c d v)(hp:Hp c O η w)(ho:Old W c O w):Res W η c k v w:=
 ⟨d,rd,[],c,O,hk,Cf.le.refl c,hd,hp,ho⟩
theorem vy{w w':World}{S:Nat→Prop}(h:Below w.heap.size w w'):Chg w w' S:=⟨h.os,h.tape,h.output,h.size,fun b hb _=>h.block b hb⟩
theorem Res.Kj {w':World} {g t':Nat} {cs:List D} {vs:List Value} (hp:Hp c O η w) (ho:Old W c O w) (hs:Sl.St w [blk g vs t'] w') (hv:D.ah c cs vs) (h1:bZ vs=true)
  {rd:List Nat} (hk:k (.ptr t (nv η t) 0) rd [(t,.va (nv η t) t' cs)]):Res W η c k (.pointer (some ⟨g,0,none⟩)) w':=by
 have hfr:=hp.fresh t;have hle:c.le (c.add t (nv η t) (some ⟨g,0,none⟩,0,0)):=Cf.eT hfr;obtain⟨S1,s1,s2,_⟩:=hs.sep;have hc:Chg w w' (O t):=vy hs.below;refine⟨_,_,_,_,_,hk,hle,?_,hp.upd hc (fun g hg=>.inr (s1 g hg)) hle rfl rfl (hp.cF rfl) ⟨g,vs,Cf.cY,D.ah.le hle _ _ hv,h1,s2⟩,ho.upd hc (fun g hg=>.inr (s1 g hg)) rfl rfl⟩;unfold D.rep;exact⟨g,Cf.cY,rfl⟩
theorem Res.s4 {w':World} {A:Option Addr} {m k' e sz:Nat} {rows:List (List F)} {vr:List (List Value)} {rd:List Nat} (hp:Hp c O η w) (ho:Old W c O w) (hs:Sl.St w [own e sz A m k' vr] w') (hm:m=rows.length) (hv:F.aG c.Z c.R rows vr) (h1:∀r∈vr,bZ r=true)
  (hk:k (.own t (nv η t)) rd [(t,.ro (nv η t) e sz rows)]):Res W η c k (.slice A m k') w':=by
 subst hm;have hfr:=hp.fresh t;have hle:c.le (c.add t (nv η t) (A,rows.length,k')):=Cf.eT hfr;obtain⟨S1,s1,s2,_⟩:=hs.sep;have hc:Chg w w' (O t):=vy hs.below;refine⟨_,_,_,_,_,hk,hle,?_,hp.upd hc (fun g hg=>.inr (s1 g hg)) hle rfl rfl (hp.cF rfl) ⟨A,k',vr,Cf.cY,F.aG.ext hle.ext _ _ hv,h1,s2⟩,ho.upd hc (fun g hg=>.inr (s1 g hg)) rfl rfl⟩;unfold D.rep;exact⟨A,rows.length,k',Cf.cY,rfl⟩
end
section
variable {P:Program} {n:FD} {s:List (Nat×D)} {Γ:Nat→Option (List F)} {c:Cf} {a:Act} {w:World} {W:Bs} {O:Nat→Nat→Prop} {η:Env} {k:Ks} {E:TE} {t:Nat}
theorem rL{e sz m k':Nat}{A:Option Addr}{rows:List (List Value)}{S:Nat→Prop}(h:(own e sz A m k' rows).on S w):m≤k':=by
 rcases h.1.2 with ⟨hv,h0⟩|⟨g,cap,cur,hv,_,_,hr1,_⟩
 ·injection hv with _ _ hc;omega
 ·injection hv with _ _ hc;omega
theorem Ba{sz:Nat}{rows:List (List Value)}(h:∀r∈rows,r.length=sz)(l m j:Nat)(v:Value)(hj:((rows.drop l).take m).flatten[j]?=some v):rows.flatten[l * sz+j]?=some v:=by
 have e:rows.flatten=(rows.take l).flatten++(rows.drop l).flatten:=by rw[←List.flatten_append,List.take_append_drop]
 have hd:((rows.drop l).take m).flatten++((rows.drop l).drop m).flatten=(rows.drop l).flatten:=by rw[←List.flatten_append,List.take_append_drop]
 have hj2:(rows.drop l).flatten[j]?=some v:=by
  rw[←hd,List.getElem?_append_left (List.getElem?_eq_some_iff.1 hj).1];exact hj
 by_cases hl:l≤rows.length
 ·have hlen:(rows.take l).flatten.length=l * sz:=by
   rw[length_flatten (sz:=sz) (fun r hr=>h r (List.mem_of_mem_take hr)),List.length_take,Nat.min_eq_left hl]
  rw[e,List.getElem?_append_right (by omega),hlen,Nat.add_sub_cancel_left];exact hj2
 ·rw[List.drop_of_length_le (by omega)] at hj2;simp at hj2
theorem Arr.Kh{sz m c0 l h:Nat}{Z:Nat→Prop}{A:Option Addr}{rows:List (List Value)}(ha:Arr sz Z w A m rows)(hlh:l≤h)(hh:h≤m)(hc:m≤c0) :
  Arr sz Z w (if c0=l then A else A.map (·.add (l * sz))) (h - l) ((rows.take h).drop l):=by
 have hlen:=ha.1;refine⟨by rw[List.length_drop,List.length_take];omega,fun r hr=>ha.2.1 r (List.mem_of_mem_take (List.mem_of_mem_drop hr)),fun hpos=>?_⟩;obtain⟨ad,rfl,hS,hcell⟩:=ha.2.2 (by omega);have hne:¬c0=l:=by omega
 refine⟨ad.add (l * sz),by simp[hne],by rw[px];exact hS,fun j v hj=>?_⟩;rw[add_add];refine hcell _ v ?_;have e:(rows.take h).drop l=(rows.drop l).take (h - l):=by rw[List.drop_take]
 rw[e] at hj;exact Ba ha.2.1 l (h - l) j v hj
theorem Arr.vJ{sz m l h:Nat}{Z:Nat→Prop}{A A':Option Addr}{rows:List (List Value)}(ha:Arr sz Z w A m rows)(hlh:l≤h)(hh:h≤m)(hA:l<h→A'=A.map (·.add (l * sz))) :
  Arr sz Z w A' (h - l) ((rows.take h).drop l):=by
 have:=Arr.Kh (c0:=m+1) ha hlh hh (by omega);rw[if_neg (by omega)] at this
 by_cases e:l<h
 ·rw[hA e];exact this
 ·exact⟨this.1,this.2.1,fun hpos=>by omega⟩
def Zf(c:Cf)(O:Nat→Nat→Prop)(ids:List Nat):Nat→Prop:=fun g=>c.Z g∨∃b,b∈ids∧O b g
theorem Zf.ext(hp:Hp c O η w)(ids:List Nat):Ext c.Z c.R (Zf c O ids) w:=⟨fun g h=>.inl h,fun g h=>(hp.fz g h).2.1⟩
theorem fL{f:D→Option (F×List Nat)}{Z:Nat→Prop}{ids:List Nat}(hf:∀d x is u,f d=some (x,is)→(∀b∈is,b∈ids)→D.rep c d u→F.rep Z w x u) :
  ∀{cs:List D} {l:List F} {is:List Nat} {vs:List Value},cz f cs=some (l,is)→(∀b∈is,b∈ids)→D.ah c cs vs→F.ah Z w l vs
 | [],l,is,vs,h,_,hr=>by
  simp[cz] at h;unfold D.ah at hr;rw[h.1,hr];simp[F.ah]
 | x :: cs,l,is,vs,h,hi,hr=>by
  simp only[cz] at h
  split at h
  ·rename_i y i ys is' h1 h2
   cases h;unfold D.ah at hr;obtain⟨u,us,rfl,hu,hus⟩:=hr;unfold F.ah;exact⟨u,us,rfl,hf _ _ _ _ h1 (fun b hb=>hi b (by simp[hb])) hu,fL hf h2 (fun b hb=>hi b (by simp[hb])) hus⟩
  ·cases h
theorem F.AW{Z:Nat→Prop}{w:World}{x:F}{u:Value}(h:F.rep Z w x u):F.rep Z w x.nz u:=by
 unfold F.nz
 split
 ·unfold F.rep at h;subst h;unfold F.rep;exact⟨none,0,[],0,rfl,Nat.le_refl _,⟨rfl,by simp,fun h=>absurd h (by simp)⟩,by simp,by simp[F.aG]⟩
 ·exact h
theorem jR(hp:Hp c O η w)(ids:List Nat):∀(m:Nat) (d:D) (x:F) (is:List Nat) (u:Value),D.toF η m d=some (x,is)→(∀b∈is,b∈ids)→D.rep c d u→F.rep (Zf c O ids) w x u
 | 0,d,x,is,u,h,_,_=>by simp[D.toF] at h
 | m+1,d,x,is,u,h,hi,hr=>by
  have ih:=jR hp ids m;unfold D.toF at h
  split at h
  ·cases h;unfold D.rep at hr;exact F.AW (F.rep.ext (Zf.ext hp ids) _ _ hr)
  ·split at h
   ·rename_i l is' h1
    cases h;unfold D.rep at hr;obtain⟨vs,rfl,hvs⟩:=hr;unfold F.rep;exact⟨vs,rfl,fL ih h1 hi hvs⟩
   ·cases h
  ·split at h
   ·rename_i l is' h1
    cases h;unfold D.rep at hr;obtain⟨vs,rfl,hvs⟩:=hr;unfold F.rep;exact⟨vs,rfl,fL ih h1 hi hvs⟩
   ·cases h
  ·split at h
   ·rename_i l is' h1
    cases h;unfold D.rep at hr;obtain⟨vs,rfl,hvs⟩:=hr;unfold F.rep;exact⟨vs,rfl,fL ih h1 hi hvs⟩
   ·cases h
  ·rename_i b v o
   split at h
   ·rename_i v' bt cs hb
    cases hv:Nat.beq v v' with
    | false=>simp[hv] at h
    | true=>
     simp only[hv,cond_true] at h;have hv':=Nat.eq_of_beq_eq_true hv;subst hv'
     split at h
     ·rename_i l is' h1
      cases h;unfold D.rep at hr;obtain⟨g,hg,rfl⟩:=hr;obtain⟨g',vs,hg',hvs,hone,hblk⟩:=hp.pc b _ hb;rw[hg] at hg'
      cases hg';have hf:=fL ih h1 (fun b' hb'=>hi b' (by simp[hb'])) hvs;unfold F.rep;refine⟨⟨g,0,none⟩,[vs],by rw[add_lit];simp,⟨rfl,?_,fun _=>⟨_,rfl,.inr ⟨b,hi b (by simp),hblk.1⟩,fun j u hj=>?_⟩⟩,by simpa using hone,?_⟩
      ·intro r hr;simp at hr;subst hr;exact F.aW hf
      ·simp at hj;rw[add_lit,Nat.zero_add,cell_of_row w g j _ _ _ hblk.2];simpa using hj
      ·unfold F.aG;exact⟨vs,[],rfl,hf,by simp[F.aG]⟩
     ·cases h
   ·cases h
  ·rename_i b v
   split at h
   ·rename_i v' e sz rows hb
    cases hv:Nat.beq v v' with
    | false=>simp[hv] at h
    | true=>
     simp only[hv,cond_true] at h;have hv':=Nat.eq_of_beq_eq_true hv;subst hv'
     cases h;unfold D.rep at hr;obtain⟨A,m',k',hA,rfl⟩:=hr;obtain⟨A',k2,vr,hA',hvr,hone,hown⟩:=hp.pc b _ hb;rw[hA] at hA'
     cases hA';unfold F.rep;refine⟨A,k',vr,sz,rfl,rL hown,(own.arr hown).mono (fun g hg=>.inr ⟨b,hi b (by simp),hg⟩),hone,F.aG.ext (Zf.ext hp ids) _ _ hvr⟩
   ·cases h
  ·rename_i b v
   split at h
   ·rename_i v' rows hb
    cases hv:Nat.beq v v' with
    | false=>simp[hv] at h
    | true=>
     simp only[hv,cond_true] at h;have hv':=Nat.eq_of_beq_eq_true hv;subst hv'
     cases h;unfold D.rep at hr;obtain⟨g,hA,rfl⟩:=hr;obtain⟨g',es,clock,hA',hS,hw,hrr⟩:=hp.pc b _ hb;rw[hA] at hA'
     cases hA';unfold F.rep;exact⟨g,es,clock,rfl,.inr ⟨b,hi b (by simp),hS⟩,hw,F.aG.ext (Zf.ext hp ids) _ _ hrr⟩
   ·cases h
  ·rename_i b v sz lo hi' ex
   split at h
   ·rename_i v' e sz' rows hb
    cases hv:(Nat.beq v v'&&Nat.beq sz sz') with
    | false=>simp[hv] at h
    | true=>
     simp only[hv,cond_true] at h;rw[Bool.and_eq_true] at hv;have hv':=Nat.eq_of_beq_eq_true hv.1;have hs':=Nat.eq_of_beq_eq_true hv.2;subst hv';subst hs'
     cases h;unfold D.rep at hr;obtain⟨A,m',k',hA,h1,h2,h3,A2,rfl,hA2⟩:=hr;obtain⟨A',k2,vr,hA',hvr,hone,hown⟩:=hp.pc b _ hb;rw[hA] at hA'
     cases hA';have harr:Arr sz (Zf c O ids) w A rows.length vr:=(own.arr hown).mono (fun g hg=>.inr ⟨b,hi b (by simp),hg⟩);have harr':=Arr.vJ (A':=A2) harr h1 h2 (fun hlt=>hA2 (.inr (by cases ex<;>simp<;>omega)));have hrep:=F.aG.ext (Zf.ext hp ids) _ _ hvr;unfold F.rep;have hl:((rows.take hi').drop lo).length=hi' - lo:=by rw[List.length_drop,List.length_take,Nat.min_eq_left h2]
     refine⟨_,_,(vr.take hi').drop lo,sz,by rw[hl],?_,by rw[hl];exact harr',fun r hr=>hone r (List.mem_of_mem_take (List.mem_of_mem_drop hr)),F.dL _ (F.cT _ hrep)⟩;rw[hl]
     cases ex<;>simp<;>omega
   ·cases h
  ·rename_i rows
   cases h;unfold D.rep at hr;obtain⟨A,vr,sz,rfl,h2,h3,h4⟩:=hr;unfold F.rep;exact⟨A,_,vr,sz,rfl,Nat.le_refl _,(Zf.ext hp ids).arr h2,h3,F.aG.ext (Zf.ext hp ids) _ _ h4⟩
  ·cases h
  ·cases h
  ·cases h
def cfz(c:Cf)(O:Nat→Nat→Prop)(ids:List Nat)(w:World):Cf:=⟨c.ι,w,Zf c O ids⟩
def Ofz(O:Nat→Nat→Prop)(ids:List Nat):Nat→Nat→Prop:=fun b g=>b ∉ ids∧O b g
theorem pO(hp:Hp c O η w)(ids:List Nat):c.le (cfz c O ids w):=⟨fun _ _ _ h=>h,Zf.ext hp ids⟩
theorem aY(η η0:Env):∀(ids:List Nat) (b:Nat),(b ∉ ids→Res.lk2 (aS η ids) η0 b=η0 b)∧(b∈ids→∀x,η b=some x→Res.lk2 (aS η ids) η0 b=some (.gone x.ver))
 | [],b=>⟨fun _=>rfl,fun h=>by simp at h⟩
 | i :: l,b=>by
  obtain⟨h1,h2⟩:=aY η η0 l b
  by_cases e:i=b
  ·subst e;refine⟨fun h=>by simp at h,fun _ x hx=>?_⟩;simp only[aS,hx,Res.lk2];exact bj
  ·refine⟨fun h=>?_,fun h x hx=>?_⟩
   ·simp at h;unfold aS
    split
    ·simp only[Res.lk2];rw[aF e];exact h1 h.2
    ·exact h1 h.2
   ·have hm:b∈l:=by
     rcases List.mem_cons.1 h with h|h
     ·exact absurd h.symm e
     ·exact h
    unfold aS
    split
    ·simp only[Res.lk2];rw[aF e];exact h2 hm x hx
    ·exact h2 hm x hx
theorem Hp.fz_(hp:Hp c O η w)(ids:List Nat)(hids:∀b∈ids,∃x,η b=some x):Hp (cfz c O ids w) (Ofz O ids) (Res.lk2 (aS η ids) η) w:=by
 have hle:=pO hp ids;refine⟨fun b x hx=>?_,fun b v y hy=>?_,fun b b' g h h'=>hp.apart b b' g h.2 h'.2,fun g hg=>?_,fun b g h=>hp.lt b g h.2⟩
 ·by_cases hb:b∈ids
  ·obtain⟨x0,hx0⟩:=hids b hb;rw[(aY η η ids b).2 hb x0 hx0] at hx
   cases hx
   trivial
  ·rw[(aY η η ids b).1 hb] at hx;have e:Ofz O ids b=O b:=funext fun g=>propext ⟨fun h=>h.2,fun h=>⟨hb,h⟩⟩
   rw[e];exact(hp.pc b x hx).le hle (fun _ _=>rfl)
 ·obtain⟨x,hx,hv⟩:=hp.bound b v y hy
  by_cases hb:b∈ids
  ·exact⟨_,(aY η η ids b).2 hb x hx,hv⟩
  ·exact⟨x,by rw[(aY η η ids b).1 hb];exact hx,hv⟩
 ·rcases hg with hg|⟨b,hb,hg⟩
  ·obtain⟨h1,h2,h3⟩:=hp.fz g hg;exact⟨h1,rfl,fun b h=>h3 b h.2⟩
  ·exact⟨hp.lt b g hg,rfl,fun b' h=>h.1 (hp.apart b b' g hg h.2▸hb)⟩
theorem Old.fz_(hp:Hp c O η w)(ho:Old W c O w)(ids:List Nat):Old W (cfz c O ids w) (Ofz O ids) w:=by
 refine⟨ho.os,ho.tape,ho.output,ho.size,ho.b4,fun b g h=>ho.own b g h.2,fun g hg=>?_,ho.le.trans (Zf.ext hp ids)⟩;rcases hg with hg|⟨b,_,hg⟩
 ·exact ho.mW g hg
 ·exact .inr (ho.own b g hg)
theorem dC{f:D→Option (F×List Nat)}(hf:∀d x is,f d=some (x,is)→∀b∈is,∃x,η b=some x) :
  ∀{cs:List D} {l:List F} {is:List Nat},cz f cs=some (l,is)→∀b∈is,∃x,η b=some x
 | [],l,is,h,b,hb=>by simp[cz] at h;simp[h.2] at hb
 | x :: cs,l,is,h,b,hb=>by
  simp only[cz] at h
  split at h
  ·rename_i y i ys is' h1 h2
   cases h;rcases List.mem_append.1 hb with hb|hb
   ·exact hf _ _ _ h1 b hb
   ·exact dC hf h2 b hb
  ·cases h
theorem gG:∀(m:Nat) (d:D) (x:F) (is:List Nat),D.toF η m d=some (x,is)→∀b∈is,∃x,η b=some x
 | 0,d,x,is,h,b,hb=>by simp[D.toF] at h
 | m+1,d,x,is,h,b,hb=>by
  have ih:=gG m;unfold D.toF at h
  split at h
  ·cases h;simp at hb
  ·split at h
   ·rename_i h1;cases h;exact dC ih h1 b hb
   ·cases h
  ·split at h
   ·rename_i h1;cases h;exact dC ih h1 b hb
   ·cases h
  ·split at h
   ·rename_i h1;cases h;exact dC ih h1 b hb
   ·cases h
  ·rename_i b0 v0 o0
   split at h
   ·rename_i v' bt cs hb'
    cases hv:Nat.beq v0 v' with
    | false=>simp[hv] at h
    | true=>
     simp only[hv,cond_true] at h
     split at h
     ·rename_i l is' h1
      cases h;rcases List.mem_cons.1 hb with rfl|hb
      ·exact⟨_,hb'⟩
      ·exact dC ih h1 b hb
     ·cases h
   ·cases h
  ·rename_i b0 v0
   split at h
   ·rename_i v' e sz rows hb'
    cases hv:Nat.beq v0 v' with
    | false=>simp[hv] at h
    | true=>
     simp only[hv,cond_true] at h
     cases h;simp at hb;subst hb;exact⟨_,hb'⟩
   ·cases h
  ·rename_i b0 v0
   split at h
   ·rename_i v' rows hb'
    cases hv:Nat.beq v0 v' with
    | false=>simp[hv] at h
    | true=>
     simp only[hv,cond_true] at h
     cases h;simp at hb;subst hb;exact⟨_,hb'⟩
   ·cases h
  ·rename_i b0 v0 sz0 lo0 hi0 ex0
   split at h
   ·rename_i v' e sz rows hb'
    cases hv:(Nat.beq v0 v'&&Nat.beq sz0 sz) with
    | false=>simp[hv] at h
    | true=>
     simp only[hv,cond_true] at h
     cases h;simp at hb;subst hb;exact⟨_,hb'⟩
   ·cases h
  ·cases h;simp at hb
  ·cases h
  ·cases h
  ·cases h
theorem yu{u:Value}(h:u.oneCell'=true):u.cells=#[u]:=by
 cases u<;>simp[Value.oneCell',Value.cells] at *
theorem F.pd{x:F}{u:Value}{Z:Nat→Prop}{w:World}(h:F.rep Z w x u)(h1:x.one=true):u.oneCell'=true:=by
 cases x<;>simp[F.one] at h1<;>unfold F.rep at h
 ·rw[h];exact h1
 ·obtain⟨A,c,vr,sz,rfl,_⟩:=h;rfl
 ·obtain⟨A,vr,rfl,_⟩:=h;rfl
 ·obtain⟨vs,rfl,_⟩:=h;rfl
 ·obtain⟨g,es,k,rfl,_⟩:=h;rfl
theorem D.pd{d:D}{u:Value}(h:D.rep c d u)(h1:d.one=true):u.oneCell'=true:=by
 cases d<;>simp[D.one] at h1<;>unfold D.rep at h
 ·exact F.pd h h1
 ·obtain⟨vs,rfl,_⟩:=h;rfl
 ·obtain⟨g,_,rfl⟩:=h;rfl
 ·obtain⟨A,m,k',_,rfl⟩:=h;rfl
 ·obtain⟨A,m,k',_,rfl⟩:=h;rfl
 ·obtain⟨g,_,rfl⟩:=h;rfl
 ·obtain⟨g,_,rfl⟩:=h;rfl
 ·obtain⟨A,m,k',_,_,_,_,A',rfl,_⟩:=h;rfl
 ·obtain⟨A,vr,sz,rfl,_⟩:=h;rfl
 ·obtain⟨us,vs,rfl,_⟩:=h;rfl
theorem D.eQ:∀{l:List D} {vs:List Value},D.ah c l vs→l.all D.one=true→bZ vs=true
 | [],vs,h,_=>by unfold D.ah at h;subst h;rfl
 | x :: l,vs,h,h1=>by
  unfold D.ah at h;obtain⟨u,us,rfl,hu,hus⟩:=h;simp only[List.all_cons,Bool.and_eq_true] at h1;have h2:=D.eQ hus h1.2;unfold bZ at h2 ⊢;rw[List.all_cons,D.pd hu h1.1,h2];rfl
theorem F.eQ{Z:Nat→Prop}{w:World}:∀{l:List F} {vs:List Value},F.ah Z w l vs→l.all F.one=true→bZ vs=true
 | [],vs,h,_=>by unfold F.ah at h;subst h;rfl
 | x :: l,vs,h,h1=>by
  unfold F.ah at h;obtain⟨u,us,rfl,hu,hus⟩:=h;simp only[List.all_cons,Bool.and_eq_true] at h1;have h2:=F.eQ hus h1.2;unfold bZ at h2 ⊢;rw[List.all_cons,F.pd hu h1.1,h2];rfl
theorem D.qn{d:D}{u:Value}(h:D.rep c d u)(h1:d.cells.all D.one=true):∃vs:List Value,u.cells=vs.toArray∧D.ah c d.cells vs∧bZ vs=true:=by
 have key:d.cells=[d]→∃vs:List Value,u.cells=vs.toArray∧D.ah c d.cells vs∧bZ vs=true:=by
  intro hd;rw[hd] at h1 ⊢;have hr:D.ah c [d] [u]:=by
   unfold D.ah;exact⟨u,[],rfl,h,by simp[D.ah]⟩
  refine⟨[u],?_,hr,D.eQ hr h1⟩;simp at h1;exact yu (D.pd h h1)
 unfold D.cells at h1 ⊢
 split at h1
 ·unfold D.rep at h;obtain⟨vs,rfl,hvs⟩:=h;exact⟨vs,rfl,hvs,D.eQ hvs h1⟩
 ·unfold D.rep F.rep at h;obtain⟨vs,rfl,hvs⟩:=h;exact⟨vs,rfl,D.eL hvs,D.eQ (D.eL hvs) h1⟩
 ·rename_i h2 h3;have hd:d.cells=[d]:=by
   unfold D.cells
   split
   ·exact absurd rfl (h2 _)
   ·exact absurd rfl (h3 _)
   ·rfl
  have:=key hd;rw[hd] at this;exact this
end
theorem aw.av{P:Program}{o:Oper}{a:Act}{w w':World}{v:Value}{F:Value→World→Prop}(h:(execOp a.eval o).run P w=.ok (.value v) w')(hF:F v w'):aw P o a w F:=by
 unfold aw;rw[h];exact hF
theorem aw.rD{P:Program}{o:Oper}{a:Act}{w w':World}{F:Value→World→Prop}(h:(execOp a.eval o).run P w=.ok .skip w')(hF:F undef w'):aw P o a w F:=by
 unfold aw;rw[h];exact hF
theorem aw.wR {P:Program} {o:Oper} {a:Act} {w w':World} {f:FuncId} {args:Array Value} {F:Value→World→Prop} (h:(execOp a.eval o).run P w=.ok (.enter f args) w')
  (hF:Calls P f args w' (fun e w''=>∃v,e=.returned v∧F v w'')):aw P o a w F:=by
 unfold aw;rw[h];exact hF
theorem TOk.ldA{P:Program}{t:Nat}{i:TI}(h:TOk P t i)(ha:i.k.agg=true):LN P t i.sz:=by
 have:=h.ld;rw[ha] at this;exact this
theorem TOk.ld1{P:Program}{t:Nat}{i:TI}(h:TOk P t i)(ha:i.k.agg=false):L1 P t:=by
 have:=h.ld;rw[ha] at this;exact this
theorem uv{a b c d:Nat}(h:(Nat.beq a b&&Nat.beq c d)=true):a=b∧c=d:=by
 rw[Bool.and_eq_true] at h;exact⟨Nat.eq_of_beq_eq_true h.1,Nat.eq_of_beq_eq_true h.2⟩
theorem bo{b:Bool}{X:Prop}(h:bif b then X else False):b=true∧X:=by
 cases b with
 | true=>exact⟨rfl,h⟩
 | false=>exact h.elim
section
variable {P:Program} {n:FD} {s:List (Nat×D)} {Γ:Nat→Option (List F)} {c:Cf} {a:Act} {w:World} {W:Bs} {O:Nat→Nat→Prop} {η:Env} {k:Ks} {E:TE} {t:Nat} {o:Oper}
theorem run_load{x:Operand}{t':Nat}{i:TI}{p:Addr}{vs:List Value}{q:Nat}(hi:TOk P t' i)(ho:o.op=.load t' x)(hx:a.eval x=.pointer (some p))(hc:∀j v,vs[q+j]?=some v→w.cell? (p.add j)=some v) :
  (i.k.agg=true→q+i.sz≤vs.length→(execOp a.eval o).run P w=.ok (.value (.agg ((vs.drop q).take i.sz).toArray)) w)∧(i.k.agg=false→∀v,vs[q]?=some v→(execOp a.eval o).run P w=.ok (.value v) w):=by
 refine⟨fun ha hl=>?_,fun ha v hv=>?_⟩
 ·have h1:=(hi.ldA ha).run p w ((vs.drop q).take i.sz) (by simp;omega) (fun j v hj=>by
   rw[List.getElem?_take] at hj
   split at hj
   ·rw[List.getElem?_drop] at hj;exact hc j v hj
   ·cases hj)
  simp[execOp,ho,hx,Instr.loadAt,Instr.sureAddr,h1]
 ·have hv':=hc 0 v (by simpa using hv);have e:p.add 0=p:=by simp[Addr.add]
  rw[e] at hv';have h1:=(hi.ld1 ha).run p w v hv';simp[execOp,ho,hx,Instr.loadAt,Instr.sureAddr,h1]
theorem IH{x:Operand}{t':Nat}{d:D}(hE:∀t i,E t=some i→TOk P t i)(hp:Hp c O η w)(hold:Old W c O w)(ho:o.op=.load t' x)(hd:D.rep c d (a.eval x))(h:eJ E η t' d k):aw P o a w (Res W η c k):=by
 unfold eJ at h
 split at h
 ·rename_i b v q i hi;have hi:=hE _ _ hi
  split at h
  ·rename_i v' bt cs hb
   replace h:=bo h
   obtain⟨hv,h⟩:=h;have hv:=Nat.eq_of_beq_eq_true hv;subst hv;unfold D.rep at hd;obtain⟨g,hg,hx⟩:=hd;obtain⟨g',vs,hg',hvs,hone,hblk⟩:=hp.pc b _ hb;rw[hg] at hg'
   cases hg';have hr:=run_load (P:=P) (w:=w) (q:=q) (vs:=vs) hi ho hx (fun j v hj=>by
    rw[add_lit,cell_of_row w g _ _ _ _ hblk.2];simpa using hj)
   have hlen:=D.aW hvs
   cases ha:i.k.agg with
   | true=>
    rw[ha] at h;refine aw.av (hr.1 ha (by rw[hlen];exact h.1)) (Res.val h.2 ?_ hp hold);unfold D.rep;exact⟨_,rfl,D.cX _ (D.cW _ hvs)⟩
   | false=>
    rw[ha] at h;obtain⟨d,hd,h⟩:=h;obtain⟨u,hu,hdu⟩:=D.bT hvs hd;exact aw.av (hr.2 ha u hu) (Res.val h hdu hp hold)
  ·exact h.elim
 ·rename_i b v sz j q i hi;have hi:=hE _ _ hi
  split at h
  ·rename_i v' e sz' rows hb
   replace h:=bo h
   obtain⟨hv,h⟩:=h;obtain⟨hv,hsz⟩:=uv hv;subst hv;subst hsz;obtain⟨r,hrow,h⟩:=h;unfold D.rep at hd;obtain⟨A,m,k',hA,hx⟩:=hd;obtain⟨A',k2,vr,hA',hvr,hone,hown⟩:=hp.pc b _ hb;rw[hA] at hA'
   cases hA';obtain⟨rv,hrv,hrr⟩:=F.eR hvr hrow;have harr:=own.arr hown;have hr:=run_load (P:=P) (w:=w) (q:=q) (vs:=rv) hi ho hx (fun i v hi=>by
    rw[add_add];have:=harr.cell (i:=j) (j:=q+i) hrv hi;simpa [Nat.add_assoc] using this)
   have hlen:=F.aW hrr;have hrr':D.ah c (r.map .fr) rv:=D.eL (F.ah.ext (Ext.refl _ _) _ _ hrr)
   cases ha:i.k.agg with
   | true=>
    rw[ha] at h;refine aw.av (hr.1 ha (by rw[hlen];exact h.1)) (Res.val h.2 ?_ hp hold);unfold D.rep;exact⟨_,rfl,D.eL (F.cX _ (F.cW _ hrr))⟩
   | false=>
    rw[ha] at h;obtain⟨d,hd,h⟩:=h;obtain⟨u,hu,hdu⟩:=F.bT hrr hd;exact aw.av (hr.2 ha u hu) (Res.val h (by unfold D.rep;exact hdu) hp hold)
  ·exact h.elim
 ·rename_i sz rows j q i hi;have hi:=hE _ _ hi;obtain⟨r,hrow,h⟩:=h;unfold D.rep F.rep at hd;obtain⟨A,vr,hx,harr0,hone,hvr⟩:=hd;have harr:Arr sz c.Z w (some A) rows.length vr:=harr0.loc (fun g hg=>(hp.fz g hg).2.1);obtain⟨rv,hrv,hrr⟩:=F.eR hvr hrow;have hr:=run_load (P:=P) (w:=w) (q:=q) (vs:=rv) hi ho hx (fun i v hi=>by
   rw[add_add];have:=harr.cell (i:=j) (j:=q+i) hrv hi;simpa [Nat.add_assoc] using this)
  have hlen:=F.aW hrr
  cases ha:i.k.agg with
  | true=>
   rw[ha] at h;refine aw.av (hr.1 ha (by rw[hlen];exact h.1)) (Res.val h.2 ?_ hp hold);unfold D.rep;exact⟨_,rfl,D.eL (F.cX _ (F.cW _ hrr))⟩
  | false=>
   rw[ha] at h;obtain⟨d,hd,h⟩:=h;obtain⟨u,hu,hdu⟩:=F.bT hrr hd;exact aw.av (hr.2 ha u hu) (Res.val h (by unfold D.rep;exact hdu) hp hold)
 ·exact h.elim
theorem tq{f:D→Option (F×List Nat)}:∀{cs:List D} {l:List F} {is:List Nat},cz f cs=some (l,is)→l.length=cs.length
 | [],l,is,h=>by simp[cz] at h;simp[h.1]
 | x :: cs,l,is,h=>by
  simp only[cz] at h
  split at h
  ·rename_i y i ys is' h1 h2
   cases h;simp[tq h2]
  ·cases h
theorem yp{d:D}{u:Value}{fs:List F}{is:List Nat}(hp:Hp c O η w)(ids:List Nat)(hd:D.rep c d u)(hm:cz (D.toF η 4) d.cells=some (fs,is))(hi:∀b∈is,b∈ids)(h1:fs.all F.one=true) :
  ∃ys:List Value,u.cells=ys.toArray∧F.ah (Zf c O ids) w fs ys∧bZ ys=true:=by
 have key:∀vs:List Value,u.cells=vs.toArray→D.ah c d.cells vs→∃ys:List Value,u.cells=ys.toArray∧F.ah (Zf c O ids) w fs ys∧bZ ys=true:=by
  intro vs e1 hvs;have:=fL (jR hp ids 4) hm hi hvs;exact⟨vs,e1,this,F.eQ this h1⟩
 by_cases q1:∃cs,d=.ag cs
 ·obtain⟨cs,rfl⟩:=q1;unfold D.rep at hd;obtain⟨vs,rfl,hvs⟩:=hd;exact key vs rfl hvs
 ·by_cases q2:∃cs,d=.fr (.ag cs)
  ·obtain⟨cs,rfl⟩:=q2;unfold D.rep F.rep at hd;obtain⟨vs,rfl,hvs⟩:=hd;exact key vs rfl (D.eL hvs)
  ·have e0:d.cells=[d]:=by
    unfold D.cells
    split
    ·exact absurd ⟨_,rfl⟩ q1
    ·exact absurd ⟨_,rfl⟩ q2
    ·rfl
   have hvs:D.ah c d.cells [u]:=by
    rw[e0];unfold D.ah;exact⟨u,[],rfl,hd,by simp[D.ah]⟩
   have hf:=fL (jR hp ids 4) hm hi hvs;have ho:=F.eQ hf h1;refine key [u] ?_ hvs;unfold bZ at ho;simp at ho;exact yu ho
theorem oq:∀{cs:List D} (q:Nat) {ds:List D},q+ds.length≤cs.length→setAt cs q ds=cs.take q++ds++cs.drop (q+ds.length)
 | cs,q,[],h=>by cases cs<;>simp[setAt]
 | [],q,d :: ds,h=>by simp at h
 | x :: cs,0,d :: ds,h=>by
  simp only[setAt];rw[oq 0 (by simpa using h)];simp
 | x :: cs,q+1,d :: ds,h=>by
  simp only[setAt];rw[oq q (by simp at h ⊢;omega)];simp[Nat.add_right_comm q 1]
theorem pC:∀{cs:List F} (q:Nat) {ds:List F},q+ds.length≤cs.length→setAt cs q ds=cs.take q++ds++cs.drop (q+ds.length)
 | cs,q,[],h=>by cases cs<;>simp[setAt]
 | [],q,d :: ds,h=>by simp at h
 | x :: cs,0,d :: ds,h=>by
  simp only[setAt];rw[pC 0 (by simpa using h)];simp
 | x :: cs,q+1,d :: ds,h=>by
  simp only[setAt];rw[pC q (by simp at h ⊢;omega)];simp[Nat.add_right_comm q 1]
theorem Hb{x y:Operand}{t':Nat}{d d':D}(hE:∀t i,E t=some i→TOk P t i)(hp:Hp c O η w)(hold:Old W c O w)(ho:o.op=.store t' x y)(hd:D.rep c d (a.eval x))(hd':D.rep c d' (a.eval y))(h:fG E η t' d d' k):aw P o a w (Res W η c k):=by
 unfold fG at h
 split at h
 ·rename_i b v q i hi;have hi:=hE _ _ hi
  split at h
  ·rename_i v' bt cs hb
   replace h:=bo h
   obtain⟨hv,h⟩:=h;obtain⟨hv,hlen⟩:=uv hv;subst hv;obtain⟨h1,h2,h0,hk⟩:=h;unfold D.rep at hd;obtain⟨g,hg,hx⟩:=hd;obtain⟨g',vs,hg',hvs,hone,hblk⟩:=hp.pc b _ hb;rw[hg] at hg'
   cases hg';obtain⟨ys,hy,hyr,hyo⟩:=D.qn hd' h1;have hyl:ys.length=i.sz:=(D.aW hyr).trans hlen;have hvl:=D.aW hvs;obtain⟨inf,hi1,hi2⟩:=hi.sz.info;have hst:=run_storeCells_at P g q bt ys 0 vs.toArray w hblk.2 (by simp;omega) (gM hyo);simp only[Nat.add_zero] at hst;have hc:Chg w (w.setRow g (bA vs q ys).toArray) (O b):=jI hblk.1;have hset:setAt cs q d'.cells=cs.take q++d'.cells++cs.drop (q+d'.cells.length):=oq q (by omega);have hrep:D.ah c (setAt cs q d'.cells) (bA vs q ys):=by
    rw[hset];unfold bA;rw[hyl,←hlen];exact D.bJ (D.bJ (D.cX _ hvs) hyr) (D.cW _ hvs)
   have hson:bZ (bA vs q ys)=true:=by
    unfold bZ bA at *;rw[List.all_append,List.all_append,hyo];simp only[Bool.and_true,Bool.and_eq_true,List.all_eq_true] at *;exact⟨fun x hx=>hone x (List.mem_of_mem_take hx),fun x hx=>hone x (List.mem_of_mem_drop hx)⟩
   have hsub:∀g',O b g'→O b g'∨(w.heap.size≤g'∧g'<(w.setRow g (bA vs q ys).toArray).heap.size):=fun _ h=>.inl h
   refine aw.rD (w':=w.setRow g (bA vs q ys).toArray) ?_ ⟨_,_,_,c,_,hk,Cf.le.refl c,aV _,hp.upd hc hsub (Cf.le.refl c) rfl rfl (hp.cq hb rfl) ⟨g,_,hg,hrep,hson,hblk.1,setRow_heap w g vs.toArray _ bt (0,0) hblk.2⟩,hold.upd hc hsub rfl rfl⟩;have:(storeCells ⟨g,q,none⟩ ys).run P w=.ok () (w.setRow g (bA vs q ys).toArray):=by
    unfold bA;simpa using hst
   simp[execOp,ho,hx,Instr.storeAt,Instr.sureAddr,storeVar,sizeOf,typeInfo,hi1,hi2,hy,hyl,this]
  ·exact h.elim
 ·rename_i b v sz j q i hi;have hi:=hE _ _ hi
  split at h
  ·rename_i v' e sz' rows hb
   replace h:=bo h
   obtain⟨hv,h⟩:=h;rw[Bool.and_eq_true] at hv;obtain⟨hv,hlen⟩:=hv;obtain⟨hv,hsz⟩:=uv hv;have hlen:=Nat.eq_of_beq_eq_true hlen;subst hv;subst hsz;obtain⟨r,hrow,h⟩:=h
   split at h
   ·rename_i fs is hm;obtain⟨h1,h2,h0,hnb,hk⟩:=h;have hnb:b ∉ is:=by simpa using hnb
    unfold D.rep at hd;obtain⟨A,m,k',hA,hx⟩:=hd;have hids:∀b∈is,∃x,η b=some x:=dC (gG 4) hm;have hle:=pO hp is;have hp1:=hp.fz_ is hids;have hold1:=hold.fz_ hp is;have hb1:Res.lk2 (aS η is) η b=some (.ro v e sz rows):=by rw[(aY η η is b).1 hnb];exact hb
    obtain⟨A',k2,vr,hA',hvr,hone,hown⟩:=hp1.pc b _ hb1;rw[hle.ι _ _ _ hA] at hA'
    cases hA';obtain⟨rv,hrv,hrr⟩:=F.eR hvr hrow;obtain⟨ys,hy,hyr,hyo⟩:=yp hp is hd' hm (fun b h=>h) h1;have hfl:fs.length=d'.cells.length:=tq hm;have hyl:ys.length=i.sz:=(F.aW hyr).trans (hfl.trans hlen);have hrl:=F.aW hrr;have hrsz:rv.length=sz:=hown.2.2.1 rv (List.mem_of_getElem? hrv);obtain⟨inf,hi1,hi2⟩:=hi.sz.info;obtain⟨w',hst,hc,hown'⟩:=own.store (P:=P) hown hrv (o:=q) (vs:=ys) (by omega) hyo (by omega);have hset:setAt r q fs=r.take q++fs++r.drop (q+fs.length):=pC q (by omega);have hrep:F.aG (cfz c O is w).Z (cfz c O is w).R (rows.set j (setAt r q fs)) (vr.set j (bA rv q ys)):=by
     refine F.sM j hvr ?_;rw[hset];unfold bA;rw[hyl,←hlen,←hfl];exact F.bJ (F.bJ (F.cX _ hrr) hyr) (F.cW _ hrr)
    have hson:bZ (bA rv q ys)=true:=by
     have h3:=hone rv (List.mem_of_getElem? hrv);unfold bZ bA at *;rw[List.all_append,List.all_append,hyo];simp only[Bool.and_true,Bool.and_eq_true,List.all_eq_true] at *;exact⟨fun x hx=>h3 x (List.mem_of_mem_take hx),fun x hx=>h3 x (List.mem_of_mem_drop hx)⟩
    have hsub:∀g',Ofz O is b g'→Ofz O is b g'∨(w.heap.size≤g'∧g'<w'.heap.size):=fun _ h=>.inl h
    have hlen2:(rows.set j (setAt r q fs)).length=rows.length:=by simp
    refine aw.rD (w':=w') ?_ ⟨_,_,_,_,_,hk,hle,aV _,hp1.upd hc hsub (Cf.le.refl _) rfl rfl (hp1.cq hb1 rfl) ⟨some A,k',_,by rw[hlen2];exact hle.ι _ _ _ hA,hrep,?_,by rw[hlen2];exact hown'⟩,hold1.upd hc hsub rfl rfl⟩
    ·simp only[Option.getD_some] at hst;simp[execOp,ho,hx,Instr.storeAt,Instr.sureAddr,storeVar,sizeOf,typeInfo,hi1,hi2,hy,hyl,hst]
    ·intro r' hr';rcases List.mem_or_eq_of_mem_set hr' with h4|rfl
     ·exact hone r' h4
     ·exact hson
   ·exact h.elim
  ·exact h.elim
 ·exact h.elim
end
section
variable {P:Program} {n:FD} {s:List (Nat×D)} {Γ:Nat→Option (List F)} {c:Cf} {a:Act} {w:World} {W:Bs} {O:Nat→Nat→Prop} {η:Env} {k:Ks} {E:TE} {t:Nat} {o:Oper}
theorem wB{x:Operand}{t' j:Nat}{d:D}(hE:∀t i,E t=some i→TOk P t i)(hp:Hp c O η w)(hold:Old W c O w)(ho:o.op=.fieldAddr t' x j)(hd:D.rep c d (a.eval x))(h:bS E t' d j k):aw P o a w (Res W η c k):=by
 unfold bS at h
 split at h
 ·rename_i sz z fs hi;have hk:=(hE _ _ hi).k;simp only at hk
  split at h
  ·rename_i o' s' g hj
   replace h:=bo h
   obtain⟨h0,h⟩:=h;have hf:=(hk.1 j o' s' g hj).1 (bD h0)
   split at h
   ·rename_i b v q;unfold D.rep at hd;obtain⟨g,hg,hx⟩:=hd;refine aw.av (v:=.pointer (some ⟨g,q+o',none⟩)) ?_ (Res.val h (by unfold D.rep;exact⟨g,hg,rfl⟩) hp hold);simp[execOp,ho,hx,hf.run,add_lit]
   ·rename_i b v sz i q;unfold D.rep at hd;obtain⟨A,m,k',hA,hx⟩:=hd;refine aw.av (v:=.pointer (some (A.add (i * sz+(q+o'))))) ?_ (Res.val h (by unfold D.rep;exact⟨A,m,k',hA,rfl⟩) hp hold);simp[execOp,ho,hx,hf.run,add_add,Nat.add_assoc]
   ·rename_i sz rows i q;unfold D.rep F.rep at hd;obtain⟨A,vr,hx,h1,h2,h3⟩:=hd;refine aw.av (v:=.pointer (some (A.add (i * sz+(q+o'))))) ?_ (Res.val h (by unfold D.rep F.rep;exact⟨A,vr,rfl,h1,h2,h3⟩) hp hold);simp[execOp,ho,hx,hf.run,add_add,Nat.add_assoc]
   ·exact h.elim
  ·exact h.elim
 ·exact h.elim
theorem Hf{x:Operand}{t' j:Nat}{d:D}(hE:∀t i,E t=some i→TOk P t i)(hp:Hp c O η w)(hold:Old W c O w)(ho:o.op=.field t' x j)(hd:D.rep c d (a.eval x))(h:ep E t' d j k):aw P o a w (Res W η c k):=by
 have core:∀(cs:List D) (o' s':Nat) (g:Bool),FX P t' j o' s' g→(∃vs:List Value,a.eval x=.agg vs.toArray∧D.ah c cs vs)→
   (bif g then k (.ag ((cs.drop o').take s')) [] [] else ∃d,cs[o']?=some d∧k d [] [])→aw P o a w (Res W η c k):=by
  intro cs o' s' g hf ⟨vs,hx,hvs⟩ h
  cases g with
  | true=>
   simp only[cond_true] at h;refine aw.av (v:=.agg ((vs.drop o').take s').toArray) ?_ (Res.val h (by unfold D.rep;exact⟨_,rfl,D.cX _ (D.cW _ hvs)⟩) hp hold);have:=hf vs.toArray w;have e:vs.toArray.extract o' (o'+s')=((vs.drop o').take s').toArray:=by
    apply Array.ext';simp[List.extract_eq_take_drop]
   rw[e] at this;simp[execOp,ho,hx,this]
  | false=>
   simp only[cond_false] at h;obtain⟨d,hd,h⟩:=h;obtain⟨u,hu,hdu⟩:=D.bT hvs hd;have:=hf vs.toArray u w (by simpa using hu);refine aw.av (v:=u) ?_ (Res.val h hdu hp hold);simp[execOp,ho,hx,this]
 unfold ep at h
 split at h
 ·rename_i sz z fs hi;have hk:=(hE _ _ hi).k;simp only at hk
  split at h
  ·rename_i o' s' g cs hj
   replace h:=bo h
   have hf:=(hk.1 j o' s' g hj).2;unfold D.rep at hd;exact core cs o' s' g hf hd h.2
  ·rename_i o' s' g cs hj
   replace h:=bo h
   have hf:=(hk.1 j o' s' g hj).2;unfold D.rep F.rep at hd;obtain⟨vs,hx,hvs⟩:=hd;refine core (cs.map .fr) o' s' g hf ⟨vs,hx,D.eL hvs⟩ ?_;have h2:=h.2
   cases g with
   | true=>
    simp only[cond_true] at h2 ⊢
    rwa [←List.map_drop,←List.map_take]
   | false=>
    simp only[cond_false] at h2 ⊢;obtain⟨d,hd,h2⟩:=h2;exact⟨.fr d,by simp[hd],h2⟩
  ·exact h.elim
 ·exact h.elim
theorem wU{x y:Operand}{t':Nat}{d d':D}(hE:∀t i,E t=some i→TOk P t i)(hp:Hp c O η w)(hold:Old W c O w)(ho:o.op=.indexAddr t' x y)(hd:D.rep c d (a.eval x))(hd':D.rep c d' (a.eval y))(h:bn E η t' d d' k):aw P o a w (Res W η c k):=by
 unfold bn at h
 split at h
 ·rename_i ik m;have hy:=aH hd'
  split at h
  ·rename_i sz0 z0 e sz by_ hi;have hk:=(hE _ _ hi).k;simp only at hk;obtain⟨z,ht⟩:=hk;obtain⟨inf,g1,g2,g3,g4⟩:=ht.info
   split at h
   ·rename_i b v
    split at h
    ·rename_i v' e' sz' rows hb
     replace h:=bo h
     obtain⟨hv,hsz⟩:=uv h.1;subst hv;subst hsz;obtain⟨i,rfl,hlt,h⟩:=h.2;unfold D.rep at hd;obtain⟨A,m,k',hA,hx⟩:=hd;obtain⟨A',k2,vr,hA',hvr,hone,hown⟩:=hp.pc b _ hb;rw[hA] at hA'
     cases hA';have hs:=(own.arr hown).some_ (by omega)
     cases A with
     | none=>simp at hs
     | some A=>
      refine aw.av (v:=.pointer (some (A.add (i * sz)))) ?_ (Res.val h (by unfold D.rep;exact⟨A,_,k',hA,by simp⟩) hp hold);simp[execOp,ho,hx,hy,Instr.indexAt,asIntOf,run_underlying ht.und,sizeOf,typeInfo,g1,g3,hlt]
    ·exact h.elim
   ·rename_i rows;obtain⟨i,rfl,r,hr,hrl,h⟩:=h;have hlt:i<rows.length:=(List.getElem?_eq_some_iff.1 hr).1;unfold D.rep F.rep at hd;obtain⟨A,c',vr,sz',hx,hcap,harr,hone,hvr⟩:=hd;obtain⟨rv,hrv,hrr⟩:=F.eR hvr hr;have hszz:sz'=sz:=by
     rw[←hrl,←F.aW hrr];exact(harr.2.1 rv (List.mem_of_getElem? hrv)).symm
    subst hszz;have hs:=harr.some_ (by omega)
    cases A with
    | none=>simp at hs
    | some A=>
     refine aw.av (v:=.pointer (some (A.add (i * sz')))) ?_ (Res.val h (by unfold D.rep F.rep;exact⟨A,vr,by simp,harr,hone,hvr⟩) hp hold);simp[execOp,ho,hx,hy,Instr.indexAt,asIntOf,run_underlying ht.und,sizeOf,typeInfo,g1,g3,hlt]
   ·exact h.elim
  ·rename_i sz0 z0 len e sz hi;have hk:=(hE _ _ hi).k;simp only at hk;have ht:=hk.1;obtain⟨inf,g1,g2⟩:=ht.info
   split at h
   ·rename_i b v q;obtain⟨i,rfl,hlt,h⟩:=h;unfold D.rep at hd;obtain⟨g,hg,hx⟩:=hd;refine aw.av (v:=.pointer (some ⟨g,q+i * sz,none⟩)) ?_ (Res.val h (by unfold D.rep;exact⟨g,hg,rfl⟩) hp hold);simp[execOp,ho,hx,hy,Instr.indexAt,Instr.sureAddr,asIntOf,run_underlying ht.und,sizeOf,typeInfo,g1,g2,hlt,add_lit]
   ·rename_i b v sz' j q;obtain⟨i,rfl,hlt,h⟩:=h;unfold D.rep at hd;obtain⟨A,m,k',hA,hx⟩:=hd;refine aw.av (v:=.pointer (some (A.add (j * sz'+(q+i * sz))))) ?_ (Res.val h (by unfold D.rep;exact⟨A,m,k',hA,rfl⟩) hp hold);simp[execOp,ho,hx,hy,Instr.indexAt,Instr.sureAddr,asIntOf,run_underlying ht.und,sizeOf,typeInfo,g1,g2,hlt,add_add,Nat.add_assoc]
   ·rename_i sz' rows j q;obtain⟨i,rfl,hlt,h⟩:=h;unfold D.rep F.rep at hd;obtain⟨A,vr,hx,h1,h2,h3⟩:=hd;refine aw.av (v:=.pointer (some (A.add (j * sz'+(q+i * sz))))) ?_ (Res.val h (by unfold D.rep F.rep;exact⟨A,vr,rfl,h1,h2,h3⟩) hp hold);simp[execOp,ho,hx,hy,Instr.indexAt,Instr.sureAddr,asIntOf,run_underlying ht.und,sizeOf,typeInfo,g1,g2,hlt,add_add,Nat.add_assoc]
   ·exact h.elim
  ·exact h.elim
 ·exact h.elim
theorem Ft{x y:Operand}{t':Nat}{d d':D}(hE:∀t i,E t=some i→TOk P t i)(hp:Hp c O η w)(hold:Old W c O w)(ho:o.op=.index t' x y)(hd:D.rep c d (a.eval x))(hd':D.rep c d' (a.eval y))(h:gJ E t' d d' k):aw P o a w (Res W η c k):=by
 unfold gJ at h
 split at h
 ·rename_i ik m;have hy:=aH hd'
  split at h
  ·rename_i sz0 z0 b hi;have ht:=(hE _ _ hi).k;simp only at ht;have hx:=aH hd;obtain⟨i,rfl,u,hu,h⟩:=h;refine aw.av (v:=.int .u8 u.toNat) ?_ (Res.val h (aV _) hp hold);have hu':b[i]?=some u:=hu;simp[execOp,ho,hx,hy,Instr.index,asIntOf,run_underlying ht.eq,hu']
  ·exact h.elim
 ·exact h.elim
theorem Ad{x:Operand}{j:Nat}{d:D}(hp:Hp c O η w)(hold:Old W c O w)(ho:o.op=.extract x j)(hd:D.rep c d (a.eval x))(h:eF d j k):aw P o a w (Res W η c k):=by
 unfold eF at h
 split at h
 ·obtain⟨d,hj,h⟩:=h;unfold D.rep at hd;obtain⟨vs,hx,hvs⟩:=hd;obtain⟨u,hu,hdu⟩:=D.bT hvs hj;refine aw.av (v:=u) ?_ (Res.val h hdu hp hold);simp[execOp,ho,hx,Instr.extract,hu]
 ·exact h.elim
theorem Gt{d0:Nat}{x:Option D}{K:Nat→Prop}(h:bound d0 x K):∃i,K i∧(x=none→i=d0)∧∀d,x=some d→∃ik,d=.fr (.vl (.int ik (i:Int))):=by
 unfold bound at h
 split at h
 ·exact⟨d0,h,fun _=>rfl,fun d hd=>by cases hd⟩
 ·obtain⟨i,rfl,h⟩:=h;exact⟨i,h,fun e=>(by cases e),fun d hd=>by cases hd;exact⟨_,rfl⟩⟩
 ·exact h.elim
theorem ph{ρ:Operand→Option D}(hρ:∀x d,ρ x=some d→D.rep c d (a.eval x)){lo:Option Operand}{lo':Option D}(h:dV ρ lo=some lo'){d0:Nat}{K:Nat→Prop}(hb:bound d0 lo' K) :
  ∃i,K i∧((lo=none∧i=d0)∨∃y ik,lo=some y∧a.eval y=.int ik (i:Int)):=by
 obtain⟨i,h1,h2,h3⟩:=Gt hb;refine⟨i,h1,?_⟩
 cases lo with
 | none=>
  simp[dV] at h;exact .inl ⟨rfl,h2 h.symm⟩
 | some y=>
  simp only[dV] at h
  cases hy:ρ y with
  | none=>rw[hy] at h;cases h
  | some d=>
   rw[hy] at h;simp at h;subst h;obtain⟨ik,rfl⟩:=h3 d rfl;exact .inr ⟨y,ik,rfl,aH (hρ y _ hy)⟩
theorem ui {x:Operand} {t':Nat} {b:ByteArray} {lo hi:Option Operand} {l h:Nat} (ht:UD P t' .string) (ho:o.op=.slice t' x lo hi none) (hx:a.eval x=.string b)
  (hl:(lo=none∧l=0)∨∃y ik,lo=some y∧a.eval y=.int ik (l:Int)) (hh:(hi=none∧h=b.size)∨∃y ik,hi=some y∧a.eval y=.int ik (h:Int)) (hlh:l≤h) (hhb:h≤b.size) :
  (execOp a.eval o).run P w=.ok (.value (.string (b.extract l h))) w:=by
 have h2:h≤b.size:=hhb;rcases hl with ⟨rfl,rfl⟩|⟨y,ik,rfl,hy⟩<;>rcases hh with ⟨rfl,rfl⟩|⟨y',ik',rfl,hy'⟩
 ·simp[execOp,ho,hx,Instr.sliceAt,Instr.slice,Instr.sliceBounds,run_underlying ht.eq]
 ·simp[execOp,ho,hx,hy',Instr.sliceAt,Instr.slice,Instr.sliceBounds,Instr.sliceBound,asIntOf,run_underlying ht.eq,h2]
 ·have:l≤b.size:=hlh;simp[execOp,ho,hx,hy,Instr.sliceAt,Instr.slice,Instr.sliceBounds,Instr.sliceBound,asIntOf,run_underlying ht.eq,this]
 ·simp[execOp,ho,hx,hy,hy',Instr.sliceAt,Instr.slice,Instr.sliceBounds,Instr.sliceBound,asIntOf,run_underlying ht.eq,h2,hlh]
theorem nY {x:Operand} {t' e sz by_:Nat} {z:Value} {A:Option Addr} {m c0:Nat} {lo hi:Option Operand} {l h:Nat} (ht:SlT P t' e sz by_ z) (ho:o.op=.slice t' x lo hi none) (hx:a.eval x=.slice A m c0)
  (hl:(lo=none∧l=0)∨∃y ik,lo=some y∧a.eval y=.int ik (l:Int)) (hh:(hi=none∧h=m)∨∃y ik,hi=some y∧a.eval y=.int ik (h:Int)) (hlh:l≤h) (hhb:h≤c0) :
  (execOp a.eval o).run P w=.ok (.value (.slice (if c0=l then A else A.map (·.add (l * sz))) (h - l) (c0 - l))) w:=by
 obtain⟨inf,h1,h2,h3,h4⟩:=ht.info;rcases hl with ⟨rfl,rfl⟩|⟨y,ik,rfl,hy⟩<;>rcases hh with ⟨rfl,rfl⟩|⟨y',ik',rfl,hy'⟩
 ·simp[execOp,ho,hx,Instr.sliceAt,Instr.slice,Instr.sliceBounds,run_underlying ht.und,sizeOf,typeInfo,h1,h3]
 ·simp[execOp,ho,hx,hy',Instr.sliceAt,Instr.slice,Instr.sliceBounds,Instr.sliceBound,asIntOf,run_underlying ht.und,hhb,sizeOf,typeInfo,h1,h3]
 ·simp[execOp,ho,hx,hy,Instr.sliceAt,Instr.slice,Instr.sliceBounds,Instr.sliceBound,asIntOf,run_underlying ht.und,hlh,sizeOf,typeInfo,h1,h3]
 ·simp[execOp,ho,hx,hy,hy',Instr.sliceAt,Instr.slice,Instr.sliceBounds,Instr.sliceBound,asIntOf,run_underlying ht.und,hhb,hlh,sizeOf,typeInfo,h1,h3]
end
end Go.Vc
namespace Go.Vc
open Go Go.RowKit Go.Sl
section
variable {P:Program} {n:FD} {s:List (Nat×D)} {Γ:Nat→Option (List F)} {c:Cf} {a:Act} {w:World} {W:Bs} {O:Nat→Nat→Prop} {η:Env} {k:Ks} {E:TE} {t:Nat} {o:Oper}
theorem GZ {x:Operand} {t':Nat} {lo hi mx:Option Operand} {ρ:Operand→Option D} {d:D} (hρ:∀x d,ρ x=some d→D.rep c d (a.eval x)) (hE:∀t i,E t=some i→TOk P t i) (hp:Hp c O η w) (hold:Old W c O w) (ho:o.op=.slice t' x lo hi mx) (hd:D.rep c d (a.eval x))
  (h:fK E t' d (dV ρ lo) (dV ρ hi) mx.isSome k):aw P o a w (Res W η c k):=by
 cases mx with
 | some m=>exact(show False from h).elim
 | none=>
  unfold fK at h;simp only[Option.isSome_none,cond_false] at h
  split at h
  ·rename_i lo' hi' el eh
   split at h
   ·rename_i sz0 z0 b hi;have ht:=(hE _ _ hi).k;simp only at ht;have hx:=aH hd;obtain⟨l,h,hl⟩:=ph hρ el h;obtain⟨hh,h,hhh⟩:=ph hρ eh h;obtain⟨h1,h2,h⟩:=h;exact aw.av (ui ht ho hx hl hhh h1 h2) (Res.val h (aV _) hp hold)
   ·rename_i sz0 z0 e sz by_ rows hi;have hk:=(hE _ _ hi).k;simp only at hk;obtain⟨z,ht⟩:=hk;unfold D.rep F.rep at hd;obtain⟨A,c',vr,sz',hx,hcap,harr,hone,hvr⟩:=hd;obtain⟨l,h,hl⟩:=ph hρ el h;obtain⟨hh,h,hhh⟩:=ph hρ eh h;obtain⟨h1,h2,h3,h⟩:=h;have hvl:=F.iU hvr;have harr':Arr sz c.Z c.R A rows.length vr:=by
     refine⟨harr.1,fun r hr=>?_,fun hpos=>?_⟩
     ·obtain⟨i,hi⟩:=List.mem_iff_getElem?.1 hr;have hlt:i<rows.length:=by rw[←hvl];exact(List.getElem?_eq_some_iff.1 hi).1
      obtain⟨rv,hrv,hrr⟩:=F.eR hvr (List.getElem?_eq_getElem hlt);rw[hi] at hrv
      cases hrv;rw[F.aW hrr];exact h3 _ (List.getElem_mem hlt)
     ·exact harr.2.2 hpos
    refine aw.av (nY ht ho hx hl hhh h1 (Nat.le_trans h2 hcap)) (Res.val h ?_ hp hold);unfold D.rep F.rep;refine⟨_,c' - l,(vr.take hh).drop l,sz,by rw[List.length_drop,List.length_take,Nat.min_eq_left h2],by rw[List.length_drop,List.length_take];omega,?_,fun r hr=>hone r (List.mem_of_mem_take (List.mem_of_mem_drop hr)),F.dL _ (F.cT _ hvr)⟩;have:=Arr.Kh (w:=c.R) (c0:=c') harr' h1 h2 hcap
    rwa [List.length_drop,List.length_take,Nat.min_eq_left h2]
   ·exact h.elim
  ·exact h.elim
inductive Al2{α β:Type}(R:α→β→Prop):List α→List β→Prop where
 | nil:Al2 R [] []
 | more {x:α} {y:β} {l:List α} {l':List β}:R x y→Al2 R l l'→Al2 R (x :: l) (y :: l')
theorem xa{pl:List (Nat×Nat×Bool)}{place:Nat→Option (Nat×Nat)}(hpl:∀j o s g,pl[j]?=some (o,s,g)→place j=some (o,s)):∀{ps:List (Nat×Option D)} {cs cs':List D} {vs:List Value} {us:List (Nat×Value)},oK pl cs ps=some cs'→D.ah c cs vs→
  (Al2 (fun (p:Nat×Option D) (q:Nat×Value)=>p.1=q.1∧∀d,p.2=some d→D.rep c d q.2) ps us)→∃vs':List Value,D.ah c cs' vs'∧Instr.fill place vs.toArray us=some vs'.toArray
 | [],cs,cs',vs,us,h,hr,hu=>by
  cases hu;simp[oK] at h;subst h;exact⟨vs,hr,rfl⟩
 | (j,none) :: ps,cs,cs',vs,us,h,hr,hu=>by simp[oK] at h
 | (j,some d) :: ps,cs,cs',vs,us,h,hr,hu=>by
  cases hu with
  | more h1 h2=>
   rename_i q us;obtain⟨q1,q2⟩:=q;obtain⟨e1,hd⟩:=h1;simp only at e1 hd;subst e1;have hd:=hd d rfl;simp only[oK] at h
   split at h
   ·rename_i o' s' g hj
    cases hb:(Nat.beq d.cells.length s'&&d.cells.all D.one&&Nat.ble (o'+s') cs.length) with
    | false=>rw[hb] at h;simp at h
    | true=>
     rw[hb] at h;simp only[cond_true] at h;rw[Bool.and_eq_true,Bool.and_eq_true] at hb;obtain⟨⟨b1,b2⟩,b3⟩:=hb;have b1:=Nat.eq_of_beq_eq_true b1;have b3:=Nat.le_of_ble_eq_true b3;obtain⟨ys,hy,hyr,hyo⟩:=D.qn hd b2;have hyl:ys.length=s':=(D.aW hyr).trans b1;have hvl:=D.aW hr;have hset:setAt cs o' d.cells=cs.take o'++d.cells++cs.drop (o'+d.cells.length):=oq o' (by omega);have hrep:D.ah c (setAt cs o' d.cells) (vs.take o'++ys++vs.drop (o'+ys.length)):=by
      rw[hset,hyl,←b1];exact D.bJ (D.bJ (D.cX _ hr) hyr) (D.cW _ hr)
     obtain⟨vs',g1,g2⟩:=xa hpl h hrep h2;refine⟨vs',g1,?_⟩;have hpj:=hpl j _ _ _ hj;simp only[Instr.fill,hpj];rw[if_neg (by rw[hy];simp;omega)];have hp:=pQ o' ys 0 vs.toArray (by simp;omega);have e:(q2.cells.zipIdx.foldl (fun cs (x:Value×Nat)=>cs.setIfInBounds (o'+x.2) x.1) vs.toArray)=(vs.take o'++ys++vs.drop (o'+ys.length)).toArray:=by
      apply Array.ext';rw[hy,←Array.foldl_toList,Array.toList_zipIdx];simpa using hp
     have g2':=g2;rw[←e] at g2';exact g2'
   ·cases h
theorem sB{ρ:Operand→Option D}(hρ:∀x d,ρ x=some d→D.rep c d (a.eval x)):∀(ps:List (Nat×Operand)),Al2 (fun (p:Nat×Option D) (q:Nat×Value)=>p.1=q.1∧∀d,p.2=some d→D.rep c d q.2) (ps.map fun p=>(p.1,ρ p.2)) (ps.map fun p=>(p.1,a.eval p.2))
 | []=>.nil
 | p :: l=>.more ⟨rfl,fun d hd=>hρ _ _ hd⟩ (sB hρ l)
theorem sC:∀(vs:List Value),D.ah c (vs.map fun v=>.fr (.vl v)) vs
 | []=>by simp[D.ah]
 | v :: l=>by
  rw[List.map_cons];unfold D.ah;exact⟨v,l,rfl,aV v,sC l⟩
theorem HF {t':Nat} {ps:Array (Nat×Operand)} {ρ:Operand→Option D} (hρ:∀x d,ρ x=some d→D.rep c d (a.eval x)) (hE:∀t i,E t=some i→TOk P t i) (hp:Hp c O η w) (hold:Old W c O w) (ho:o.op=.build t' ps)
  (h:fF E t' (ps.toList.map fun p=>(p.1,ρ p.2)) k):aw P o a w (Res W η c k):=by
 unfold fF at h
 split at h
 ·rename_i sz z fs hi;have hk:=(hE _ _ hi).k;simp only at hk
  split at h
  ·rename_i cs hf;obtain⟨vs',g1,g2⟩:=xa (place:=fun i=>((fs.map fun p=>(p.1,p.2.1)).toArray)[i]?) (fun j o s g hj=>by simp[hj]) hf (sC z) (sB (a:=a) hρ ps.toList);have hb:=hk.2.run (ps.map fun p=>(p.1,a.eval p.2)) vs'.toArray w (by simpa [Value.cells] using g2);refine aw.av (v:=.agg vs'.toArray) ?_ (Res.val h (by unfold D.rep;exact⟨vs',rfl,g1⟩) hp hold);simp[execOp,ho,hb]
  ·exact h.elim
 ·rename_i sz z zs len e sz' hi;have hk:=(hE _ _ hi).k;simp only at hk
  split at h
  ·rename_i cs hf;obtain⟨inf,h1,h2⟩:=hk.1.info;have hz:=hk.2 (by simp);obtain⟨vs',g1,g2⟩:=xa (place:=fun i=>some (i * sz',sz')) (fun j o s g hj=>by
    have hlt:=(List.getElem?_eq_some_iff.1 hj).1;simp at hlt;rw[List.getElem?_map,List.getElem?_range hlt] at hj;simp only[Option.map_some,Option.some.injEq,Prod.mk.injEq] at hj;obtain⟨rfl,rfl,_⟩:=hj;rfl) hf (sC (z :: zs)) (sB (a:=a) hρ ps.toList)
   refine aw.av (v:=.agg vs'.toArray) ?_ (Res.val h (by unfold D.rep;exact⟨vs',rfl,g1⟩) hp hold);have hb:(Instr.build t' (ps.map fun p=>(p.1,a.eval p.2))).run P w=.ok (.agg vs'.toArray) w:=by
    simp[Instr.build,hz.run w,run_underlying hk.1.und,sizeOf,typeInfo,h1,h2,Value.cells,g2]
   simp[execOp,ho,hb]
  ·exact h.elim
 ·exact h.elim
end
section
variable {P:Program} {n:FD} {s:List (Nat×D)} {Γ:Nat→Option (List F)} {c:Cf} {a:Act} {w:World} {W:Bs} {O:Nat→Nat→Prop} {η:Env} {k:Ks} {E:TE} {t:Nat} {o:Oper} {ρ:Operand→Option D} {S:Sg}
theorem xL(hp:Hp c O η w)(ids:List Nat){sz:Nat}(hρ:∀x d,ρ x=some d→D.rep c d (a.eval x))(hev:∀x d,ρ x=some d→Sl.ev S x=some (a.eval x)) :
  ∀(psl:List (Nat×Operand)) (j:Nat) {rows:List (List F)} {is:List Nat},kn η sz j (psl.map fun p=>(p.1,ρ p.2))=some (rows,is)→(∀b∈is,b∈ids)→
   ∃(xs:List Operand) (vs:List Value),psl=oI j xs∧evs S xs=some vs∧vs.length=psl.length∧(∀v∈vs,v.cells.size=sz)∧F.aG (Zf c O ids) w rows (vs.map (·.cells.toList))∧(∀r∈vs.map (·.cells.toList),bZ r=true)∧(∀b∈is,∃x,η b=some x)
 | [],j,rows,is,h,_=>by
  simp[kn] at h;obtain⟨rfl,rfl⟩:=h;exact⟨[],[],rfl,rfl,rfl,by simp,by simp[F.aG],by simp,by simp⟩
 | p :: psl,j,rows,is,h,hi=>by
  obtain⟨i,x⟩:=p;simp only[List.map_cons] at h
  cases hx:ρ x with
  | none=>rw[hx] at h;simp[kn] at h
  | some d=>
   rw[hx] at h;simp only[kn] at h
   cases hb:(Nat.beq i j&&Nat.beq d.cells.length sz) with
   | false=>rw[hb] at h;simp at h
   | true=>
    rw[hb] at h;simp only[cond_true] at h;obtain⟨b1,b2⟩:=uv hb;subst b1
    split at h
    ·rename_i r is1 rs is2 e1 e2
     cases h1:r.all F.one with
     | false=>rw[h1] at h;simp at h
     | true=>
      rw[h1] at h;simp only[cond_true] at h
      cases h;obtain⟨xs,vs,g1,g2,g3,g4,g5,g6,g7⟩:=xL hp ids hρ hev psl (i+1) e2 (fun b hb=>hi b (by simp[hb]));obtain⟨ys,hy,hyr,hyo⟩:=yp hp ids (hρ x d hx) e1 (fun b hb=>hi b (by simp[hb])) h1;have hyl:ys.length=sz:=by rw[F.aW hyr,tq e1,b2]
      refine⟨x :: xs,a.eval x :: vs,by simp[oI,g1],by simp[evs,hev x d hx,g2],by simp[g3],?_,?_,?_,?_⟩
      ·intro v hv;rcases List.mem_cons.1 hv with rfl|hv
       ·rw[hy];simpa using hyl
       ·exact g4 v hv
      ·rw[List.map_cons];unfold F.aG;exact⟨_,_,rfl,by rw[hy];exact hyr,g5⟩
      ·intro r' hr';rw[List.map_cons] at hr';rcases List.mem_cons.1 hr' with rfl|hr'
       ·rw[hy];exact hyo
       ·exact g6 r' hr'
      ·intro b hb;rcases List.mem_append.1 hb with hb|hb
       ·exact dC (gG 4) e1 b hb
       ·exact g7 b hb
    ·cases h
theorem Res.after {ids:List Nat} {v:Value} {w':World} {k':Ks} (hp:Hp c O η w) (h:Res W (Res.lk2 (aS η ids) η) (cfz c O ids w) k' v w')
  {rd0:List Nat} (hk:∀d rd e,k' d rd e→k d rd0 (e++aS η ids)):Res W η c k v w':=by
 obtain⟨d,rd,e,c',O',h1,h2,h3,h4,h5⟩:=h;refine⟨d,_,_,c',O',hk d rd e h1,(pO hp ids).trans h2,h3,?_,h5⟩;have:Res.lk2 (e++aS η ids) η=Res.lk2 e (Res.lk2 (aS η ids) η):=by
  clear h1 hk h4
  induction e with
  | nil=>rfl
  | cons p e ih=>
   obtain⟨b,x⟩:=p;rw[List.cons_append];simp only[Res.lk2];rw[ih]
 rw[this];exact h4
theorem kN(ids:List Nat)(h:t ∉ ids):nv (Res.lk2 (aS η ids) η) t=nv η t:=by
 unfold nv;rw[(aY η η ids t).1 h]
theorem Lm {t' m:Nat} {ps:Array (Nat×Operand)} (hfr:Fr n S a) (hρ:∀x d,ρ x=some d→D.rep c d (a.eval x)) (hev:∀x d,ρ x=some d→Sl.ev S x=some (a.eval x)) (hE:∀t i,E t=some i→TOk P t i)
  (hp:Hp c O η w) (hold:Old W c O w) (ho:o.op=.buildSlice t' m ps) (h:o5 E η t t' m (ps.toList.map fun p=>(p.1,ρ p.2)) k):aw P o a w (Res W η c k):=by
 unfold o5 at h
 split at h
 ·rename_i sz0 z0 e sz by_ hi;have hk:=(hE _ _ hi).k;simp only at hk;obtain⟨z,ht⟩:=hk
  split at h
  ·rename_i rows is hr
   replace h:=bo h
   obtain⟨hb,h⟩:=h;rw[Bool.and_eq_true,Bool.and_eq_true] at hb;obtain⟨⟨b1,b2⟩,b3⟩:=hb;have b1:=Nat.eq_of_beq_eq_true b1;have b2:=Nat.le_of_ble_eq_true b2;have b3:t ∉ is:=by simpa using b3
   obtain⟨xs,vs,g1,g2,g3,g4,g5,g6,g7⟩:=xL hp is hρ hev ps.toList 0 hr (fun b h=>h);have hm:m=vs.length:=by rw[b1,g3];simp
   have hac:=Ac.lit (P:=P) (n:=n) (s:=S) (w0:=w) (L:=[]) (ty:=o.type) (t:=t') (ps:=ps.toList) (m:=m) g1 g2 g4 (by rw[←hm];exact b2) hm rfl;obtain⟨b,w',hrun,hst⟩:=hac.go a w o (by rw[ho]) rfl hfr (St.start w);have hlen:m=rows.length:=by rw[hm,←F.iU g5];simp
   refine aw.av hrun (Res.after hp (ids:=is) (k':=fun d rd e=>k d (t :: is) (e++aS η is)) ?_ (fun d rd e h=>h));refine Res.s4 (hp.fz_ is g7) (hold.fz_ hp is) (t:=t) hst hlen g5 g6 (rd:=[]) ?_;rw[kN is b3];exact h
  ·exact h.elim
 ·exact h.elim
theorem Ci{Z:Nat→Prop}{w:World}:∀(vs:List Value),F.ah Z w (vs.map fun v=>F.nz (.vl v)) vs
 | []=>by simp[F.ah]
 | v :: l=>by
  rw[List.map_cons];unfold F.ah;exact⟨v,l,rfl,F.AW (by unfold F.rep;rfl),Ci l⟩
theorem Jk {x y:Operand} {t':Nat} {d d':D} (hfr:Fr n S a) (hx:Sl.ev S x=some (a.eval x)) (hy:Sl.ev S y=some (a.eval y)) (hE:∀t i,E t=some i→TOk P t i) (hp:Hp c O η w) (hold:Old W c O w) (ho:o.op=.makeSlice t' x y)
  (hd:D.rep c d (a.eval x)) (hd':D.rep c d' (a.eval y)) (h:jN E η t t' d d' k):aw P o a w (Res W η c k):=by
 unfold jN at h
 split at h
 ·rename_i sz0 z0 e sz by_ k1 m1 k2 m2 hi;have hk:=(hE _ _ hi).k;simp only at hk;obtain⟨z,ht⟩:=hk
  split at h
  ·rename_i i hie;obtain⟨hz,j,rfl,j',rfl,hjj,hb,h63,h⟩:=h;rw[aH hd] at hx;rw[aH hd'] at hy;have hzz:z.cells.toList=i.z:=by
    obtain⟨inf,i1,i2,i3,i4⟩:=ht.info;have hne:i.z≠[]:=by
     intro e0;rw[e0] at hz;have:=ht.pos;simp at hz;omega
    obtain⟨v,hv1,hv2,hv3⟩:=(hE _ _ hie).z hne;have e1:(zeroValue e).run P w=.ok v w:=hv1.run w;have e2:(zeroValue e).run P w=.ok z w:=by simp[zeroValue,typeInfo,i1,i2]
    rw[e1] at e2
    injection e2 with e2
    rw[←e2,hv2]
   have hone:bZ i.z=true:=by
    have hne:i.z≠[]:=by
     intro e0;rw[e0] at hz;have:=ht.pos;simp at hz;omega
    obtain⟨v,hv1,hv2,hv3⟩:=(hE _ _ hie).z hne;exact hv3
   rcases hjj with rfl|rfl
   ·have hac:=Ac.make (P:=P) (n:=n) (s:=S) (w0:=w) (L:=[]) (ty:=o.type) (t:=t') hx hy hb h63;obtain⟨b,w',hrun,hst⟩:=hac.go a w o (by rw[ho]) rfl hfr (St.start w);rw[hzz] at hst;exact aw.av hrun (Res.s4 hp hold hst (by simp) (F.xQ (Ci _) _) (fun r hr=>by rw[List.eq_of_mem_replicate hr];exact hone) h)
   ·have hac:=Ac.rQ (P:=P) (n:=n) (s:=S) (w0:=w) (L:=[]) (ty:=o.type) (t:=t') hx hy hb h63;obtain⟨b,w',hrun,hst⟩:=hac.go a w o (by rw[ho]) rfl hfr (St.start w);exact aw.av hrun (Res.s4 hp hold hst (by simp) (by simp[F.aG]) (by simp) h)
  ·exact h.elim
 ·exact h.elim
theorem GR {t':Nat} (hfr:Fr n S a) (hE:∀t i,E t=some i→TOk P t i) (hp:Hp c O η w) (hold:Old W c O w) (ho:o.op=.alloc t')
  (h:match E t' with|some i=>bif Nat.blt 0 i.z.length then k (.ptr t (nv η t) 0) [t] [(t,.va (nv η t) t' (i.z.map fun v=>.fr (.vl v)))] else False|none=>False):aw P o a w (Res W η c k):=by
 split at h
 ·rename_i i hi
  replace h:=bo h
  obtain⟨h0,h⟩:=h;have hne:i.z≠[]:=by intro e;rw[e] at h0;simp at h0
  obtain⟨v,hv1,hv2,hv3⟩:=(hE _ _ hi).z hne;have hac:=Ac.alloc (P:=P) (n:=n) (s:=S) (w0:=w) (L:=[]) (ty:=o.type) (t:=t') (cs:=i.z) hv2;obtain⟨b,w',hrun,hst⟩:=hac.go a w o (by rw[ho]) rfl hfr (St.start w);exact aw.av hrun (Res.Kj hp hold hst (sC _) hv3 h)
 ·exact h.elim
theorem KX {x:Operand} {t':Nat} {d:D} (hfr:Fr n S a) (hx:Sl.ev S x=some (a.eval x)) (hp:Hp c O η w) (hold:Old W c O w) (ho:o.op=.box t' x) (hd:D.rep c d (a.eval x))
  (h:d.cells.all D.one=true∧k (.ptr t (nv η t) 0) [t] [(t,.va (nv η t) t' d.cells)]):aw P o a w (Res W η c k):=by
 obtain⟨ys,hy,hyr,hyo⟩:=D.qn hd h.1;have hac:=Ac.box (P:=P) (n:=n) (s:=S) (w0:=w) (L:=[]) (ty:=o.type) (t:=t') hx hy;obtain⟨b,w',hrun,hst⟩:=hac.go a w o (by rw[ho]) rfl hfr (St.start w);exact aw.av hrun (Res.Kj hp hold hst hyr hyo h.2)
theorem KG{x:Operand}{t':Nat}{d:D}{c0:Call}(hE:∀t i,E t=some i→TOk P t i)(hp:Hp c O η w)(hold:Old W c O w)(ho:o.op=.call c0)(h0:c0={ callee:=.builtin .len,args:=#[x],argTypes:=#[t'] })(hd:D.rep c d (a.eval x))(h:j7 E η t' d k):aw P o a w (Res W η c k):=by
 subst h0;unfold j7 at h
 split at h
 ·rename_i sz z b hi;have ht:=(hE _ _ hi).k;simp only at ht;have hx:=aH hd;refine aw.av (v:=.int .i64 (b.size:Int)) ?_ (Res.val h (aV _) hp hold);simp[execOp,ho,resolve,hx,invoke,builtin,Builtin.len_,run_underlying ht.eq,goInt]
 ·rename_i sz z e sz' by_ rows hi;have hk:=(hE _ _ hi).k;simp only at hk;obtain⟨zv,ht⟩:=hk;unfold D.rep F.rep at hd;obtain⟨A,c',vr,sz',hx,hcap,harr,hone,hvr⟩:=hd;refine aw.av (v:=.int .i64 (rows.length:Int)) ?_ (Res.val h (aV _) hp hold);simp[execOp,ho,resolve,hx,invoke,builtin,Builtin.len_,run_underlying ht.und,goInt]
 ·rename_i sz z e sz' by_ hi;have hk:=(hE _ _ hi).k;simp only at hk;obtain⟨zv,ht⟩:=hk;have hx:=aH hd;refine aw.av (v:=.int .i64 0) ?_ (Res.val h (aV _) hp hold);simp[execOp,ho,resolve,hx,invoke,builtin,Builtin.len_,run_underlying ht.und,goInt]
 ·rename_i sz z e sz' by_ b v hi;have hk:=(hE _ _ hi).k;simp only at hk;obtain⟨zv,ht⟩:=hk
  split at h
  ·rename_i v' e' sz2 rows hb
   replace h:=bo h
   have hv:=Nat.eq_of_beq_eq_true h.1;subst hv;unfold D.rep at hd;obtain⟨A,m,k',hA,hx⟩:=hd;obtain⟨A',k2,vr,hA',hvr,hone,hown⟩:=hp.pc b _ hb;rw[hA] at hA'
   cases hA';refine aw.av (v:=.int .i64 (rows.length:Int)) ?_ (Res.val h.2 (aV _) hp hold);simp[execOp,ho,resolve,hx,invoke,builtin,Builtin.len_,run_underlying ht.und,goInt]
  ·exact h.elim
 ·exact h.elim
end
end Go.Vc
end
