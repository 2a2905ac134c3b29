/- The texts that the card needs, part 2. -/
import Derived.Test.YtpbichnnflabdaaGreatDoorPC0
set_option linter.all false
section
namespace Go.Vc
open Go Go.RowKit Go.Sl
inductive TK where
 |int (k:IntKind)
 |flt (k:FloatKind)
 |cpx (k:FloatKind)
 |bool
 |str
 |sl (e sz by_:Nat)
 |st (fs:List (Nat×Nat×Bool))
 |ar (len e sz:Nat)
 |mp (k e:Nat)
 |fn
 |ptr
 |oth
structure TI where
 sz:Nat
 z:List Value
 k:TK
def TK.agg:TK→Bool
 |.st _=>true
 |.ar _ _ _=>true
 |_=>false
abbrev TE:=Nat→Option TI
abbrev Ks:=D→List Nat→List (Nat×B)→Prop
abbrev Env:=Nat→Option B
def F.one:F→Bool
 |.vl x=>x.oneCell'
 |.ag _=>false
 |.tp _=>false
 |_=>true
def D.one:D→Bool
 |.fr x=>x.one
 |.ag _=>false
 |.tp _=>false
 |_=>true
def D.cells:D→List D
 |.ag cs=>cs
 |.fr (.ag cs)=>cs.map .fr
 |d=>[d]
def F.Am:F→D
 |.ag cs=>.ag (cs.map .fr)
 |x=>.fr x
def F.toD:F→D
 |.ag cs=>.ag (cs.map .fr)
 |.tp cs=>.tp (cs.map F.Am)
 |x=>.fr x
def cB{α β:Type}(f:α→Option (β×List Nat)):List α→Option (List β×List Nat)
 |[]=>some ([],[])
 |x::l=>match f x,cB f l with
  |some (y,i),some (ys,is)=>some (y::ys,i++is)
  |_,_=>none
abbrev F.nz:F→F
 |.vl (.slice none 0 0)=>.sl []
 |x=>x
def D.toF(η:Env):Nat→D→Option (F×List Nat)
 |0,_=>none
 |n+1,d=>match d with
  |.fr x=>some (x.nz,[])
  |.ag cs=>match cB (D.toF η n) cs with
   |some (l,is)=>some (.ag l,is)
   |none=>none
  |.tp cs=>match cB (D.toF η n) cs with
   |some (l,is)=>some (.tp l,is)
   |none=>none
  |.cl f cs=>match cB (D.toF η n) cs with
   |some (l,is)=>some (.cl f l,is)
   |none=>none
  |.ptr b v o=>match η b with
   |some (.va v' t cs)=>bif Nat.beq v v' then(match cB (D.toF η n) cs with
    |some (l,is)=>some (.pt l.length [l] 0 o,b::is)
    |none=>none)else none
   |_=>none
  |.own b v=>match η b with
   |some (.ro v' e sz rows)=>bif Nat.beq v v' then some (.sl rows,[b])else none
   |_=>none
  |.mv b v=>match η b with
   |some (.mp v' rows)=>bif Nat.beq v v' then some (.mp rows,[b])else none
   |_=>none
  |.sub b v sz lo hi _=>match η b with
   |some (.ro v' _ sz' rows)=>bif Nat.beq v v'&&Nat.beq sz sz' then some (.sl ((rows.take hi).drop lo),[b])else none
   |_=>none
  |.fx rows=>some (.sl rows,[])
  |.rp _ _ _ _ _=>none
  |.yl _ _=>none
  |.mcl _ _ _=>none
def aU(η:Env):List Nat→List (Nat×B)
 |[]=>[]
 |b::l=>match η b with
  |some x=>(b,.gone x.ver)::aU η l
  |none=>aU η l
def setAt{α:Type}:List α→Nat→List α→List α
 |cs,_,[]=>cs
 |[],_,_=>[]
 |_::cs,0,v::vs=>v::setAt cs 0 vs
 |c::cs,o+1,vs=>c::setAt cs o vs
def Bo(b:Bool):D:=.fr (.vl (.bool b))
def Un:D:=.fr (.vl undef)
def yZ(op:BinOp)(k:IntKind)(x y:Int):Option Int:=
 let a:=BitVec.ofInt k.bits x
 let b:=BitVec.ofInt k.bits y
 match op with
 |.and=>some (k.wrap (a&&&b).toNat)
 |.or=>some (k.wrap (a|||b).toNat)
 |.xor=>some (k.wrap (a ^^^ b).toNat)
 |.andNot=>some (k.wrap (a &&& ~~~b).toNat)
 |_=>none
def rK(k:IntKind)(n:Int)(K:D→Prop):Prop:=match k with
 |.i64=>I64 n∧K (.fr (.vl (.int .i64 n)))
 |k=>∃m,k.wrap n=m∧K (.fr (.vl (.int k m)))
def qY(op:BinOp)(ka:IntKind)(a:Int)(kb:IntKind)(b:Int)(K:D→Prop):Prop:=
 match op with
 |.add=>bif decide (ka=kb)then rK ka (a+b) K else False
 |.sub=>bif decide (ka=kb)then rK ka (a-b) K else False
 |.mul=>bif decide (ka=kb)then rK ka (a*b) K else False
 |.lss=>bif decide (ka=kb)then K (.fr (.vl (.bool (decide (a<b)))))else False
 |.leq=>bif decide (ka=kb)then K (.fr (.vl (.bool (decide (a≤b)))))else False
 |.gtr=>bif decide (ka=kb)then K (.fr (.vl (.bool (decide (b<a)))))else False
 |.geq=>bif decide (ka=kb)then K (.fr (.vl (.bool (decide (b≤a)))))else False
 |.eql=>bif decide (ka=kb)then K (.fr (.vl (.bool (decide (a=b)))))else False
 |.neq=>bif decide (ka=kb)then K (.fr (.vl (.bool (!decide (a=b)))))else False
 |.shl=>0≤b∧K (.fr (.vl (.int ka (ka.wrap (a*2^(min b.toNat ka.bits))))))
 |.shr=>0≤b∧K (.fr (.vl (.int ka (a.fdiv (2^(min b.toNat ka.bits))))))
 |.quo=>bif decide (ka=kb)then b≠0∧∃m,ka.wrap (a.tdiv b)=m∧K (.fr (.vl (.int ka m)))else False
 |.rem=>bif decide (ka=kb)then b≠0∧∃m,a.tmod b=m∧K (.fr (.vl (.int ka m)))else False
 |op=>bif decide (ka=kb)then(match yZ op ka a b with|some n=>K (.fr (.vl (.int ka n)))|none=>False)else False
def qW(op:BinOp)(a b:ByteArray)(K:D→Prop):Prop:=
 match op with
 |.add=>((a.size+b.size:Nat):Int)≤9223372036854775807∧K (.fr (.vl (.string (a++b))))
 |.eql=>K (.fr (.vl (.bool (decide (a=b)))))
 |.neq=>K (.fr (.vl (.bool (!decide (a=b)))))
 |_=>False
def tE(op:BinOp)(x y:D)(K:D→Prop):Prop:=
 match x,y with
 |.fr (.vl (.int ka a)),.fr (.vl (.int kb b))=>qY op ka a kb b K
 |.fr (.vl (.string a)),.fr (.vl (.string b))=>qW op a b K
 |_,_=>False
def nG(op:BinOp)(x y:D)(K:D→Prop):Prop:=
 match x,y with
 |.fr (.vl (.bool a)),.fr (.vl (.bool b))=>(match op with
  |.eql=>K (.fr (.vl (.bool (a==b))))
  |.neq=>K (.fr (.vl (.bool (!(a==b)))))
  |_=>False)
 |_,_=>False
def ints(k:IntKind):List D→Option (List Int)
 |[]=>some []
 |.fr (.vl (.int k' n))::l=>bif decide (k=k')then(match ints k l with
  |some m=>some (n::m)
  |none=>none)else none
 |_=>none
def jF:D→Bool
 |.ag _=>true
 |.fr (.ag _)=>true
 |_=>false
theorem tM{k:IntKind}:∀{l:List D}{m:List Int},ints k l=some m→m.length=l.length
 |[],m,h=>by simp[ints]at h;simp[←h]
 |x::l,m,h=>by
  unfold ints at h
  split at h
  ·rename_i hx;cases hx
  ·rename_i k' n l' hx
   cases hx
   cases hk:decide (k=k')with
   |false=>rw[hk]at h;simp at h
   |true=>
    rw[hk]at h;simp only[cond_true]at h
    split at h
    ·rename_i m' hm
     cases h;simp[tM hm]
    ·cases h
  ·cases h
def rA(k:IntKind)(op:BinOp)(x y:D)(K:D→Prop):Prop:=
 match ints k x.cells,ints k y.cells with
 |some l,some m=>bif jF x&&jF y then(match op with
  |.eql=>K (.fr (.vl (.bool (decide (l=m)))))
  |.neq=>K (.fr (.vl (.bool (!decide (l=m)))))
  |_=>False)else False
 |_,_=>False
def B1(op:UnOp)(x:D)(K:D→Prop):Prop:=
 match op,x with
 |.not,.fr (.vl (.bool b))=>K (.fr (.vl (.bool (!b))))
 |.neg,.fr (.vl (.int k a))=>rK k (0-a) K
 |_,_=>False
theorem wrap_i64{n:Int}(h:I64 n):IntKind.i64.wrap n=n:=IntWalk.i64_in _ h
theorem wrap_u64{n:Int}(h:0≤n∧n≤18446744073709551615):IntKind.u64.wrap n=n:=IntWalk.u64_in _ (by omega)
theorem wrap_u8{n:Int}(h:0≤n∧n≤255):IntKind.u8.wrap n=n:=by
 simp[IntKind.wrap,IntKind.bits,IntKind.signed];omega
section
variable (E:TE) (η:Env) (t:Nat)
def eS(t':Nat)(x:D)(k:Ks):Prop:=
 match x,E t' with
 |.ptr b v o,some i=>(match η b with
  |some (.va v' _ cs)=>bif Nat.beq v v' then
    (
     bif i.k.agg then o+i.sz≤cs.length∧k (.ag ((cs.drop o).take i.sz)) [b] []
     else ∃d,cs[o]?=some d∧k d [b] [])else False
  |_=>False)
 |.rp b v sz j o,some i=>(match η b with
  |some (.ro v' _ sz' rows)=>bif Nat.beq v v'&&Nat.beq sz sz' then
    ∃r,rows[j]?=some r∧(bif i.k.agg then o+i.sz≤r.length∧k (.ag (((r.drop o).take i.sz).map .fr)) [b] []
     else ∃d,r[o]?=some d∧k (.fr d) [b] [])else False
  |_=>False)
 |.fr (.pt sz rows j o),some i=>
    ∃r,rows[j]?=some r∧(bif i.k.agg then o+i.sz≤r.length∧k (.ag (((r.drop o).take i.sz).map .fr)) [] []
     else ∃d,r[o]?=some d∧k (.fr d) [] [])
 |_,_=>False
def fM(t':Nat)(x y:D)(k:Ks):Prop:=
 match x,E t' with
 |.ptr b v o,some i=>(match η b with
  |some (.va v' bt cs)=>bif Nat.beq v v'&&Nat.beq y.cells.length i.sz then
    y.cells.all D.one=true∧o+i.sz≤cs.length∧0<i.sz∧k Un [b] [(b,.va v bt (setAt cs o y.cells))]else False
  |_=>False)
 |.rp b v sz j o,some i=>(match η b with
  |some (.ro v' e sz' rows)=>bif Nat.beq v v'&&Nat.beq sz sz'&&Nat.beq y.cells.length i.sz then
    ∃r,rows[j]?=some r∧(match cB (D.toF η 4) y.cells with
     |some (fs,is)=>fs.all F.one=true∧o+i.sz≤sz∧0<i.sz∧is.elem b=false∧k Un (b::is) ((b,.ro v e sz (rows.set j (setAt r o fs)))::aU η is)
     |none=>False)else False
  |_=>False)
 |_,_=>False
def bX(t':Nat)(x:D)(j:Nat)(k:Ks):Prop:=
 match E t' with
 |some ⟨_,_,.st fs⟩=>(match fs[j]? with
  |some (o',s',_)=>bif Nat.blt 0 s' then(match x with
   |.ptr b v o=>k (.ptr b v (o+o')) [] []
   |.rp b v sz i o=>k (.rp b v sz i (o+o')) [] []
   |.fr (.pt sz rows i o)=>k (.fr (.pt sz rows i (o+o'))) [] []
   |_=>False)else False
  |none=>False)
 |_=>False
def ey(t':Nat)(x:D)(j:Nat)(k:Ks):Prop:=
 match E t' with
 |some ⟨n,_,.st fs⟩=>(match fs[j]?,x with
  |some (o',s',g),.ag cs=>bif Nat.beq cs.length n then(bif g then k (.ag ((cs.drop o').take s')) [] []else ∃d,cs[o']?=some d∧k d [] [])else False
  |some (o',s',g),.fr (.ag cs)=>bif Nat.beq cs.length n then(bif g then k (.ag (((cs.drop o').take s').map .fr)) [] []else ∃d,cs[o']?=some d∧k (.fr d) [] [])else False
  |_,_=>False)
 |_=>False
def bu(t':Nat)(x:D)(y:D)(k:Ks):Prop:=
 match y with
 |.fr (.vl (.int _ n))=>(match E t' with
  |some ⟨_,_,.sl e sz _⟩=>(match x with
   |.own b v=>(match η b with
    |some (.ro v' _ sz' rows)=>bif Nat.beq v v'&&Nat.beq sz sz' then ∃i:Nat,n=(i:Int)∧i<rows.length∧k (.rp b v sz i 0) [b] []else False
    |_=>False)
   |.fr (.sl rows)=>∃i:Nat,n=(i:Int)∧∃r,rows[i]?=some r∧r.length=sz∧k (.fr (.pt sz rows i 0)) [] []
   |_=>False)
  |some ⟨_,_,.ar len e sz⟩=>(match x with
   |.ptr b v o=>∃i:Nat,n=(i:Int)∧i<len∧k (.ptr b v (o+i*sz)) [] []
   |.rp b v sz' j o=>∃i:Nat,n=(i:Int)∧i<len∧k (.rp b v sz' j (o+i*sz)) [] []
   |.fr (.pt sz' rows j o)=>∃i:Nat,n=(i:Int)∧i<len∧k (.fr (.pt sz' rows j (o+i*sz))) [] []
   |_=>False)
  |_=>False)
 |_=>False
def gz(t':Nat)(x:D)(y:D)(k:Ks):Prop:=
 match y with
 |.fr (.vl (.int _ n))=>(match E t',x with
  |some ⟨_,_,.str⟩,.fr (.vl (.string s))=>∃i:Nat,n=(i:Int)∧∃u,s.data[i]?=some u∧k (.fr (.vl (.int .u8 u.toNat))) [] []
  |_,_=>False)
 |_=>False
def bound(d:Nat)(x:Option D)(K:Nat→Prop):Prop:=
 match x with
 |none=>K d
 |some (.fr (.vl (.int _ n)))=>∃i:Nat,n=(i:Int)∧K i
 |_=>False
def fK(t':Nat)(x:D)(lo hi:Option (Option D))(mx:Bool)(k:Ks):Prop:=
 bif mx then False else
 match lo,hi with
 |some lo,some hi=>(match E t',x with
  |some ⟨_,_,.str⟩,.fr (.vl (.string s))=>bound 0 lo fun l=>bound s.size hi fun h=>l≤h∧h≤s.size∧k (.fr (.vl (.string (s.extract l h)))) [] []
  |some ⟨_,_,.sl e sz _⟩,.fr (.sl rows)=>bound 0 lo fun l=>bound rows.length hi fun h=>l≤h∧h≤rows.length∧(∀r∈rows,r.length=sz)∧k (.fr (.sl ((rows.take h).drop l))) [] []
  |_,_=>False)
 |_,_=>False
def eJ(x:D)(j:Nat)(k:Ks):Prop:=
 match x with
 |.tp ds=>∃d,ds[j]?=some d∧k d [] []
 |_=>False
def oY(pl:List (Nat×Nat×Bool)):List D→List (Nat×Option D)→Option (List D)
 |cs,[]=>some cs
 |cs,(j,some d)::l=>match pl[j]? with
  |some (o,s,_)=>bif Nat.beq d.cells.length s&&d.cells.all D.one&&Nat.ble (o+s) cs.length then oY pl (setAt cs o d.cells) l else none
  |none=>none
 |_,(_,none)::_=>none
def fH(t':Nat)(ps:List (Nat×Option D))(k:Ks):Prop:=
 match E t' with
 |some ⟨_,z,.st fs⟩=>(match oY fs (z.map fun v=>.fr (.vl v)) ps with
  |some cs=>k (.ag cs) [] []
  |none=>False)
 |some ⟨_,z::zs,.ar len _ sz⟩=>(match oY ((List.range len).map fun j=>(j*sz,sz,false)) ((z::zs).map fun v=>.fr (.vl v)) ps with
  |some cs=>k (.ag cs) [] []
  |none=>False)
 |_=>False
def jX(η:Env)(sz:Nat):Nat→List (Nat×Option D)→Option (List (List F)×List Nat)
 |_,[]=>some ([],[])
 |j,(i,some d)::l=>bif Nat.beq i j&&Nat.beq d.cells.length sz then(match cB (D.toF η 4) d.cells,jX η sz (j+1) l with
  |some (r,is),some (rs,is')=>bif r.all F.one then some (r::rs,is++is')else none
  |_,_=>none)else none
 |_,(_,none)::_=>none
def pb(t':Nat)(len:Nat)(ps:List (Nat×Option D))(k:Ks):Prop:=
 match E t' with
 |some ⟨_,_,.sl e sz _⟩=>(match jX η sz 0 ps with
  |some (rows,is)=>bif Nat.beq len ps.length&&Nat.ble (len*sz) 16777216 && !(is.elem t)then k (.own t (nv η t)) (t::is) ((t,.ro (nv η t) e sz rows)::aU η is)else False
  |none=>False)
 |_=>False
def jH(t':Nat)(l c:D)(k:Ks):Prop:=
 match E t',l,c with
 |some ⟨_,_,.sl e sz by_⟩,.fr (.vl (.int _ n)),.fr (.vl (.int _ m))=>(match E e with
  |some i=>i.z.length=sz∧∃j:Nat,n=(j:Int)∧∃j':Nat,m=(j':Int)∧(j=j'∨j=0)∧by_*j'≤281474976710656∧j'≤maxLen∧k (.own t (nv η t)) [t] [(t,.ro (nv η t) e sz (List.replicate j (i.z.map fun v=>F.nz (.vl v))))]
  |none=>False)
 |_,_,_=>False
def j8(t':Nat)(x:D)(k:Ks):Prop:=
 match E t',x with
 |some ⟨_,_,.str⟩,.fr (.vl (.string s))=>k (.fr (.vl (.int .i64 (s.size:Int)))) [] []
 |some ⟨_,_,.sl _ _ _⟩,.fr (.sl rows)=>k (.fr (.vl (.int .i64 (rows.length:Int)))) [] []
 |some ⟨_,_,.sl _ _ _⟩,.fr (.vl (.slice none 0 0))=>k (.fr (.vl (.int .i64 0))) [] []
 |some ⟨_,_,.sl _ _ _⟩,.own b v=>(match η b with
  |some (.ro v' _ _ rows)=>bif Nat.beq v v' then k (.fr (.vl (.int .i64 (rows.length:Int)))) [b] []else False
  |_=>False)
 |_,_=>False
def fI(η:Env):D→Option (List (List F)×List Nat)
 |.fr (.sl rows)=>some (rows,[])
 |.fr (.vl (.slice none 0 0))=>some ([],[])
 |.own b v=>match η b with
  |some (.ro v' _ _ rows)=>bif Nat.beq v v' then some (rows,[b])else none
  |_=>none
 |_=>none
def ed(t':Nat)(x y:D)(k:Ks):Prop:=
 match E t',fI η y with
 |some ⟨_,_,.sl e sz by_⟩,some (news,rd)=>(match x with
  |.own b v=>(match η b with
   |some (.ro v' e' sz' rows)=>bif Nat.beq v v'&&Nat.beq e e'&&Nat.beq sz sz' then(∀r∈news,r.length=sz)∧rows.length+news.length≤maxLen∧(rows.length+news.length)*by_≤140737488355328∧k (.own b (v+1)) (b::rd) [(b,.ro (v+1) e sz (rows++news))]else False
   |_=>False)
  |.fr (.vl (.slice none 0 0))=>(∀r∈news,r.length=sz)∧news.length≤maxLen∧news.length*by_≤140737488355328∧k (.own t (nv η t)) (t::rd) [(t,.ro (nv η t) e sz news)]
  |_=>False)
 |_,_=>False
abbrev CG:=Nat→Env→FuncId→List D→Ks→Prop
def jb{α:Type}:List (Option α)→Option (List α)
 |[]=>some []
 |some x::l=>match jb l with
  |some xs=>some (x::xs)
  |none=>none
 |none::_=>none
def dY(G:CG)(ρ:Operand→Option D)(c:Call)(k:Ks):Prop:=
 match c.callee with
 |.builtin .len=>(match c.args.toList,c.argTypes.toList with
  |[x],[t']=>(match ρ x with|some d=>j8 E η t' d k|none=>False)
  |_,_=>False)
 |.builtin .append=>(match c.args.toList,c.argTypes.toList with
  |[x,y],[t',t'']=>(match ρ x,ρ y with|some d,some d'=>bif Nat.beq t' t'' then ed E η t t' d d' k else False|_,_=>False)
  |_,_=>False)
 |.builtin .max=>(match c.args.toList with
  |[x,y]=>(match ρ x,ρ y with
   |some (.fr (.vl (.int .i64 a))),some (.fr (.vl (.int .i64 b)))=>k (.fr (.vl (.int .i64 (max a b)))) [] []
   |_,_=>False)
  |_=>False)
 |.builtin .min=>(match c.args.toList with
  |[x,y]=>(match ρ x,ρ y with
   |some (.fr (.vl (.int .i64 a))),some (.fr (.vl (.int .i64 b)))=>k (.fr (.vl (.int .i64 (min a b)))) [] []
   |_,_=>False)
  |_=>False)
 |.value f=>(match ρ f,jb (c.args.toList.map ρ)with
  |some (.cl f cs),some l=>G t η f (l++cs) k
  |some (.fr (.cl f cs)),some l=>G t η f (l++cs.map F.toD) k
  |_,_=>False)
 |_=>False
def jL(t1 t2:Nat)(x:D)(k:Ks):Prop:=
 match E t1,E t2,x with
 |some ⟨_,_,.int k1⟩,some ⟨_,_,.int k2⟩,.fr (.vl (.int k' n))=>bif decide (k'=k1)then(∃m,k2.wrap n=m∧k (.fr (.vl (.int k2 m))) [] [])else False
 |some ⟨_,_,.sl e sz _⟩,some ⟨_,_,.str⟩,d=>(match E e with
  |some ⟨_,_,.int .u8⟩=>(match fI η d with
   |some (rows,rd)=>sz=1∧∃bs:List UInt8,rows=(bs.map fun b=>[.vl (.int .u8 b.toNat)])∧k (.fr (.vl (.string ⟨bs.toArray⟩))) rd []
   |none=>False)
  |_=>False)
 |_,_,_=>False
def dW(ρ:Operand→Option D):Option Operand→Option (Option D)
 |none=>some none
 |some y=>(ρ y).map some
def wpOp(G:CG)(ρ:Operand→Option D)(op:Op)(k:Ks):Prop:=
 match op with
 |.move x=>(match ρ x with|some d=>k d [] []|none=>False)
 |.assign x=>(match ρ x with|some d=>k d [] []|none=>False)
 |.pick c a b=>(match ρ c,ρ a,ρ b with|some (.fr (.vl (.bool q))),some x,some y=>(q=true→k x [] [])∧(q=false→k y [] [])|_,_,_=>False)
 |.alloc t'=>(match E t' with
  |some i=>bif Nat.blt 0 i.z.length then k (.ptr t (nv η t) 0) [t] [(t,.va (nv η t) t' (i.z.map fun v=>.fr (.vl v)))]else False
  |none=>False)
 |.box t' x=>(match ρ x with|some d=>d.cells.all D.one=true∧k (.ptr t (nv η t) 0) [t] [(t,.va (nv η t) t' d.cells)]|none=>False)
 |.build t' ps=>fH E t' (ps.toList.map fun p=>(p.1,ρ p.2)) k
 |.buildSlice t' n ps=>pb E η t t' n (ps.toList.map fun p=>(p.1,ρ p.2)) k
 |.load t' x=>(match ρ x with|some d=>eS E η t' d k|none=>False)
 |.store t' x y=>(match ρ x,ρ y with|some d,some d'=>fM E η t' d d' k|_,_=>False)
 |.nilCheck x=>(match ρ x with
  |some (.ptr b v o)=>k (.ptr b v o) [] []
  |some (.rp b v sz i o)=>k (.rp b v sz i o) [] []
  |some (.fr (.pt sz rows i o))=>k (.fr (.pt sz rows i o)) [] []
  |some (.cl f cs)=>k (.cl f cs) [] []
  |some (.fr (.cl f cs))=>k (.fr (.cl f cs)) [] []
  |_=>False)
 |.binOp op ty x y _=>(match ρ x,ρ y with
  |some d,some d'=>(match E ty with
   |some ⟨_,_,.bool⟩=>nG op d d' fun r=>k r [] []
   |some ⟨_,_,.ar len e sz⟩=>(match E e with
    |some ⟨_,_,.int ik⟩=>bif Nat.beq sz 1&&Nat.beq d.cells.length len&&Nat.beq d'.cells.length len then rA ik op d d' fun r=>k r [] []else False
    |_=>False)
   |_=>tE op d d' fun r=>k r [] [])
  |_,_=>False)
 |.unOp op _ x=>(match ρ x with|some d=>B1 op d fun r=>k r [] []|none=>False)
 |.convert t1 t2 x=>(match ρ x with|some d=>jL E η t1 t2 d k|none=>False)
 |.makeFunc (.func f) fst cap=>(match fst.toList,jb (cap.toList.map ρ)with|[],some l=>k (.cl f l) [] []|_,_=>False)
 |.makeSlice t' l c=>(match ρ l,ρ c with|some d,some d'=>jH E η t t' d d' k|_,_=>False)
 |.slice t' x lo hi mx=>(match ρ x with
  |some d=>fK E t' d (dW ρ lo) (dW ρ hi) mx.isSome k
  |none=>False)
 |.fieldAddr t' x j=>(match ρ x with|some d=>bX E t' d j k|none=>False)
 |.field t' x j=>(match ρ x with|some d=>ey E t' d j k|none=>False)
 |.indexAddr t' x y=>(match ρ x,ρ y with|some d,some d'=>bu E η t' d d' k|_,_=>False)
 |.index t' x y=>(match ρ x,ρ y with|some d,some d'=>gz E t' d d' k|_,_=>False)
 |.extract x j=>(match ρ x with|some d=>eJ d j k|none=>False)
 |.call c=>dY E η t G ρ c k
 |_=>False
end
def evD(Γ:Nat→Option (List F))(s:List (Nat×D)):Operand→Option D
 |.tmp t=>lk s t
 |.const v=>some (.fr (.vl v))
 |.global g=>match Γ g with
  |some cs=>some (.fr (.pt cs.length [cs] 0 0))
  |none=>none
 |.func f=>some (.fr (.cl f []))
structure Cx where
 Q:Nat→Bool
 B:Nat
 E:TE
 Γ:Nat→Option (List F)
 G:CG
 GD:CG
 N:Nat
def A.put(st:A)(dst:Option Nat)(d:D)(e:List (Nat×B)):A:=
 match dst with
 |some t=>⟨(t,d)::st.s,(match e with|[]=>st.h|e=>e++st.h)⟩
 |none=>⟨st.s,(match e with|[]=>st.h|e=>e++st.h)⟩
def Cn(X:Cx):Option Nat→Bool
 |some t=>Nat.blt t X.N
 |none=>true
inductive Ac where
 |ex (d:D) (rd:List Nat) (e:List (Nat×B))
 |sk
def Ac.rd:Ac→List Nat
 |.ex _ rd _=>rd
 |.sk=>[]
def Ac.wr:Ac→List Nat
 |.ex _ _ e=>e.map (·.1)
 |.sk=>[]
def uP(l m:List Nat):Bool:=l.all fun x=>m.all fun y=>!Nat.beq x y
def vF(ops:Array Oper)(acs:List Ac)(k i:Nat):Bool:=
 match ops[k]?,ops[i]?,acs[k]?,acs[i]? with
 |some o1,some o2,some a1,some a2=>o1.apart ops o2&&uP a1.wr (a2.rd++a2.wr)&&uP a2.wr a1.rd
 |_,_,_,_=>true
def okD(ops:Array Oper)(acs:List Ac):Bool:=
 Region.noSelect ops&&(List.range ops.size).all fun i=>
  (match ops[i]? with|some o=>o.after.all fun e=>!Region.binds .any e||Nat.blt e.on i|none=>true) &&
  (List.range i).all fun k=>cZ ops 6 i k||vF ops acs k i
def FX(P:Program)(t j o s:Nat)(g:Bool):Prop:=
 match g with
 |false=>∀(cs:Array Value) v w,cs[o]?=some v→(Instr.field t (.agg cs) j).run P w=.ok v w
 |true=>∀(cs:Array Value) w,(Instr.field t (.agg cs) j).run P w=.ok (.agg (cs.extract o (o+s))) w
theorem FX.of1 {P:Program}{t i off s:Nat}{fs:Array Field}{f:Field}{d:TypeDesc} (hu:P.underlying t=some (.struct fs)) (hf':fs[i]?=some f) (ho:f.offset=off) (hd:P.underlying f.type=some d)
  (hd':(match d with | .struct _ | .array _ _=>true|_=>false)=false):FX P t i off s false:=(FV.of hu hf' ho hd hd').run
theorem FX.ofA {P:Program}{t i off s:Nat}{fs:Array Field}{f:Field}{d:TypeDesc} (hu:P.underlying t=some (.struct fs)) (hf':fs[i]?=some f) (ho:f.offset=off) (hd:P.underlying f.type=some d)
  (hd':(match d with | .struct _ | .array _ _=>true|_=>false)=true) (hs:(P.info? f.type).map (·.size)=some s):FX P t i off s true:=by
 obtain⟨⟨inf,h1,h2⟩⟩:=SZ.of hs;intro cs w;subst ho
 cases d<;>simp at hd'<;>simp[Instr.field,run_underlying hu,hf',part,isAgg,run_underlying hd,asAgg,sizeOf,typeInfo,h1,h2]
structure TOk(P:Program)(t:Nat)(i:TI):Prop where
 sz:SZ P t i.sz
 z:i.z≠[]→∃v,ZV P t v∧v.cells=i.z.toArray∧cb i.z=true
 ld:match i.k.agg with
  |true=>LN P t i.sz
  |false=>L1 P t
 k:match i.k with
  |.int k=>UD P t (.int k)
  |.flt k=>UD P t (.float k)
  |.cpx k=>UD P t (.complex k)
  |.bool=>UD P t .bool
  |.str=>UD P t .string
  |.sl e sz by_=>∃z,SlT P t e sz by_ z
  |.st fs=>(∀j o s g,fs[j]?=some (o,s,g)→(0<s→FA P t j o)∧FX P t j o s g)∧PL P t (.agg i.z.toArray) (fs.map fun p=>(p.1,p.2.1)).toArray
  |.ar len e sz=>AT P t len e sz∧(i.z≠[]→ZV P t (.agg i.z.toArray))
  |.mp k e=>UD P t (.map k e)
  |.fn=>∃a b c,UD P t (.func a b c)
  |.ptr=>∃e n,UD P t (.pointer e)∧SZ P e n∧0<n
  |.oth=>True
 zd:i.z≠[]→match i.k.agg with
  |true=>ZV P t (.agg i.z.toArray)
  |false=>∀u,i.z=[u]→ZV P t u
section
variable {P:Program}{n:FD}{s:List (Nat×D)}{Γ:Nat→Option (List F)}{c:Cf}{a:Act}{w:World}
def GOk(Γ:Nat→Option (List F))(c:Cf):Prop:=∀g cs,Γ g=some cs→F.rep c.Z c.R (.pt cs.length [cs] 0 0) (.pointer (some ⟨g,0,none⟩))
theorem GOk.ext{c':Cf}(h:GOk Γ c)(he:Ext c.Z c.R c'.Z c'.R):GOk Γ c':=fun g cs hg=>F.rep.ext he _ _ (h g cs hg)
theorem lP(hs:kS c n s a)(hg:GOk Γ c){x:Operand}{d:D}(h:evD Γ s x=some d):D.rep c d (a.eval x):=by
 cases x with
 |tmp t=>exact hs.get t d h
 |const v=>
  simp[evD]at h;subst h;unfold D.rep F.rep;rfl
 |global g=>
  simp only[evD]at h
  split at h
  ·rename_i cs hcs
   cases h;unfold D.rep;exact hg g cs hcs
  ·cases h
 |func f=>
  simp[evD]at h;subst h;unfold D.rep F.rep;exact⟨[],rfl,by simp[F.ah]⟩
def sv(a:Act)(s:List (Nat×D)):Sg:=s.map fun p=>(p.1,a.tmps.getD p.1 undef)
theorem Kw:∀(s:List (Nat×D)) (k:Nat) (v:Value),Sl.lk (sv a s) k=some v→v=a.tmps.getD k undef
 |[],k,v,h=>by simp[sv,Sl.lk]at h
 |p::l,k,v,h=>by
  simp only[sv,List.map_cons,Sl.lk]at h
  cases hb:Nat.beq p.1 k with
  |true=>
   rw[hb]at h;have e:=Nat.eq_of_beq_eq_true hb;rw[e]at h;simpa using h.symm
  |false=>
   rw[hb]at h;exact Kw l k v h
theorem Ix(hs:kS c n s a):Fr n (sv a s) a:=⟨hs.size,hs.defers,fun i v h=>(Kw s i v h).symm⟩
theorem Db:∀(s:List (Nat×D)) (k:Nat) (d:D),lk s k=some d→Sl.lk (sv a s) k=some (a.tmps.getD k undef)
 |[],k,v,h=>by simp[lk]at h
 |p::l,k,v,h=>by
  simp only[lk]at h;simp only[sv,List.map_cons,Sl.lk]
  cases hb:Nat.beq p.1 k with
  |true=>
   have e:=Nat.eq_of_beq_eq_true hb;rw[e];rfl
  |false=>
   rw[hb]at h;exact Db l k v h
theorem MO{x:Operand}{d:D}(h:evD Γ s x=some d):Sl.ev (sv a s) x=some (a.eval x):=by
 cases x with
 |tmp t=>exact Db s t d h
 |const v=>rfl
 |global g=>rfl
 |func f=>rfl
theorem aL{x u:Value}(h:D.rep c (.fr (.vl x)) u):u=x:=by unfold D.rep F.rep at h;exact h
theorem aX(x:Value):D.rep c (.fr (.vl x)) x:=by unfold D.rep F.rep;rfl
theorem Dp{op:BinOp}{k:IntKind}{x y m:Int}{K:D→Prop}(h:rK k m K)(hr:∀w,(Op.intArith op k x y).run P w=.ok (.int k (k.wrap m)) w) :
  ∃d v,K d∧D.rep c d v∧∀w,(Op.intArith op k x y).run P w=.ok v w:=by
 unfold rK at h
 split at h
 ·refine⟨_,_,h.2,aX _,fun w=>?_⟩;rw[hr w,IntWalk.i64_in _ h.1]
 ·obtain⟨m',rfl,h⟩:=h;exact⟨_,_,h,aX _,hr⟩
theorem Mr{op:BinOp}{ka kb:IntKind}{x y:Int}{t:TypeId}{K:D→Prop}(h:qY op ka x kb y K):∃d v,K d∧D.rep c d v∧∀w,(binOp op t (.int ka x) (.int kb y)).run P w=.ok v w:=by
 have sel:∀{X:Prop},(bif decide (ka=kb)then X else False)→ka=kb∧X:=by
  intro X hX
  by_cases e:ka=kb
  ·simp[e]at hX;exact⟨e,hX⟩
  ·simp[e]at hX
 unfold qY at h
 split at h
 ·obtain⟨e0,h'⟩:=sel h;clear h;subst e0;obtain⟨d,v,h1,h2,h3⟩:=Dp (P:=P) (op:=.add) (x:=x) (y:=y) (c:=c) h' (fun w=>rfl);exact⟨d,v,h1,h2,fun w=>by simp[binOp,h3]⟩
 ·obtain⟨e0,h'⟩:=sel h;clear h;subst e0;obtain⟨d,v,h1,h2,h3⟩:=Dp (P:=P) (op:=.sub) (x:=x) (y:=y) (c:=c) h' (fun w=>rfl);exact⟨d,v,h1,h2,fun w=>by simp[binOp,h3]⟩
 ·obtain⟨e0,h'⟩:=sel h;clear h;subst e0;obtain⟨d,v,h1,h2,h3⟩:=Dp (P:=P) (op:=.mul) (x:=x) (y:=y) (c:=c) h' (fun w=>rfl);exact⟨d,v,h1,h2,fun w=>by simp[binOp,h3]⟩
 ·obtain⟨e0,h'⟩:=sel h;clear h;subst e0;exact⟨_,_,h',aX _,fun w=>by simp[binOp,Op.intCmp]⟩
 ·obtain⟨e0,h'⟩:=sel h;clear h;subst e0;exact⟨_,_,h',aX _,fun w=>by simp[binOp,Op.intCmp]⟩
 ·obtain⟨e0,h'⟩:=sel h;clear h;subst e0;exact⟨_,_,h',aX _,fun w=>by simp[binOp,Op.intCmp]⟩
 ·obtain⟨e0,h'⟩:=sel h;clear h;subst e0;exact⟨_,_,h',aX _,fun w=>by simp[binOp,Op.intCmp]⟩
 ·obtain⟨e0,h'⟩:=sel h;clear h;subst e0;have e:(x==y)=decide (x=y):=by rw[Bool.eq_iff_iff];simp
  exact⟨_,_,h',aX _,fun w=>by simp[binOp,Op.intCmp,e]⟩
 ·obtain⟨e0,h'⟩:=sel h;clear h;subst e0;have e:(x != y)=!decide (x=y):=by rw[Bool.eq_iff_iff];simp
  exact⟨_,_,h',aX _,fun w=>by simp[binOp,Op.intCmp,e]⟩
 ·refine⟨_,_,h.2,aX _,fun w=>?_⟩;simp[binOp,Op.shift,show ¬y<0 by omega]
 ·refine⟨_,_,h.2,aX _,fun w=>?_⟩;simp[binOp,Op.shift,show ¬y<0 by omega]
 ·obtain⟨e0,h'⟩:=sel h;clear h;subst e0;obtain⟨hy,m',rfl,h'⟩:=h';exact⟨_,_,h',aX _,fun w=>by simp[binOp,Op.intDiv,hy]⟩
 ·obtain⟨e0,h'⟩:=sel h;clear h;subst e0;obtain⟨hy,m',rfl,h'⟩:=h';exact⟨_,_,h',aX _,fun w=>by simp[binOp,Op.intDiv,hy]⟩
 ·rename_i h1 h2 h3 h4 h5 h6 h7 h8 h9 h10 h11 h12 h13;obtain⟨e0,h'⟩:=sel h;clear h;subst e0
  cases op<;>simp[yZ]at h'<;>first|exact⟨_,_,h',aX _,fun w=>by simp[binOp,Op.intBits]⟩|(exfalso;simp at *)
theorem uc{ik:IntKind}:∀{l:List D}{m:List Int}{vs:List Value},ints ik l=some m→D.ah c l vs→vs=m.map (.int ik)
 |[],m,vs,h,hr=>by
  simp[ints]at h;unfold D.ah at hr;simp[h,hr]
 |x::l,m,vs,h,hr=>by
  unfold D.ah at hr;obtain⟨u,us,rfl,hu,hus⟩:=hr;unfold ints at h
  split at h
  ·rename_i hx;cases hx
  ·rename_i k' n l' hx
   cases hx
   by_cases e:ik=k'
   ·subst e;simp only[decide_true,cond_true]at h
    split at h
    ·rename_i m' hm
     cases h;rw[uc hm hus,aL hu];rfl
    ·cases h
   ·simp[e]at h
  ·cases h
theorem rE{t e len:Nat}{ik:IntKind}(ht:P.underlying t=some (.array len e))(he:P.underlying e=some (.int ik))(hz:SZ P e 1)(l m:List Int)(hl:l.length=len)(hm:m.length=len)(w:World) :
  (Op.equal t (.agg (l.map (.int ik)).toArray) (.agg (m.map (.int ik)).toArray)).run P w=.ok (decide (l=m)) w:=by
 have h1:∀(a b:Int) w,(Op.equalIn 9999 e (.int ik a) (.int ik b)).run P w=.ok (a==b) w:=fun a b w=>run_equalIn_int w 9998 _ _ _ a b he
 have h2:(sizeOf e).run P w=.ok 1 w:=by
  obtain⟨i,hi,hk⟩:=hz.info;simp[sizeOf,typeInfo,hi,hk]
 have h3:∀w,(isAgg e).run P w=.ok false w:=fun w=>by simp[isAgg,run_underlying he]
 have hp:∀(xs:List Int) i x,xs[i]?=some x→(part e (xs.map (.int ik)).toArray (i*1)).run P w=.ok (.int ik x) w:=by
  intro xs i x hx;have:((xs.map (.int ik)).toArray)[i*1]?=some (Value.int ik x):=by simp[hx]
  simp[part,h3,hx]
 show(Op.equalIn (9999+1) _ _ _).run _ _=_
 rw[Op.equalIn];simp only[Sem.run_bind,run_underlying ht,Result.andThen_ok,h2];simp only[Std.Legacy.Range.forIn_eq_forIn_range',Std.Legacy.Range.size];have key:∀(k s:Nat),s+k=len→(forIn (m:=Sem) (List.range' s k) ((none:Option Bool),()) fun i _=>do
    let x ←part e (l.map (.int ik)).toArray (i*1)
    let y ←part e (m.map (.int ik)).toArray (i*1)
    let b ←Op.equalIn 9999 e x y
    if(!b)=true then pure (ForInStep.done (some false,()))else pure (ForInStep.yield (none,()))).run P w =
   .ok (if l.drop s=m.drop s then(none,())else(some false,())) w:=by
  intro k
  induction k with
  |zero=>
   intro s hs;rw[List.drop_of_length_le (by omega),List.drop_of_length_le (by omega)];simp
  |succ k ih=>
   intro s hs;have hsl:s<l.length:=by omega
   have hsm:s<m.length:=by omega
   have g1:=hp l s _ (List.getElem?_eq_getElem hsl);have g2:=hp m s _ (List.getElem?_eq_getElem hsm);have ih':=ih (s+1) (by omega);rw[List.range'_succ,List.forIn_cons];simp only[Sem.run_bind,g1,g2,h1,Result.andThen_ok];rw[List.drop_eq_getElem_cons hsl,List.drop_eq_getElem_cons hsm]
   by_cases e0:l[s]=m[s]
   ·simp only[e0,beq_self_eq_true,Bool.not_true,Bool.false_eq_true,if_false,Sem.run_pure,Result.andThen_ok,ih',List.cons.injEq,true_and]
   ·have e1:(l[s]==m[s])=false:=by simpa using e0
    simp only[e1,Bool.not_false,if_true,Sem.run_pure,Result.andThen_ok];rw[if_neg (fun h=>e0 (List.cons.inj h).1)]
 have:=key len 0 (by omega);rw[show(len-0+1-1)/1=len by simp,this]
 by_cases e0:l=m<;>simp[e0]
theorem DJ{t e len:Nat}{ik:IntKind}(ht:P.underlying t=some (.array len e))(he:P.underlying e=some (.int ik))(hd:2≤P.depth):P.eqGuardType P.depth t=false:=by
 obtain⟨d,hd⟩:∃d,P.depth=d+2:=⟨P.depth-2,by omega⟩
 rw[hd];simp[Program.eqGuardType,ht,he]
theorem Mh{op:BinOp}{x y:ByteArray}{t:TypeId}{K:D→Prop}(h:qW op x y K):∃d v,K d∧D.rep c d v∧∀w,(binOp op t (.string x) (.string y)).run P w=.ok v w:=by
 unfold qW at h
 split at h
 ·refine⟨_,_,h.2,aX _,fun w=>?_⟩;have h1:=h.1;simp[binOp,Op.stringOp];have e:¬IntKind.i64.max<(x.size:Int)+(y.size:Int):=by
   have:IntKind.i64.max=9223372036854775807:=by decide
   omega
  simp[e];omega
 ·exact⟨_,_,h,aX _,fun w=>by simp[binOp,Op.stringOp,←toList_eq]⟩
 ·exact⟨_,_,h,aX _,fun w=>by simp[binOp,Op.stringOp,←toList_eq]⟩
 ·exact h.elim
def Res(W:Bs)(η:Env)(c:Cf)(k:Ks)(v:Value)(w':World):Prop:=
 ∃d rd e c' O',k d rd e∧c.le c'∧D.rep c' d v∧Hp c' O' (lk2 e η) w'∧Old W c' O' w'
where
 lk2:List (Nat×B)→Env→Env
  |[],η=>η
  |(b,x)::l,η=>up (lk2 l η) b x
theorem s8:∀(e h:List (Nat×B)),lk (e++h)=Res.lk2 e (lk h)
 |[],h=>rfl
 |(b,x)::l,h=>by
  rw[List.cons_append,bU,s8 l h];rfl
variable {W:Bs}{O:Nat→Nat→Prop}{η:Env}{k:Ks}{E:TE}{t:Nat}
theorem Res.val{d:D}{v:Value}{rd:List Nat}(hk:k d rd [])(hd:D.rep c d v)(hp:Hp c O η w)(ho:Old W c O w):Res W η c k v w:=
 ⟨d,rd,[],c,O,hk,Cf.le.refl c,hd,hp,ho⟩
theorem vt{w w':World}{S:Nat→Prop}(h:Below w.heap.size w w'):Chg w w' S:=⟨h.os,h.tape,h.output,h.size,fun b hb _=>h.block b hb⟩
theorem Res.KA {w':World}{g t':Nat}{cs:List D}{vs:List Value} (hp:Hp c O η w) (ho:Old W c O w) (hs:Sl.St w [blk g vs t'] w') (hv:D.ah c cs vs) (h1:cb vs=true)
  {rd:List Nat} (hk:k (.ptr t (nv η t) 0) rd [(t,.va (nv η t) t' cs)]):Res W η c k (.pointer (some ⟨g,0,none⟩)) w':=by
 have hfr:=hp.fresh t;have hle:c.le (c.add t (nv η t) (some ⟨g,0,none⟩,0,0)):=Cf.eB hfr;obtain⟨S1,s1,s2,_⟩:=hs.sep;have hc:Chg w w' (O t):=vt hs.below;refine⟨_,_,_,_,_,hk,hle,?_,hp.upd hc (fun g hg=>.inr (s1 g hg)) hle rfl rfl (hp.cq rfl) ⟨g,vs,Cf.cP,D.ah.le hle _ _ hv,h1,s2⟩,ho.upd hc (fun g hg=>.inr (s1 g hg)) rfl rfl⟩;unfold D.rep;exact⟨g,Cf.cP,rfl⟩
theorem Res.ta {w':World}{A:Option Addr}{m k' e sz:Nat}{rows:List (List F)}{vr:List (List Value)}{rd:List Nat} (hp:Hp c O η w) (ho:Old W c O w) (hs:Sl.St w [own e sz A m k' vr] w') (hm:m=rows.length) (hv:F.aI c.Z c.R rows vr) (h1:∀r∈vr,cb r=true)
  (hk:k (.own t (nv η t)) rd [(t,.ro (nv η t) e sz rows)]):Res W η c k (.slice A m k') w':=by
 subst hm;have hfr:=hp.fresh t;have hle:c.le (c.add t (nv η t) (A,rows.length,k')):=Cf.eB hfr;obtain⟨S1,s1,s2,_⟩:=hs.sep;have hc:Chg w w' (O t):=vt hs.below;refine⟨_,_,_,_,_,hk,hle,?_,hp.upd hc (fun g hg=>.inr (s1 g hg)) hle rfl rfl (hp.cq rfl) ⟨A,k',vr,Cf.cP,F.aI.ext hle.ext _ _ hv,h1,s2⟩,ho.upd hc (fun g hg=>.inr (s1 g hg)) rfl rfl⟩;unfold D.rep;exact⟨A,rows.length,k',Cf.cP,rfl⟩
end
section
variable {P:Program}{n:FD}{s:List (Nat×D)}{Γ:Nat→Option (List F)}{c:Cf}{a:Act}{w:World}{W:Bs}{O:Nat→Nat→Prop}{η:Env}{k:Ks}{E:TE}{t:Nat}
theorem so{e sz m k':Nat}{A:Option Addr}{rows:List (List Value)}{S:Nat→Prop}(h:(own e sz A m k' rows).on S w):m≤k':=by
 rcases h.1.2 with⟨hv,h0⟩|⟨g,cap,cur,hv,_,_,hr1,_⟩
 ·injection hv with _ _ hc;omega
 ·injection hv with _ _ hc;omega
theorem BX{sz:Nat}{rows:List (List Value)}(h:∀r∈rows,r.length=sz)(l m j:Nat)(v:Value)(hj:((rows.drop l).take m).flatten[j]?=some v):rows.flatten[l*sz+j]?=some v:=by
 have e:rows.flatten=(rows.take l).flatten++(rows.drop l).flatten:=by rw[←List.flatten_append,List.take_append_drop]
 have hd:((rows.drop l).take m).flatten++((rows.drop l).drop m).flatten=(rows.drop l).flatten:=by rw[←List.flatten_append,List.take_append_drop]
 have hj2:(rows.drop l).flatten[j]?=some v:=by
  rw[←hd,List.getElem?_append_left (List.getElem?_eq_some_iff.1 hj).1];exact hj
 by_cases hl:l≤rows.length
 ·have hlen:(rows.take l).flatten.length=l*sz:=by
   rw[length_flatten (sz:=sz) (fun r hr=>h r (List.mem_of_mem_take hr)),List.length_take,Nat.min_eq_left hl]
  rw[e,List.getElem?_append_right (by omega),hlen,Nat.add_sub_cancel_left];exact hj2
 ·rw[List.drop_of_length_le (by omega)]at hj2;simp at hj2
theorem Arr.Kq{sz m c0 l h:Nat}{Z:Nat→Prop}{A:Option Addr}{rows:List (List Value)}(ha:Arr sz Z w A m rows)(hlh:l≤h)(hh:h≤m)(hc:m≤c0) :
  Arr sz Z w (if c0=l then A else A.map (·.add (l*sz))) (h-l) ((rows.take h).drop l):=by
 have hlen:=ha.1;refine⟨by rw[List.length_drop,List.length_take];omega,fun r hr=>ha.2.1 r (List.mem_of_mem_take (List.mem_of_mem_drop hr)),fun hpos=>?_⟩;obtain⟨ad,rfl,hS,hcell⟩:=ha.2.2 (by omega);have hne:¬c0=l:=by omega
 refine⟨ad.add (l*sz),by simp[hne],by rw[pU];exact hS,fun j v hj=>?_⟩;rw[add_add];refine hcell _ v ?_;have e:(rows.take h).drop l=(rows.drop l).take (h-l):=by rw[List.drop_take]
 rw[e]at hj;exact BX ha.2.1 l (h-l) j v hj
theorem Arr.uZ{sz m l h:Nat}{Z:Nat→Prop}{A A':Option Addr}{rows:List (List Value)}(ha:Arr sz Z w A m rows)(hlh:l≤h)(hh:h≤m)(hA:l<h→A'=A.map (·.add (l*sz))) :
  Arr sz Z w A' (h-l) ((rows.take h).drop l):=by
 have:=Arr.Kq (c0:=m+1) ha hlh hh (by omega);rw[if_neg (by omega)]at this
 by_cases e:l<h
 ·rw[hA e];exact this
 ·exact⟨this.1,this.2.1,fun hpos=>by omega⟩
def Zf(c:Cf)(O:Nat→Nat→Prop)(ids:List Nat):Nat→Prop:=fun g=>c.Z g∨∃b,b∈ids∧O b g
theorem Zf.ext(hp:Hp c O η w)(ids:List Nat):Ext c.Z c.R (Zf c O ids) w:=⟨fun g h=>.inl h,fun g h=>(hp.fz g h).2.1⟩
theorem fN{f:D→Option (F×List Nat)}{Z:Nat→Prop}{ids:List Nat}(hf:∀d x is u,f d=some (x,is)→(∀b∈is,b∈ids)→D.rep c d u→F.rep Z w x u) :
  ∀{cs:List D}{l:List F}{is:List Nat}{vs:List Value},cB f cs=some (l,is)→(∀b∈is,b∈ids)→D.ah c cs vs→F.ah Z w l vs
 |[],l,is,vs,h,_,hr=>by
  simp[cB]at h;unfold D.ah at hr;rw[h.1,hr];simp[F.ah]
 |x::cs,l,is,vs,h,hi,hr=>by
  simp only[cB]at h
  split at h
  ·rename_i y i ys is' h1 h2
   cases h;unfold D.ah at hr;obtain⟨u,us,rfl,hu,hus⟩:=hr;unfold F.ah;exact⟨u,us,rfl,hf _ _ _ _ h1 (fun b hb=>hi b (by simp[hb])) hu,fN hf h2 (fun b hb=>hi b (by simp[hb])) hus⟩
  ·cases h
theorem F.Bb{Z:Nat→Prop}{w:World}{x:F}{u:Value}(h:F.rep Z w x u):F.rep Z w x.nz u:=by
 unfold F.nz
 split
 ·unfold F.rep at h;subst h;unfold F.rep;exact⟨none,0,[],0,rfl,Nat.le_refl _,⟨rfl,by simp,fun h=>absurd h (by simp)⟩,by simp,by simp[F.aI]⟩
 ·exact h
theorem jC(hp:Hp c O η w)(ids:List Nat):∀(m:Nat) (d:D) (x:F) (is:List Nat) (u:Value),D.toF η m d=some (x,is)→(∀b∈is,b∈ids)→D.rep c d u→F.rep (Zf c O ids) w x u
 |0,d,x,is,u,h,_,_=>by simp[D.toF]at h
 |m+1,d,x,is,u,h,hi,hr=>by
  have ih:=jC hp ids m;unfold D.toF at h
  split at h
  ·cases h;unfold D.rep at hr;exact F.Bb (F.rep.ext (Zf.ext hp ids) _ _ hr)
  ·split at h
   ·rename_i l is' h1
    cases h;unfold D.rep at hr;obtain⟨vs,rfl,hvs⟩:=hr;unfold F.rep;exact⟨vs,rfl,fN ih h1 hi hvs⟩
   ·cases h
  ·split at h
   ·rename_i l is' h1
    cases h;unfold D.rep at hr;obtain⟨vs,rfl,hvs⟩:=hr;unfold F.rep;exact⟨vs,rfl,fN ih h1 hi hvs⟩
   ·cases h
  ·split at h
   ·rename_i l is' h1
    cases h;unfold D.rep at hr;obtain⟨vs,rfl,hvs⟩:=hr;unfold F.rep;exact⟨vs,rfl,fN ih h1 hi hvs⟩
   ·cases h
  ·rename_i b v o
   split at h
   ·rename_i v' bt cs hb
    cases hv:Nat.beq v v' with
    |false=>simp[hv]at h
    |true=>
     simp only[hv,cond_true]at h;have hv':=Nat.eq_of_beq_eq_true hv;subst hv'
     split at h
     ·rename_i l is' h1
      cases h;unfold D.rep at hr;obtain⟨g,hg,rfl⟩:=hr;obtain⟨g',vs,hg',hvs,hone,hblk⟩:=hp.pc b _ hb;rw[hg]at hg'
      cases hg';have hf:=fN ih h1 (fun b' hb'=>hi b' (by simp[hb'])) hvs;unfold F.rep;refine⟨⟨g,0,none⟩,[vs],by rw[add_lit];simp,⟨rfl,?_,fun _=>⟨_,rfl,.inr ⟨b,hi b (by simp),hblk.1⟩,fun j u hj=>?_⟩⟩,by simpa using hone,?_⟩
      ·intro r hr;simp at hr;subst hr;exact F.aW hf
      ·simp at hj;rw[add_lit,Nat.zero_add,cell_of_row w g j _ _ _ hblk.2];simpa using hj
      ·unfold F.aI;exact⟨vs,[],rfl,hf,by simp[F.aI]⟩
     ·cases h
   ·cases h
  ·rename_i b v
   split at h
   ·rename_i v' e sz rows hb
    cases hv:Nat.beq v v' with
    |false=>simp[hv]at h
    |true=>
     simp only[hv,cond_true]at h;have hv':=Nat.eq_of_beq_eq_true hv;subst hv'
     cases h;unfold D.rep at hr;obtain⟨A,m',k',hA,rfl⟩:=hr;obtain⟨A',k2,vr,hA',hvr,hone,hown⟩:=hp.pc b _ hb;rw[hA]at hA'
     cases hA';unfold F.rep;refine⟨A,k',vr,sz,rfl,so hown,(own.arr hown).mono (fun g hg=>.inr ⟨b,hi b (by simp),hg⟩),hone,F.aI.ext (Zf.ext hp ids) _ _ hvr⟩
   ·cases h
  ·rename_i b v
   split at h
   ·rename_i v' rows hb
    cases hv:Nat.beq v v' with
    |false=>simp[hv]at h
    |true=>
     simp only[hv,cond_true]at h;have hv':=Nat.eq_of_beq_eq_true hv;subst hv'
     cases h;unfold D.rep at hr;obtain⟨g,hA,rfl⟩:=hr;obtain⟨g',es,clock,hA',hS,hw,hrr⟩:=hp.pc b _ hb;rw[hA]at hA'
     cases hA';unfold F.rep;exact⟨g,es,clock,rfl,.inr ⟨b,hi b (by simp),hS⟩,hw,F.aI.ext (Zf.ext hp ids) _ _ hrr⟩
   ·cases h
  ·rename_i b v sz lo hi' ex
   split at h
   ·rename_i v' e sz' rows hb
    cases hv:(Nat.beq v v'&&Nat.beq sz sz')with
    |false=>simp[hv]at h
    |true=>
     simp only[hv,cond_true]at h;rw[Bool.and_eq_true]at hv;have hv':=Nat.eq_of_beq_eq_true hv.1;have hs':=Nat.eq_of_beq_eq_true hv.2;subst hv';subst hs'
     cases h;unfold D.rep at hr;obtain⟨A,m',k',hA,h1,h2,h3,A2,rfl,hA2⟩:=hr;obtain⟨A',k2,vr,hA',hvr,hone,hown⟩:=hp.pc b _ hb;rw[hA]at hA'
     cases hA';have harr:Arr sz (Zf c O ids) w A rows.length vr:=(own.arr hown).mono (fun g hg=>.inr ⟨b,hi b (by simp),hg⟩);have harr':=Arr.uZ (A':=A2) harr h1 h2 (fun hlt=>hA2 (.inr (by cases ex<;>simp<;>omega)));have hrep:=F.aI.ext (Zf.ext hp ids) _ _ hvr;unfold F.rep;have hl:((rows.take hi').drop lo).length=hi'-lo:=by rw[List.length_drop,List.length_take,Nat.min_eq_left h2]
     refine⟨_,_,(vr.take hi').drop lo,sz,by rw[hl],?_,by rw[hl];exact harr',fun r hr=>hone r (List.mem_of_mem_take (List.mem_of_mem_drop hr)),F.dn _ (F.cH _ hrep)⟩;rw[hl]
     cases ex<;>simp<;>omega
   ·cases h
  ·rename_i rows
   cases h;unfold D.rep at hr;obtain⟨A,vr,sz,rfl,h2,h3,h4⟩:=hr;unfold F.rep;exact⟨A,_,vr,sz,rfl,Nat.le_refl _,(Zf.ext hp ids).arr h2,h3,F.aI.ext (Zf.ext hp ids) _ _ h4⟩
  ·cases h
  ·cases h
  ·cases h
def cfz(c:Cf)(O:Nat→Nat→Prop)(ids:List Nat)(w:World):Cf:=⟨c.ι,w,Zf c O ids⟩
def Ofz(O:Nat→Nat→Prop)(ids:List Nat):Nat→Nat→Prop:=fun b g=>b ∉ ids∧O b g
theorem qC(hp:Hp c O η w)(ids:List Nat):c.le (cfz c O ids w):=⟨fun _ _ _ h=>h,Zf.ext hp ids⟩
theorem a7(η η0:Env):∀(ids:List Nat) (b:Nat),(b ∉ ids→Res.lk2 (aU η ids) η0 b=η0 b)∧(b∈ids→∀x,η b=some x→Res.lk2 (aU η ids) η0 b=some (.gone x.ver))
 |[],b=>⟨fun _=>rfl,fun h=>by simp at h⟩
 |i::l,b=>by
  obtain⟨h1,h2⟩:=a7 η η0 l b
  by_cases e:i=b
  ·subst e;refine⟨fun h=>by simp at h,fun _ x hx=>?_⟩;simp only[aU,hx,Res.lk2];exact bf
  ·refine⟨fun h=>?_,fun h x hx=>?_⟩
   ·simp at h;unfold aU
    split
    ·simp only[Res.lk2];rw[aG e];exact h1 h.2
    ·exact h1 h.2
   ·have hm:b∈l:=by
     rcases List.mem_cons.1 h with h|h
     ·exact absurd h.symm e
     ·exact h
    unfold aU
    split
    ·simp only[Res.lk2];rw[aG e];exact h2 hm x hx
    ·exact h2 hm x hx
theorem Hp.fz_(hp:Hp c O η w)(ids:List Nat)(hids:∀b∈ids,∃x,η b=some x):Hp (cfz c O ids w) (Ofz O ids) (Res.lk2 (aU η ids) η) w:=by
 have hle:=qC hp ids;refine⟨fun b x hx=>?_,fun b v y hy=>?_,fun b b' g h h'=>hp.apart b b' g h.2 h'.2,fun g hg=>?_,fun b g h=>hp.lt b g h.2⟩
 ·by_cases hb:b∈ids
  ·obtain⟨x0,hx0⟩:=hids b hb;rw[(a7 η η ids b).2 hb x0 hx0]at hx
   cases hx
   trivial
  ·rw[(a7 η η ids b).1 hb]at hx;have e:Ofz O ids b=O b:=funext fun g=>propext ⟨fun h=>h.2,fun h=>⟨hb,h⟩⟩
   rw[e];exact(hp.pc b x hx).le hle (fun _ _=>rfl)
 ·obtain⟨x,hx,hv⟩:=hp.bound b v y hy
  by_cases hb:b∈ids
  ·exact⟨_,(a7 η η ids b).2 hb x hx,hv⟩
  ·exact⟨x,by rw[(a7 η η ids b).1 hb];exact hx,hv⟩
 ·rcases hg with hg|⟨b,hb,hg⟩
  ·obtain⟨h1,h2,h3⟩:=hp.fz g hg;exact⟨h1,rfl,fun b h=>h3 b h.2⟩
  ·exact⟨hp.lt b g hg,rfl,fun b' h=>h.1 (hp.apart b b' g hg h.2▸hb)⟩
theorem Old.fz_(hp:Hp c O η w)(ho:Old W c O w)(ids:List Nat):Old W (cfz c O ids w) (Ofz O ids) w:=by
 refine⟨ho.os,ho.tape,ho.output,ho.size,ho.cv,fun b g h=>ho.own b g h.2,fun g hg=>?_,ho.le.trans (Zf.ext hp ids)⟩;rcases hg with hg|⟨b,_,hg⟩
 ·exact ho.mF g hg
 ·exact .inr (ho.own b g hg)
theorem dD{f:D→Option (F×List Nat)}(hf:∀d x is,f d=some (x,is)→∀b∈is,∃x,η b=some x) :
  ∀{cs:List D}{l:List F}{is:List Nat},cB f cs=some (l,is)→∀b∈is,∃x,η b=some x
 |[],l,is,h,b,hb=>by simp[cB]at h;simp[h.2]at hb
 |x::cs,l,is,h,b,hb=>by
  simp only[cB]at h
  split at h
  ·rename_i y i ys is' h1 h2
   cases h;rcases List.mem_append.1 hb with hb|hb
   ·exact hf _ _ _ h1 b hb
   ·exact dD hf h2 b hb
  ·cases h
theorem gC:∀(m:Nat) (d:D) (x:F) (is:List Nat),D.toF η m d=some (x,is)→∀b∈is,∃x,η b=some x
 |0,d,x,is,h,b,hb=>by simp[D.toF]at h
 |m+1,d,x,is,h,b,hb=>by
  have ih:=gC m;unfold D.toF at h
  split at h
  ·cases h;simp at hb
  ·split at h
   ·rename_i h1;cases h;exact dD ih h1 b hb
   ·cases h
  ·split at h
   ·rename_i h1;cases h;exact dD ih h1 b hb
   ·cases h
  ·split at h
   ·rename_i h1;cases h;exact dD ih h1 b hb
   ·cases h
  ·rename_i b0 v0 o0
   split at h
   ·rename_i v' bt cs hb'
    cases hv:Nat.beq v0 v' with
    |false=>simp[hv]at h
    |true=>
     simp only[hv,cond_true]at h
     split at h
     ·rename_i l is' h1
      cases h;rcases List.mem_cons.1 hb with rfl|hb
      ·exact⟨_,hb'⟩
      ·exact dD ih h1 b hb
     ·cases h
   ·cases h
  ·rename_i b0 v0
   split at h
   ·rename_i v' e sz rows hb'
    cases hv:Nat.beq v0 v' with
    |false=>simp[hv]at h
    |true=>
     simp only[hv,cond_true]at h
     cases h;simp at hb;subst hb;exact⟨_,hb'⟩
   ·cases h
  ·rename_i b0 v0
   split at h
   ·rename_i v' rows hb'
    cases hv:Nat.beq v0 v' with
    |false=>simp[hv]at h
    |true=>
     simp only[hv,cond_true]at h
     cases h;simp at hb;subst hb;exact⟨_,hb'⟩
   ·cases h
  ·rename_i b0 v0 sz0 lo0 hi0 ex0
   split at h
   ·rename_i v' e sz rows hb'
    cases hv:(Nat.beq v0 v'&&Nat.beq sz0 sz)with
    |false=>simp[hv]at h
    |true=>
     simp only[hv,cond_true]at h
     cases h;simp at hb;subst hb;exact⟨_,hb'⟩
   ·cases h
  ·cases h;simp at hb
  ·cases h
  ·cases h
  ·cases h
theorem zc{u:Value}(h:u.oneCell'=true):u.cells=#[u]:=by
 cases u<;>simp[Value.oneCell',Value.cells]at *
theorem F.ov{x:F}{u:Value}{Z:Nat→Prop}{w:World}(h:F.rep Z w x u)(h1:x.one=true):u.oneCell'=true:=by
 cases x<;>simp[F.one]at h1<;>unfold F.rep at h
 ·rw[h];exact h1
 ·obtain⟨A,c,vr,sz,rfl,_⟩:=h;rfl
 ·obtain⟨A,vr,rfl,_⟩:=h;rfl
 ·obtain⟨vs,rfl,_⟩:=h;rfl
 ·obtain⟨g,es,k,rfl,_⟩:=h;rfl
theorem D.ov{d:D}{u:Value}(h:D.rep c d u)(h1:d.one=true):u.oneCell'=true:=by
 cases d<;>simp[D.one]at h1<;>unfold D.rep at h
 ·exact F.ov h h1
 ·obtain⟨vs,rfl,_⟩:=h;rfl
 ·obtain⟨g,_,rfl⟩:=h;rfl
 ·obtain⟨A,m,k',_,rfl⟩:=h;rfl
 ·obtain⟨A,m,k',_,rfl⟩:=h;rfl
 ·obtain⟨g,_,rfl⟩:=h;rfl
 ·obtain⟨g,_,rfl⟩:=h;rfl
 ·obtain⟨A,m,k',_,_,_,_,A',rfl,_⟩:=h;rfl
 ·obtain⟨A,vr,sz,rfl,_⟩:=h;rfl
 ·obtain⟨us,vs,rfl,_⟩:=h;rfl
theorem D.fe:∀{l:List D}{vs:List Value},D.ah c l vs→l.all D.one=true→cb vs=true
 |[],vs,h,_=>by unfold D.ah at h;subst h;rfl
 |x::l,vs,h,h1=>by
  unfold D.ah at h;obtain⟨u,us,rfl,hu,hus⟩:=h;simp only[List.all_cons,Bool.and_eq_true]at h1;have h2:=D.fe hus h1.2;unfold cb at h2 ⊢;rw[List.all_cons,D.ov hu h1.1,h2];rfl
theorem F.fe{Z:Nat→Prop}{w:World}:∀{l:List F}{vs:List Value},F.ah Z w l vs→l.all F.one=true→cb vs=true
 |[],vs,h,_=>by unfold F.ah at h;subst h;rfl
 |x::l,vs,h,h1=>by
  unfold F.ah at h;obtain⟨u,us,rfl,hu,hus⟩:=h;simp only[List.all_cons,Bool.and_eq_true]at h1;have h2:=F.fe hus h1.2;unfold cb at h2 ⊢;rw[List.all_cons,F.ov hu h1.1,h2];rfl
theorem D.pV{d:D}{u:Value}(h:D.rep c d u)(h1:d.cells.all D.one=true):∃vs:List Value,u.cells=vs.toArray∧D.ah c d.cells vs∧cb vs=true:=by
 have key:d.cells=[d]→∃vs:List Value,u.cells=vs.toArray∧D.ah c d.cells vs∧cb vs=true:=by
  intro hd;rw[hd]at h1 ⊢;have hr:D.ah c [d] [u]:=by
   unfold D.ah;exact⟨u,[],rfl,h,by simp[D.ah]⟩
  refine⟨[u],?_,hr,D.fe hr h1⟩;simp at h1;exact zc (D.ov h h1)
 unfold D.cells at h1 ⊢
 split at h1
 ·unfold D.rep at h;obtain⟨vs,rfl,hvs⟩:=h;exact⟨vs,rfl,hvs,D.fe hvs h1⟩
 ·unfold D.rep F.rep at h;obtain⟨vs,rfl,hvs⟩:=h;exact⟨vs,rfl,D.fg hvs,D.fe (D.fg hvs) h1⟩
 ·rename_i h2 h3;have hd:d.cells=[d]:=by
   unfold D.cells
   split
   ·exact absurd rfl (h2 _)
   ·exact absurd rfl (h3 _)
   ·rfl
  have:=key hd;rw[hd]at this;exact this
end
theorem ax.aw{P:Program}{o:Oper}{a:Act}{w w':World}{v:Value}{F:Value→World→Prop}(h:(execOp a.eval o).run P w=.ok (.value v) w')(hF:F v w'):ax P o a w F:=by
 unfold ax;rw[h];exact hF
theorem ax.r8{P:Program}{o:Oper}{a:Act}{w w':World}{F:Value→World→Prop}(h:(execOp a.eval o).run P w=.ok .skip w')(hF:F undef w'):ax P o a w F:=by
 unfold ax;rw[h];exact hF
theorem ax.xN {P:Program}{o:Oper}{a:Act}{w w':World}{f:FuncId}{args:Array Value}{F:Value→World→Prop} (h:(execOp a.eval o).run P w=.ok (.enter f args) w')
  (hF:Calls P f args w' (fun e w''=>∃v,e=.returned v∧F v w'')):ax P o a w F:=by
 unfold ax;rw[h];exact hF
theorem TOk.ldA{P:Program}{t:Nat}{i:TI}(h:TOk P t i)(ha:i.k.agg=true):LN P t i.sz:=by
 have:=h.ld;rw[ha]at this;exact this
theorem TOk.ld1{P:Program}{t:Nat}{i:TI}(h:TOk P t i)(ha:i.k.agg=false):L1 P t:=by
 have:=h.ld;rw[ha]at this;exact this
theorem uJ{a b c d:Nat}(h:(Nat.beq a b&&Nat.beq c d)=true):a=b∧c=d:=by
 rw[Bool.and_eq_true]at h;exact⟨Nat.eq_of_beq_eq_true h.1,Nat.eq_of_beq_eq_true h.2⟩
theorem bB{b:Bool}{X:Prop}(h:bif b then X else False):b=true∧X:=by
 cases b with
 |true=>exact⟨rfl,h⟩
 |false=>exact h.elim
section
variable {P:Program}{n:FD}{s:List (Nat×D)}{Γ:Nat→Option (List F)}{c:Cf}{a:Act}{w:World}{W:Bs}{O:Nat→Nat→Prop}{η:Env}{k:Ks}{E:TE}{t:Nat}{o:Oper}
theorem run_load{x:Operand}{t':Nat}{i:TI}{p:Addr}{vs:List Value}{q:Nat}(hi:TOk P t' i)(ho:o.op=.load t' x)(hx:a.eval x=.pointer (some p))(hc:∀j v,vs[q+j]?=some v→w.cell? (p.add j)=some v) :
  (i.k.agg=true→q+i.sz≤vs.length→(execOp a.eval o).run P w=.ok (.value (.agg ((vs.drop q).take i.sz).toArray)) w)∧(i.k.agg=false→∀v,vs[q]?=some v→(execOp a.eval o).run P w=.ok (.value v) w):=by
 refine⟨fun ha hl=>?_,fun ha v hv=>?_⟩
 ·have h1:=(hi.ldA ha).run p w ((vs.drop q).take i.sz) (by simp;omega) (fun j v hj=>by
   rw[List.getElem?_take]at hj
   split at hj
   ·rw[List.getElem?_drop]at hj;exact hc j v hj
   ·cases hj)
  simp[execOp,ho,hx,Instr.loadAt,Instr.sureAddr,h1]
 ·have hv':=hc 0 v (by simpa using hv);have e:p.add 0=p:=by simp[Addr.add]
  rw[e]at hv';have h1:=(hi.ld1 ha).run p w v hv';simp[execOp,ho,hx,Instr.loadAt,Instr.sureAddr,h1]
theorem Ji{x:Operand}{t':Nat}{d:D}(hE:∀t i,E t=some i→TOk P t i)(hp:Hp c O η w)(hold:Old W c O w)(ho:o.op=.load t' x)(hd:D.rep c d (a.eval x))(h:eS E η t' d k):ax P o a w (Res W η c k):=by
 unfold eS at h
 split at h
 ·rename_i b v q i hi;have hi:=hE _ _ hi
  split at h
  ·rename_i v' bt cs hb
   replace h:=bB h
   obtain⟨hv,h⟩:=h;have hv:=Nat.eq_of_beq_eq_true hv;subst hv;unfold D.rep at hd;obtain⟨g,hg,hx⟩:=hd;obtain⟨g',vs,hg',hvs,hone,hblk⟩:=hp.pc b _ hb;rw[hg]at hg'
   cases hg';have hr:=run_load (P:=P) (w:=w) (q:=q) (vs:=vs) hi ho hx (fun j v hj=>by
    rw[add_lit,cell_of_row w g _ _ _ _ hblk.2];simpa using hj)
   have hlen:=D.aW hvs
   cases ha:i.k.agg with
   |true=>
    rw[ha]at h;refine ax.aw (hr.1 ha (by rw[hlen];exact h.1)) (Res.val h.2 ?_ hp hold);unfold D.rep;exact⟨_,rfl,D.cY _ (D.da _ hvs)⟩
   |false=>
    rw[ha]at h;obtain⟨d,hd,h⟩:=h;obtain⟨u,hu,hdu⟩:=D.b5 hvs hd;exact ax.aw (hr.2 ha u hu) (Res.val h hdu hp hold)
  ·exact h.elim
 ·rename_i b v sz j q i hi;have hi:=hE _ _ hi
  split at h
  ·rename_i v' e sz' rows hb
   replace h:=bB h
   obtain⟨hv,h⟩:=h;obtain⟨hv,hsz⟩:=uJ hv;subst hv;subst hsz;obtain⟨r,hrow,h⟩:=h;unfold D.rep at hd;obtain⟨A,m,k',hA,hx⟩:=hd;obtain⟨A',k2,vr,hA',hvr,hone,hown⟩:=hp.pc b _ hb;rw[hA]at hA'
   cases hA';obtain⟨rv,hrv,hrr⟩:=F.ff hvr hrow;have harr:=own.arr hown;have hr:=run_load (P:=P) (w:=w) (q:=q) (vs:=rv) hi ho hx (fun i v hi=>by
    rw[add_add];have:=harr.cell (i:=j) (j:=q+i) hrv hi;simpa [Nat.add_assoc]using this)
   have hlen:=F.aW hrr;have hrr':D.ah c (r.map .fr) rv:=D.fg (F.ah.ext (Ext.refl _ _) _ _ hrr)
   cases ha:i.k.agg with
   |true=>
    rw[ha]at h;refine ax.aw (hr.1 ha (by rw[hlen];exact h.1)) (Res.val h.2 ?_ hp hold);unfold D.rep;exact⟨_,rfl,D.fg (F.cY _ (F.da _ hrr))⟩
   |false=>
    rw[ha]at h;obtain⟨d,hd,h⟩:=h;obtain⟨u,hu,hdu⟩:=F.b5 hrr hd;exact ax.aw (hr.2 ha u hu) (Res.val h (by unfold D.rep;exact hdu) hp hold)
  ·exact h.elim
 ·rename_i sz rows j q i hi;have hi:=hE _ _ hi;obtain⟨r,hrow,h⟩:=h;unfold D.rep F.rep at hd;obtain⟨A,vr,hx,harr0,hone,hvr⟩:=hd;have harr:Arr sz c.Z w (some A) rows.length vr:=harr0.loc (fun g hg=>(hp.fz g hg).2.1);obtain⟨rv,hrv,hrr⟩:=F.ff hvr hrow;have hr:=run_load (P:=P) (w:=w) (q:=q) (vs:=rv) hi ho hx (fun i v hi=>by
   rw[add_add];have:=harr.cell (i:=j) (j:=q+i) hrv hi;simpa [Nat.add_assoc]using this)
  have hlen:=F.aW hrr
  cases ha:i.k.agg with
  |true=>
   rw[ha]at h;refine ax.aw (hr.1 ha (by rw[hlen];exact h.1)) (Res.val h.2 ?_ hp hold);unfold D.rep;exact⟨_,rfl,D.fg (F.cY _ (F.da _ hrr))⟩
  |false=>
   rw[ha]at h;obtain⟨d,hd,h⟩:=h;obtain⟨u,hu,hdu⟩:=F.b5 hrr hd;exact ax.aw (hr.2 ha u hu) (Res.val h (by unfold D.rep;exact hdu) hp hold)
 ·exact h.elim
theorem sC{f:D→Option (F×List Nat)}:∀{cs:List D}{l:List F}{is:List Nat},cB f cs=some (l,is)→l.length=cs.length
 |[],l,is,h=>by simp[cB]at h;simp[h.1]
 |x::cs,l,is,h=>by
  simp only[cB]at h
  split at h
  ·rename_i y i ys is' h1 h2
   cases h;simp[sC h2]
  ·cases h
theorem zr{d:D}{u:Value}{fs:List F}{is:List Nat}(hp:Hp c O η w)(ids:List Nat)(hd:D.rep c d u)(hm:cB (D.toF η 4) d.cells=some (fs,is))(hi:∀b∈is,b∈ids)(h1:fs.all F.one=true) :
  ∃ys:List Value,u.cells=ys.toArray∧F.ah (Zf c O ids) w fs ys∧cb ys=true:=by
 have key:∀vs:List Value,u.cells=vs.toArray→D.ah c d.cells vs→∃ys:List Value,u.cells=ys.toArray∧F.ah (Zf c O ids) w fs ys∧cb ys=true:=by
  intro vs e1 hvs;have:=fN (jC hp ids 4) hm hi hvs;exact⟨vs,e1,this,F.fe this h1⟩
 by_cases q1:∃cs,d=.ag cs
 ·obtain⟨cs,rfl⟩:=q1;unfold D.rep at hd;obtain⟨vs,rfl,hvs⟩:=hd;exact key vs rfl hvs
 ·by_cases q2:∃cs,d=.fr (.ag cs)
  ·obtain⟨cs,rfl⟩:=q2;unfold D.rep F.rep at hd;obtain⟨vs,rfl,hvs⟩:=hd;exact key vs rfl (D.fg hvs)
  ·have e0:d.cells=[d]:=by
    unfold D.cells
    split
    ·exact absurd ⟨_,rfl⟩ q1
    ·exact absurd ⟨_,rfl⟩ q2
    ·rfl
   have hvs:D.ah c d.cells [u]:=by
    rw[e0];unfold D.ah;exact⟨u,[],rfl,hd,by simp[D.ah]⟩
   have hf:=fN (jC hp ids 4) hm hi hvs;have ho:=F.fe hf h1;refine key [u] ?_ hvs;unfold cb at ho;simp at ho;exact zc ho
theorem oW:∀{cs:List D} (q:Nat) {ds:List D},q+ds.length≤cs.length→setAt cs q ds=cs.take q++ds++cs.drop (q+ds.length)
 |cs,q,[],h=>by cases cs<;>simp[setAt]
 |[],q,d::ds,h=>by simp at h
 |x::cs,0,d::ds,h=>by
  simp only[setAt];rw[oW 0 (by simpa using h)];simp
 |x::cs,q+1,d::ds,h=>by
  simp only[setAt];rw[oW q (by simp at h ⊢;omega)];simp[Nat.add_right_comm q 1]
theorem pH:∀{cs:List F} (q:Nat) {ds:List F},q+ds.length≤cs.length→setAt cs q ds=cs.take q++ds++cs.drop (q+ds.length)
 |cs,q,[],h=>by cases cs<;>simp[setAt]
 |[],q,d::ds,h=>by simp at h
 |x::cs,0,d::ds,h=>by
  simp only[setAt];rw[pH 0 (by simpa using h)];simp
 |x::cs,q+1,d::ds,h=>by
  simp only[setAt];rw[pH q (by simp at h ⊢;omega)];simp[Nat.add_right_comm q 1]
theorem FI{x y:Operand}{t':Nat}{d d':D}(hE:∀t i,E t=some i→TOk P t i)(hp:Hp c O η w)(hold:Old W c O w)(ho:o.op=.store t' x y)(hd:D.rep c d (a.eval x))(hd':D.rep c d' (a.eval y))(h:fM E η t' d d' k):ax P o a w (Res W η c k):=by
 unfold fM at h
 split at h
 ·rename_i b v q i hi;have hi:=hE _ _ hi
  split at h
  ·rename_i v' bt cs hb
   replace h:=bB h
   obtain⟨hv,h⟩:=h;obtain⟨hv,hlen⟩:=uJ hv;subst hv;obtain⟨h1,h2,h0,hk⟩:=h;unfold D.rep at hd;obtain⟨g,hg,hx⟩:=hd;obtain⟨g',vs,hg',hvs,hone,hblk⟩:=hp.pc b _ hb;rw[hg]at hg'
   cases hg';obtain⟨ys,hy,hyr,hyo⟩:=D.pV hd' h1;have hyl:ys.length=i.sz:=(D.aW hyr).trans hlen;have hvl:=D.aW hvs;obtain⟨inf,hi1,hi2⟩:=hi.sz.info;have hst:=run_storeCells_at P g q bt ys 0 vs.toArray w hblk.2 (by simp;omega) (gI hyo);simp only[Nat.add_zero]at hst;have hc:Chg w (w.setRow g (bP vs q ys).toArray) (O b):=jI hblk.1;have hset:setAt cs q d'.cells=cs.take q++d'.cells++cs.drop (q+d'.cells.length):=oW q (by omega);have hrep:D.ah c (setAt cs q d'.cells) (bP vs q ys):=by
    rw[hset];unfold bP;rw[hyl,←hlen];exact D.bw (D.bw (D.cY _ hvs) hyr) (D.da _ hvs)
   have hson:cb (bP vs q ys)=true:=by
    unfold cb bP at *;rw[List.all_append,List.all_append,hyo];simp only[Bool.and_true,Bool.and_eq_true,List.all_eq_true]at *;exact⟨fun x hx=>hone x (List.mem_of_mem_take hx),fun x hx=>hone x (List.mem_of_mem_drop hx)⟩
   have hsub:∀g',O b g'→O b g'∨(w.heap.size≤g'∧g'<(w.setRow g (bP vs q ys).toArray).heap.size):=fun _ h=>.inl h
   refine ax.r8 (w':=w.setRow g (bP vs q ys).toArray) ?_ ⟨_,_,_,c,_,hk,Cf.le.refl c,aX _,hp.upd hc hsub (Cf.le.refl c) rfl rfl (hp.cu hb rfl) ⟨g,_,hg,hrep,hson,hblk.1,setRow_heap w g vs.toArray _ bt (0,0) hblk.2⟩,hold.upd hc hsub rfl rfl⟩;have:(storeCells ⟨g,q,none⟩ ys).run P w=.ok () (w.setRow g (bP vs q ys).toArray):=by
    unfold bP;simpa using hst
   simp[execOp,ho,hx,Instr.storeAt,Instr.sureAddr,storeVar,sizeOf,typeInfo,hi1,hi2,hy,hyl,this]
  ·exact h.elim
 ·rename_i b v sz j q i hi;have hi:=hE _ _ hi
  split at h
  ·rename_i v' e sz' rows hb
   replace h:=bB h
   obtain⟨hv,h⟩:=h;rw[Bool.and_eq_true]at hv;obtain⟨hv,hlen⟩:=hv;obtain⟨hv,hsz⟩:=uJ hv;have hlen:=Nat.eq_of_beq_eq_true hlen;subst hv;subst hsz;obtain⟨r,hrow,h⟩:=h
   split at h
   ·rename_i fs is hm;obtain⟨h1,h2,h0,hnb,hk⟩:=h;have hnb:b ∉ is:=by simpa using hnb
    unfold D.rep at hd;obtain⟨A,m,k',hA,hx⟩:=hd;have hids:∀b∈is,∃x,η b=some x:=dD (gC 4) hm;have hle:=qC hp is;have hp1:=hp.fz_ is hids;have hold1:=hold.fz_ hp is;have hb1:Res.lk2 (aU η is) η b=some (.ro v e sz rows):=by rw[(a7 η η is b).1 hnb];exact hb
    obtain⟨A',k2,vr,hA',hvr,hone,hown⟩:=hp1.pc b _ hb1;rw[hle.ι _ _ _ hA]at hA'
    cases hA';obtain⟨rv,hrv,hrr⟩:=F.ff hvr hrow;obtain⟨ys,hy,hyr,hyo⟩:=zr hp is hd' hm (fun b h=>h) h1;have hfl:fs.length=d'.cells.length:=sC hm;have hyl:ys.length=i.sz:=(F.aW hyr).trans (hfl.trans hlen);have hrl:=F.aW hrr;have hrsz:rv.length=sz:=hown.2.2.1 rv (List.mem_of_getElem? hrv);obtain⟨inf,hi1,hi2⟩:=hi.sz.info;obtain⟨w',hst,hc,hown'⟩:=own.store (P:=P) hown hrv (o:=q) (vs:=ys) (by omega) hyo (by omega);have hset:setAt r q fs=r.take q++fs++r.drop (q+fs.length):=pH q (by omega);have hrep:F.aI (cfz c O is w).Z (cfz c O is w).R (rows.set j (setAt r q fs)) (vr.set j (bP rv q ys)):=by
     refine F.tB j hvr ?_;rw[hset];unfold bP;rw[hyl,←hlen,←hfl];exact F.bw (F.bw (F.cY _ hrr) hyr) (F.da _ hrr)
    have hson:cb (bP rv q ys)=true:=by
     have h3:=hone rv (List.mem_of_getElem? hrv);unfold cb bP at *;rw[List.all_append,List.all_append,hyo];simp only[Bool.and_true,Bool.and_eq_true,List.all_eq_true]at *;exact⟨fun x hx=>h3 x (List.mem_of_mem_take hx),fun x hx=>h3 x (List.mem_of_mem_drop hx)⟩
    have hsub:∀g',Ofz O is b g'→Ofz O is b g'∨(w.heap.size≤g'∧g'<w'.heap.size):=fun _ h=>.inl h
    have hlen2:(rows.set j (setAt r q fs)).length=rows.length:=by simp
    refine ax.r8 (w':=w') ?_ ⟨_,_,_,_,_,hk,hle,aX _,hp1.upd hc hsub (Cf.le.refl _) rfl rfl (hp1.cu hb1 rfl) ⟨some A,k',_,by rw[hlen2];exact hle.ι _ _ _ hA,hrep,?_,by rw[hlen2];exact hown'⟩,hold1.upd hc hsub rfl rfl⟩
    ·simp only[Option.getD_some]at hst;simp[execOp,ho,hx,Instr.storeAt,Instr.sureAddr,storeVar,sizeOf,typeInfo,hi1,hi2,hy,hyl,hst]
    ·intro r' hr';rcases List.mem_or_eq_of_mem_set hr' with h4|rfl
     ·exact hone r' h4
     ·exact hson
   ·exact h.elim
  ·exact h.elim
 ·exact h.elim
end
section
variable {P:Program}{n:FD}{s:List (Nat×D)}{Γ:Nat→Option (List F)}{c:Cf}{a:Act}{w:World}{W:Bs}{O:Nat→Nat→Prop}{η:Env}{k:Ks}{E:TE}{t:Nat}{o:Oper}
theorem wZ{x:Operand}{t' j:Nat}{d:D}(hE:∀t i,E t=some i→TOk P t i)(hp:Hp c O η w)(hold:Old W c O w)(ho:o.op=.fieldAddr t' x j)(hd:D.rep c d (a.eval x))(h:bX E t' d j k):ax P o a w (Res W η c k):=by
 unfold bX at h
 split at h
 ·rename_i sz z fs hi;have hk:=(hE _ _ hi).k;simp only at hk
  split at h
  ·rename_i o' s' g hj
   replace h:=bB h
   obtain⟨h0,h⟩:=h;have hf:=(hk.1 j o' s' g hj).1 (b6 h0)
   split at h
   ·rename_i b v q;unfold D.rep at hd;obtain⟨g,hg,hx⟩:=hd;refine ax.aw (v:=.pointer (some ⟨g,q+o',none⟩)) ?_ (Res.val h (by unfold D.rep;exact⟨g,hg,rfl⟩) hp hold);simp[execOp,ho,hx,hf.run,add_lit]
   ·rename_i b v sz i q;unfold D.rep at hd;obtain⟨A,m,k',hA,hx⟩:=hd;refine ax.aw (v:=.pointer (some (A.add (i*sz+(q+o'))))) ?_ (Res.val h (by unfold D.rep;exact⟨A,m,k',hA,rfl⟩) hp hold);simp[execOp,ho,hx,hf.run,add_add,Nat.add_assoc]
   ·rename_i sz rows i q;unfold D.rep F.rep at hd;obtain⟨A,vr,hx,h1,h2,h3⟩:=hd;refine ax.aw (v:=.pointer (some (A.add (i*sz+(q+o'))))) ?_ (Res.val h (by unfold D.rep F.rep;exact⟨A,vr,rfl,h1,h2,h3⟩) hp hold);simp[execOp,ho,hx,hf.run,add_add,Nat.add_assoc]
   ·exact h.elim
  ·exact h.elim
 ·exact h.elim
theorem Im{x:Operand}{t' j:Nat}{d:D}(hE:∀t i,E t=some i→TOk P t i)(hp:Hp c O η w)(hold:Old W c O w)(ho:o.op=.field t' x j)(hd:D.rep c d (a.eval x))(h:ey E t' d j k):ax P o a w (Res W η c k):=by
 have core:∀(cs:List D) (o' s':Nat) (g:Bool),FX P t' j o' s' g→(∃vs:List Value,a.eval x=.agg vs.toArray∧D.ah c cs vs)→
   (bif g then k (.ag ((cs.drop o').take s')) [] []else ∃d,cs[o']?=some d∧k d [] [])→ax P o a w (Res W η c k):=by
  intro cs o' s' g hf ⟨vs,hx,hvs⟩ h
  cases g with
  |true=>
   simp only[cond_true]at h;refine ax.aw (v:=.agg ((vs.drop o').take s').toArray) ?_ (Res.val h (by unfold D.rep;exact⟨_,rfl,D.cY _ (D.da _ hvs)⟩) hp hold);have:=hf vs.toArray w;have e:vs.toArray.extract o' (o'+s')=((vs.drop o').take s').toArray:=by
    apply Array.ext';simp[List.extract_eq_take_drop]
   rw[e]at this;simp[execOp,ho,hx,this]
  |false=>
   simp only[cond_false]at h;obtain⟨d,hd,h⟩:=h;obtain⟨u,hu,hdu⟩:=D.b5 hvs hd;have:=hf vs.toArray u w (by simpa using hu);refine ax.aw (v:=u) ?_ (Res.val h hdu hp hold);simp[execOp,ho,hx,this]
 unfold ey at h
 split at h
 ·rename_i sz z fs hi;have hk:=(hE _ _ hi).k;simp only at hk
  split at h
  ·rename_i o' s' g cs hj
   replace h:=bB h
   have hf:=(hk.1 j o' s' g hj).2;unfold D.rep at hd;exact core cs o' s' g hf hd h.2
  ·rename_i o' s' g cs hj
   replace h:=bB h
   have hf:=(hk.1 j o' s' g hj).2;unfold D.rep F.rep at hd;obtain⟨vs,hx,hvs⟩:=hd;refine core (cs.map .fr) o' s' g hf ⟨vs,hx,D.fg hvs⟩ ?_;have h2:=h.2
   cases g with
   |true=>
    simp only[cond_true]at h2 ⊢
    rwa [←List.map_drop,←List.map_take]
   |false=>
    simp only[cond_false]at h2 ⊢;obtain⟨d,hd,h2⟩:=h2;exact⟨.fr d,by simp[hd],h2⟩
  ·exact h.elim
 ·exact h.elim
theorem xL{x y:Operand}{t':Nat}{d d':D}(hE:∀t i,E t=some i→TOk P t i)(hp:Hp c O η w)(hold:Old W c O w)(ho:o.op=.indexAddr t' x y)(hd:D.rep c d (a.eval x))(hd':D.rep c d' (a.eval y))(h:bu E η t' d d' k):ax P o a w (Res W η c k):=by
 unfold bu at h
 split at h
 ·rename_i ik m;have hy:=aL hd'
  split at h
  ·rename_i sz0 z0 e sz by_ hi;have hk:=(hE _ _ hi).k;simp only at hk;obtain⟨z,ht⟩:=hk;obtain⟨inf,g1,g2,g3,g4⟩:=ht.info
   split at h
   ·rename_i b v
    split at h
    ·rename_i v' e' sz' rows hb
     replace h:=bB h
     obtain⟨hv,hsz⟩:=uJ h.1;subst hv;subst hsz;obtain⟨i,rfl,hlt,h⟩:=h.2;unfold D.rep at hd;obtain⟨A,m,k',hA,hx⟩:=hd;obtain⟨A',k2,vr,hA',hvr,hone,hown⟩:=hp.pc b _ hb;rw[hA]at hA'
     cases hA';have hs:=(own.arr hown).some_ (by omega)
     cases A with
     |none=>simp at hs
     |some A=>
      refine ax.aw (v:=.pointer (some (A.add (i*sz)))) ?_ (Res.val h (by unfold D.rep;exact⟨A,_,k',hA,by simp⟩) hp hold);simp[execOp,ho,hx,hy,Instr.indexAt,asIntOf,run_underlying ht.und,sizeOf,typeInfo,g1,g3,hlt]
    ·exact h.elim
   ·rename_i rows;obtain⟨i,rfl,r,hr,hrl,h⟩:=h;have hlt:i<rows.length:=(List.getElem?_eq_some_iff.1 hr).1;unfold D.rep F.rep at hd;obtain⟨A,c',vr,sz',hx,hcap,harr,hone,hvr⟩:=hd;obtain⟨rv,hrv,hrr⟩:=F.ff hvr hr;have hszz:sz'=sz:=by
     rw[←hrl,←F.aW hrr];exact(harr.2.1 rv (List.mem_of_getElem? hrv)).symm
    subst hszz;have hs:=harr.some_ (by omega)
    cases A with
    |none=>simp at hs
    |some A=>
     refine ax.aw (v:=.pointer (some (A.add (i*sz')))) ?_ (Res.val h (by unfold D.rep F.rep;exact⟨A,vr,by simp,harr,hone,hvr⟩) hp hold);simp[execOp,ho,hx,hy,Instr.indexAt,asIntOf,run_underlying ht.und,sizeOf,typeInfo,g1,g3,hlt]
   ·exact h.elim
  ·rename_i sz0 z0 len e sz hi;have hk:=(hE _ _ hi).k;simp only at hk;have ht:=hk.1;obtain⟨inf,g1,g2⟩:=ht.info
   split at h
   ·rename_i b v q;obtain⟨i,rfl,hlt,h⟩:=h;unfold D.rep at hd;obtain⟨g,hg,hx⟩:=hd;refine ax.aw (v:=.pointer (some ⟨g,q+i*sz,none⟩)) ?_ (Res.val h (by unfold D.rep;exact⟨g,hg,rfl⟩) hp hold);simp[execOp,ho,hx,hy,Instr.indexAt,Instr.sureAddr,asIntOf,run_underlying ht.und,sizeOf,typeInfo,g1,g2,hlt,add_lit]
   ·rename_i b v sz' j q;obtain⟨i,rfl,hlt,h⟩:=h;unfold D.rep at hd;obtain⟨A,m,k',hA,hx⟩:=hd;refine ax.aw (v:=.pointer (some (A.add (j*sz'+(q+i*sz))))) ?_ (Res.val h (by unfold D.rep;exact⟨A,m,k',hA,rfl⟩) hp hold);simp[execOp,ho,hx,hy,Instr.indexAt,Instr.sureAddr,asIntOf,run_underlying ht.und,sizeOf,typeInfo,g1,g2,hlt,add_add,Nat.add_assoc]
   ·rename_i sz' rows j q;obtain⟨i,rfl,hlt,h⟩:=h;unfold D.rep F.rep at hd;obtain⟨A,vr,hx,h1,h2,h3⟩:=hd;refine ax.aw (v:=.pointer (some (A.add (j*sz'+(q+i*sz))))) ?_ (Res.val h (by unfold D.rep F.rep;exact⟨A,vr,rfl,h1,h2,h3⟩) hp hold);simp[execOp,ho,hx,hy,Instr.indexAt,Instr.sureAddr,asIntOf,run_underlying ht.und,sizeOf,typeInfo,g1,g2,hlt,add_add,Nat.add_assoc]
   ·exact h.elim
  ·exact h.elim
 ·exact h.elim
theorem Gf{x y:Operand}{t':Nat}{d d':D}(hE:∀t i,E t=some i→TOk P t i)(hp:Hp c O η w)(hold:Old W c O w)(ho:o.op=.index t' x y)(hd:D.rep c d (a.eval x))(hd':D.rep c d' (a.eval y))(h:gz E t' d d' k):ax P o a w (Res W η c k):=by
 unfold gz at h
 split at h
 ·rename_i ik m;have hy:=aL hd'
  split at h
  ·rename_i sz0 z0 b hi;have ht:=(hE _ _ hi).k;simp only at ht;have hx:=aL hd;obtain⟨i,rfl,u,hu,h⟩:=h;refine ax.aw (v:=.int .u8 u.toNat) ?_ (Res.val h (aX _) hp hold);have hu':b[i]?=some u:=hu;simp[execOp,ho,hx,hy,Instr.index,asIntOf,run_underlying ht.eq,hu']
  ·exact h.elim
 ·exact h.elim
theorem AU{x:Operand}{j:Nat}{d:D}(hp:Hp c O η w)(hold:Old W c O w)(ho:o.op=.extract x j)(hd:D.rep c d (a.eval x))(h:eJ d j k):ax P o a w (Res W η c k):=by
 unfold eJ at h
 split at h
 ·obtain⟨d,hj,h⟩:=h;unfold D.rep at hd;obtain⟨vs,hx,hvs⟩:=hd;obtain⟨u,hu,hdu⟩:=D.b5 hvs hj;refine ax.aw (v:=u) ?_ (Res.val h hdu hp hold);simp[execOp,ho,hx,Instr.extract,hu]
 ·exact h.elim
theorem GQ{d0:Nat}{x:Option D}{K:Nat→Prop}(h:bound d0 x K):∃i,K i∧(x=none→i=d0)∧∀d,x=some d→∃ik,d=.fr (.vl (.int ik (i:Int))):=by
 unfold bound at h
 split at h
 ·exact⟨d0,h,fun _=>rfl,fun d hd=>by cases hd⟩
 ·obtain⟨i,rfl,h⟩:=h;exact⟨i,h,fun e=>(by cases e),fun d hd=>by cases hd;exact⟨_,rfl⟩⟩
 ·exact h.elim
theorem ox{ρ:Operand→Option D}(hρ:∀x d,ρ x=some d→D.rep c d (a.eval x)){lo:Option Operand}{lo':Option D}(h:dW ρ lo=some lo'){d0:Nat}{K:Nat→Prop}(hb:bound d0 lo' K) :
  ∃i,K i∧((lo=none∧i=d0)∨∃y ik,lo=some y∧a.eval y=.int ik (i:Int)):=by
 obtain⟨i,h1,h2,h3⟩:=GQ hb;refine⟨i,h1,?_⟩
 cases lo with
 |none=>
  simp[dW]at h;exact .inl ⟨rfl,h2 h.symm⟩
 |some y=>
  simp only[dW]at h
  cases hy:ρ y with
  |none=>rw[hy]at h;cases h
  |some d=>
   rw[hy]at h;simp at h;subst h;obtain⟨ik,rfl⟩:=h3 d rfl;exact .inr ⟨y,ik,rfl,aL (hρ y _ hy)⟩
theorem uO {x:Operand}{t':Nat}{b:ByteArray}{lo hi:Option Operand}{l h:Nat} (ht:UD P t' .string) (ho:o.op=.slice t' x lo hi none) (hx:a.eval x=.string b)
  (hl:(lo=none∧l=0)∨∃y ik,lo=some y∧a.eval y=.int ik (l:Int)) (hh:(hi=none∧h=b.size)∨∃y ik,hi=some y∧a.eval y=.int ik (h:Int)) (hlh:l≤h) (hhb:h≤b.size) :
  (execOp a.eval o).run P w=.ok (.value (.string (b.extract l h))) w:=by
 have h2:h≤b.size:=hhb;rcases hl with⟨rfl,rfl⟩|⟨y,ik,rfl,hy⟩<;>rcases hh with⟨rfl,rfl⟩|⟨y',ik',rfl,hy'⟩
 ·simp[execOp,ho,hx,Instr.sliceAt,Instr.slice,Instr.sliceBounds,run_underlying ht.eq]
 ·simp[execOp,ho,hx,hy',Instr.sliceAt,Instr.slice,Instr.sliceBounds,Instr.sliceBound,asIntOf,run_underlying ht.eq,h2]
 ·have:l≤b.size:=hlh;simp[execOp,ho,hx,hy,Instr.sliceAt,Instr.slice,Instr.sliceBounds,Instr.sliceBound,asIntOf,run_underlying ht.eq,this]
 ·simp[execOp,ho,hx,hy,hy',Instr.sliceAt,Instr.slice,Instr.sliceBounds,Instr.sliceBound,asIntOf,run_underlying ht.eq,h2,hlh]
theorem oP {x:Operand}{t' e sz by_:Nat}{z:Value}{A:Option Addr}{m c0:Nat}{lo hi:Option Operand}{l h:Nat} (ht:SlT P t' e sz by_ z) (ho:o.op=.slice t' x lo hi none) (hx:a.eval x=.slice A m c0)
  (hl:(lo=none∧l=0)∨∃y ik,lo=some y∧a.eval y=.int ik (l:Int)) (hh:(hi=none∧h=m)∨∃y ik,hi=some y∧a.eval y=.int ik (h:Int)) (hlh:l≤h) (hhb:h≤c0) :
  (execOp a.eval o).run P w=.ok (.value (.slice (if c0=l then A else A.map (·.add (l*sz))) (h-l) (c0-l))) w:=by
 obtain⟨inf,h1,h2,h3,h4⟩:=ht.info;rcases hl with⟨rfl,rfl⟩|⟨y,ik,rfl,hy⟩<;>rcases hh with⟨rfl,rfl⟩|⟨y',ik',rfl,hy'⟩
 ·simp[execOp,ho,hx,Instr.sliceAt,Instr.slice,Instr.sliceBounds,run_underlying ht.und,sizeOf,typeInfo,h1,h3]
 ·simp[execOp,ho,hx,hy',Instr.sliceAt,Instr.slice,Instr.sliceBounds,Instr.sliceBound,asIntOf,run_underlying ht.und,hhb,sizeOf,typeInfo,h1,h3]
 ·simp[execOp,ho,hx,hy,Instr.sliceAt,Instr.slice,Instr.sliceBounds,Instr.sliceBound,asIntOf,run_underlying ht.und,hlh,sizeOf,typeInfo,h1,h3]
 ·simp[execOp,ho,hx,hy,hy',Instr.sliceAt,Instr.slice,Instr.sliceBounds,Instr.sliceBound,asIntOf,run_underlying ht.und,hhb,hlh,sizeOf,typeInfo,h1,h3]
end
end Go.Vc
namespace Go.Vc
open Go Go.RowKit Go.Sl
section
variable {P:Program}{n:FD}{s:List (Nat×D)}{Γ:Nat→Option (List F)}{c:Cf}{a:Act}{w:World}{W:Bs}{O:Nat→Nat→Prop}{η:Env}{k:Ks}{E:TE}{t:Nat}{o:Oper}
theorem Hc {x:Operand}{t':Nat}{lo hi mx:Option Operand}{ρ:Operand→Option D}{d:D} (hρ:∀x d,ρ x=some d→D.rep c d (a.eval x)) (hE:∀t i,E t=some i→TOk P t i) (hp:Hp c O η w) (hold:Old W c O w) (ho:o.op=.slice t' x lo hi mx) (hd:D.rep c d (a.eval x))
  (h:fK E t' d (dW ρ lo) (dW ρ hi) mx.isSome k):ax P o a w (Res W η c k):=by
 cases mx with
 |some m=>exact(show False from h).elim
 |none=>
  unfold fK at h;simp only[Option.isSome_none,cond_false]at h
  split at h
  ·rename_i lo' hi' el eh
   split at h
   ·rename_i sz0 z0 b hi;have ht:=(hE _ _ hi).k;simp only at ht;have hx:=aL hd;obtain⟨l,h,hl⟩:=ox hρ el h;obtain⟨hh,h,hhh⟩:=ox hρ eh h;obtain⟨h1,h2,h⟩:=h;exact ax.aw (uO ht ho hx hl hhh h1 h2) (Res.val h (aX _) hp hold)
   ·rename_i sz0 z0 e sz by_ rows hi;have hk:=(hE _ _ hi).k;simp only at hk;obtain⟨z,ht⟩:=hk;unfold D.rep F.rep at hd;obtain⟨A,c',vr,sz',hx,hcap,harr,hone,hvr⟩:=hd;obtain⟨l,h,hl⟩:=ox hρ el h;obtain⟨hh,h,hhh⟩:=ox hρ eh h;obtain⟨h1,h2,h3,h⟩:=h;have hvl:=F.ic hvr;have harr':Arr sz c.Z c.R A rows.length vr:=by
     refine⟨harr.1,fun r hr=>?_,fun hpos=>?_⟩
     ·obtain⟨i,hi⟩:=List.mem_iff_getElem?.1 hr;have hlt:i<rows.length:=by rw[←hvl];exact(List.getElem?_eq_some_iff.1 hi).1
      obtain⟨rv,hrv,hrr⟩:=F.ff hvr (List.getElem?_eq_getElem hlt);rw[hi]at hrv
      cases hrv;rw[F.aW hrr];exact h3 _ (List.getElem_mem hlt)
     ·exact harr.2.2 hpos
    refine ax.aw (oP ht ho hx hl hhh h1 (Nat.le_trans h2 hcap)) (Res.val h ?_ hp hold);unfold D.rep F.rep;refine⟨_,c'-l,(vr.take hh).drop l,sz,by rw[List.length_drop,List.length_take,Nat.min_eq_left h2],by rw[List.length_drop,List.length_take];omega,?_,fun r hr=>hone r (List.mem_of_mem_take (List.mem_of_mem_drop hr)),F.dn _ (F.cH _ hvr)⟩;have:=Arr.Kq (w:=c.R) (c0:=c') harr' h1 h2 hcap
    rwa [List.length_drop,List.length_take,Nat.min_eq_left h2]
   ·exact h.elim
  ·exact h.elim
inductive Al2{α β:Type}(R:α→β→Prop):List α→List β→Prop where
 |nil:Al2 R [] []
 |more {x:α}{y:β}{l:List α}{l':List β}:R x y→Al2 R l l'→Al2 R (x::l) (y::l')
theorem xf{pl:List (Nat×Nat×Bool)}{place:Nat→Option (Nat×Nat)}(hpl:∀j o s g,pl[j]?=some (o,s,g)→place j=some (o,s)):∀{ps:List (Nat×Option D)}{cs cs':List D}{vs:List Value}{us:List (Nat×Value)},oY pl cs ps=some cs'→D.ah c cs vs→
  (Al2 (fun(p:Nat×Option D) (q:Nat×Value)=>p.1=q.1∧∀d,p.2=some d→D.rep c d q.2) ps us)→∃vs':List Value,D.ah c cs' vs'∧Instr.fill place vs.toArray us=some vs'.toArray
 |[],cs,cs',vs,us,h,hr,hu=>by
  cases hu;simp[oY]at h;subst h;exact⟨vs,hr,rfl⟩
 |(j,none)::ps,cs,cs',vs,us,h,hr,hu=>by simp[oY]at h
 |(j,some d)::ps,cs,cs',vs,us,h,hr,hu=>by
  cases hu with
  |more h1 h2=>
   rename_i q us;obtain⟨q1,q2⟩:=q;obtain⟨e1,hd⟩:=h1;simp only at e1 hd;subst e1;have hd:=hd d rfl;simp only[oY]at h
   split at h
   ·rename_i o' s' g hj
    cases hb:(Nat.beq d.cells.length s'&&d.cells.all D.one&&Nat.ble (o'+s') cs.length)with
    |false=>rw[hb]at h;simp at h
    |true=>
     rw[hb]at h;simp only[cond_true]at h;rw[Bool.and_eq_true,Bool.and_eq_true]at hb;obtain⟨⟨b1,b2⟩,b3⟩:=hb;have b1:=Nat.eq_of_beq_eq_true b1;have b3:=Nat.le_of_ble_eq_true b3;obtain⟨ys,hy,hyr,hyo⟩:=D.pV hd b2;have hyl:ys.length=s':=(D.aW hyr).trans b1;have hvl:=D.aW hr;have hset:setAt cs o' d.cells=cs.take o'++d.cells++cs.drop (o'+d.cells.length):=oW o' (by omega);have hrep:D.ah c (setAt cs o' d.cells) (vs.take o'++ys++vs.drop (o'+ys.length)):=by
      rw[hset,hyl,←b1];exact D.bw (D.bw (D.cY _ hr) hyr) (D.da _ hr)
     obtain⟨vs',g1,g2⟩:=xf hpl h hrep h2;refine⟨vs',g1,?_⟩;have hpj:=hpl j _ _ _ hj;simp only[Instr.fill,hpj];rw[if_neg (by rw[hy];simp;omega)];have hp:=qc o' ys 0 vs.toArray (by simp;omega);have e:(q2.cells.zipIdx.foldl (fun cs (x:Value×Nat)=>cs.setIfInBounds (o'+x.2) x.1) vs.toArray)=(vs.take o'++ys++vs.drop (o'+ys.length)).toArray:=by
      apply Array.ext';rw[hy,←Array.foldl_toList,Array.toList_zipIdx];simpa using hp
     have g2':=g2;rw[←e]at g2';exact g2'
   ·cases h
theorem sA{ρ:Operand→Option D}(hρ:∀x d,ρ x=some d→D.rep c d (a.eval x)):∀(ps:List (Nat×Operand)),Al2 (fun(p:Nat×Option D) (q:Nat×Value)=>p.1=q.1∧∀d,p.2=some d→D.rep c d q.2) (ps.map fun p=>(p.1,ρ p.2)) (ps.map fun p=>(p.1,a.eval p.2))
 |[]=>.nil
 |p::l=>.more ⟨rfl,fun d hd=>hρ _ _ hd⟩ (sA hρ l)
theorem sV:∀(vs:List Value),D.ah c (vs.map fun v=>.fr (.vl v)) vs
 |[]=>by simp[D.ah]
 |v::l=>by
  rw[List.map_cons];unfold D.ah;exact⟨v,l,rfl,aX v,sV l⟩
theorem HH {t':Nat}{ps:Array (Nat×Operand)}{ρ:Operand→Option D} (hρ:∀x d,ρ x=some d→D.rep c d (a.eval x)) (hE:∀t i,E t=some i→TOk P t i) (hp:Hp c O η w) (hold:Old W c O w) (ho:o.op=.build t' ps)
  (h:fH E t' (ps.toList.map fun p=>(p.1,ρ p.2)) k):ax P o a w (Res W η c k):=by
 unfold fH at h
 split at h
 ·rename_i sz z fs hi;have hk:=(hE _ _ hi).k;simp only at hk
  split at h
  ·rename_i cs hf;obtain⟨vs',g1,g2⟩:=xf (place:=fun i=>((fs.map fun p=>(p.1,p.2.1)).toArray)[i]?) (fun j o s g hj=>by simp[hj]) hf (sV z) (sA (a:=a) hρ ps.toList);have hb:=hk.2.run (ps.map fun p=>(p.1,a.eval p.2)) vs'.toArray w (by simpa [Value.cells]using g2);refine ax.aw (v:=.agg vs'.toArray) ?_ (Res.val h (by unfold D.rep;exact⟨vs',rfl,g1⟩) hp hold);simp[execOp,ho,hb]
  ·exact h.elim
 ·rename_i sz z zs len e sz' hi;have hk:=(hE _ _ hi).k;simp only at hk
  split at h
  ·rename_i cs hf;obtain⟨inf,h1,h2⟩:=hk.1.info;have hz:=hk.2 (by simp);obtain⟨vs',g1,g2⟩:=xf (place:=fun i=>some (i*sz',sz')) (fun j o s g hj=>by
    have hlt:=(List.getElem?_eq_some_iff.1 hj).1;simp at hlt;rw[List.getElem?_map,List.getElem?_range hlt]at hj;simp only[Option.map_some,Option.some.injEq,Prod.mk.injEq]at hj;obtain⟨rfl,rfl,_⟩:=hj;rfl) hf (sV (z::zs)) (sA (a:=a) hρ ps.toList)
   refine ax.aw (v:=.agg vs'.toArray) ?_ (Res.val h (by unfold D.rep;exact⟨vs',rfl,g1⟩) hp hold);have hb:(Instr.build t' (ps.map fun p=>(p.1,a.eval p.2))).run P w=.ok (.agg vs'.toArray) w:=by
    simp[Instr.build,hz.run w,run_underlying hk.1.und,sizeOf,typeInfo,h1,h2,Value.cells,g2]
   simp[execOp,ho,hb]
  ·exact h.elim
 ·exact h.elim
end
section
variable {P:Program}{n:FD}{s:List (Nat×D)}{Γ:Nat→Option (List F)}{c:Cf}{a:Act}{w:World}{W:Bs}{O:Nat→Nat→Prop}{η:Env}{k:Ks}{E:TE}{t:Nat}{o:Oper}{ρ:Operand→Option D}{S:Sg}
theorem yY(hp:Hp c O η w)(ids:List Nat){sz:Nat}(hρ:∀x d,ρ x=some d→D.rep c d (a.eval x))(hev:∀x d,ρ x=some d→Sl.ev S x=some (a.eval x)) :
  ∀(psl:List (Nat×Operand)) (j:Nat) {rows:List (List F)}{is:List Nat},jX η sz j (psl.map fun p=>(p.1,ρ p.2))=some (rows,is)→(∀b∈is,b∈ids)→
   ∃(xs:List Operand) (vs:List Value),psl=qu j xs∧evs S xs=some vs∧vs.length=psl.length∧(∀v∈vs,v.cells.size=sz)∧F.aI (Zf c O ids) w rows (vs.map (·.cells.toList))∧(∀r∈vs.map (·.cells.toList),cb r=true)∧(∀b∈is,∃x,η b=some x)
 |[],j,rows,is,h,_=>by
  simp[jX]at h;obtain⟨rfl,rfl⟩:=h;exact⟨[],[],rfl,rfl,rfl,by simp,by simp[F.aI],by simp,by simp⟩
 |p::psl,j,rows,is,h,hi=>by
  obtain⟨i,x⟩:=p;simp only[List.map_cons]at h
  cases hx:ρ x with
  |none=>rw[hx]at h;simp[jX]at h
  |some d=>
   rw[hx]at h;simp only[jX]at h
   cases hb:(Nat.beq i j&&Nat.beq d.cells.length sz)with
   |false=>rw[hb]at h;simp at h
   |true=>
    rw[hb]at h;simp only[cond_true]at h;obtain⟨b1,b2⟩:=uJ hb;subst b1
    split at h
    ·rename_i r is1 rs is2 e1 e2
     cases h1:r.all F.one with
     |false=>rw[h1]at h;simp at h
     |true=>
      rw[h1]at h;simp only[cond_true]at h
      cases h;obtain⟨xs,vs,g1,g2,g3,g4,g5,g6,g7⟩:=yY hp ids hρ hev psl (i+1) e2 (fun b hb=>hi b (by simp[hb]));obtain⟨ys,hy,hyr,hyo⟩:=zr hp ids (hρ x d hx) e1 (fun b hb=>hi b (by simp[hb])) h1;have hyl:ys.length=sz:=by rw[F.aW hyr,sC e1,b2]
      refine⟨x::xs,a.eval x::vs,by simp[qu,g1],by simp[evs,hev x d hx,g2],by simp[g3],?_,?_,?_,?_⟩
      ·intro v hv;rcases List.mem_cons.1 hv with rfl|hv
       ·rw[hy];simpa using hyl
       ·exact g4 v hv
      ·rw[List.map_cons];unfold F.aI;exact⟨_,_,rfl,by rw[hy];exact hyr,g5⟩
      ·intro r' hr';rw[List.map_cons]at hr';rcases List.mem_cons.1 hr' with rfl|hr'
       ·rw[hy];exact hyo
       ·exact g6 r' hr'
      ·intro b hb;rcases List.mem_append.1 hb with hb|hb
       ·exact dD (gC 4) e1 b hb
       ·exact g7 b hb
    ·cases h
theorem Res.after {ids:List Nat}{v:Value}{w':World}{k':Ks} (hp:Hp c O η w) (h:Res W (Res.lk2 (aU η ids) η) (cfz c O ids w) k' v w')
  {rd0:List Nat} (hk:∀d rd e,k' d rd e→k d rd0 (e++aU η ids)):Res W η c k v w':=by
 obtain⟨d,rd,e,c',O',h1,h2,h3,h4,h5⟩:=h;refine⟨d,_,_,c',O',hk d rd e h1,(qC hp ids).trans h2,h3,?_,h5⟩;have:Res.lk2 (e++aU η ids) η=Res.lk2 e (Res.lk2 (aU η ids) η):=by
  clear h1 hk h4
  induction e with
  |nil=>rfl
  |cons p e ih=>
   obtain⟨b,x⟩:=p;rw[List.cons_append];simp only[Res.lk2];rw[ih]
 rw[this];exact h4
theorem kv(ids:List Nat)(h:t ∉ ids):nv (Res.lk2 (aU η ids) η) t=nv η t:=by
 unfold nv;rw[(a7 η η ids t).1 h]
theorem Mw {t' m:Nat}{ps:Array (Nat×Operand)} (hfr:Fr n S a) (hρ:∀x d,ρ x=some d→D.rep c d (a.eval x)) (hev:∀x d,ρ x=some d→Sl.ev S x=some (a.eval x)) (hE:∀t i,E t=some i→TOk P t i)
  (hp:Hp c O η w) (hold:Old W c O w) (ho:o.op=.buildSlice t' m ps) (h:pb E η t t' m (ps.toList.map fun p=>(p.1,ρ p.2)) k):ax P o a w (Res W η c k):=by
 unfold pb at h
 split at h
 ·rename_i sz0 z0 e sz by_ hi;have hk:=(hE _ _ hi).k;simp only at hk;obtain⟨z,ht⟩:=hk
  split at h
  ·rename_i rows is hr
   replace h:=bB h
   obtain⟨hb,h⟩:=h;rw[Bool.and_eq_true,Bool.and_eq_true]at hb;obtain⟨⟨b1,b2⟩,b3⟩:=hb;have b1:=Nat.eq_of_beq_eq_true b1;have b2:=Nat.le_of_ble_eq_true b2;have b3:t ∉ is:=by simpa using b3
   obtain⟨xs,vs,g1,g2,g3,g4,g5,g6,g7⟩:=yY hp is hρ hev ps.toList 0 hr (fun b h=>h);have hm:m=vs.length:=by rw[b1,g3];simp
   have hac:=Ac.lit (P:=P) (n:=n) (s:=S) (w0:=w) (L:=[]) (ty:=o.type) (t:=t') (ps:=ps.toList) (m:=m) g1 g2 g4 (by rw[←hm];exact b2) hm rfl;obtain⟨b,w',hrun,hst⟩:=hac.go a w o (by rw[ho]) rfl hfr (St.start w);have hlen:m=rows.length:=by rw[hm,←F.ic g5];simp
   refine ax.aw hrun (Res.after hp (ids:=is) (k':=fun d rd e=>k d (t::is) (e++aU η is)) ?_ (fun d rd e h=>h));refine Res.ta (hp.fz_ is g7) (hold.fz_ hp is) (t:=t) hst hlen g5 g6 (rd:=[]) ?_;rw[kv is b3];exact h
  ·exact h.elim
 ·exact h.elim
theorem Ca{Z:Nat→Prop}{w:World}:∀(vs:List Value),F.ah Z w (vs.map fun v=>F.nz (.vl v)) vs
 |[]=>by simp[F.ah]
 |v::l=>by
  rw[List.map_cons];unfold F.ah;exact⟨v,l,rfl,F.Bb (by unfold F.rep;rfl),Ca l⟩
theorem JU {x y:Operand}{t':Nat}{d d':D} (hfr:Fr n S a) (hx:Sl.ev S x=some (a.eval x)) (hy:Sl.ev S y=some (a.eval y)) (hE:∀t i,E t=some i→TOk P t i) (hp:Hp c O η w) (hold:Old W c O w) (ho:o.op=.makeSlice t' x y)
  (hd:D.rep c d (a.eval x)) (hd':D.rep c d' (a.eval y)) (h:jH E η t t' d d' k):ax P o a w (Res W η c k):=by
 unfold jH at h
 split at h
 ·rename_i sz0 z0 e sz by_ k1 m1 k2 m2 hi;have hk:=(hE _ _ hi).k;simp only at hk;obtain⟨z,ht⟩:=hk
  split at h
  ·rename_i i hie;obtain⟨hz,j,rfl,j',rfl,hjj,hb,h63,h⟩:=h;rw[aL hd]at hx;rw[aL hd']at hy;have hzz:z.cells.toList=i.z:=by
    obtain⟨inf,i1,i2,i3,i4⟩:=ht.info;have hne:i.z≠[]:=by
     intro e0;rw[e0]at hz;have:=ht.pos;simp at hz;omega
    obtain⟨v,hv1,hv2,hv3⟩:=(hE _ _ hie).z hne;have e1:(zeroValue e).run P w=.ok v w:=hv1.run w;have e2:(zeroValue e).run P w=.ok z w:=by simp[zeroValue,typeInfo,i1,i2]
    rw[e1]at e2
    injection e2 with e2
    rw[←e2,hv2]
   have hone:cb i.z=true:=by
    have hne:i.z≠[]:=by
     intro e0;rw[e0]at hz;have:=ht.pos;simp at hz;omega
    obtain⟨v,hv1,hv2,hv3⟩:=(hE _ _ hie).z hne;exact hv3
   rcases hjj with rfl|rfl
   ·have hac:=Ac.make (P:=P) (n:=n) (s:=S) (w0:=w) (L:=[]) (ty:=o.type) (t:=t') hx hy hb h63;obtain⟨b,w',hrun,hst⟩:=hac.go a w o (by rw[ho]) rfl hfr (St.start w);rw[hzz]at hst;exact ax.aw hrun (Res.ta hp hold hst (by simp) (F.Ad (Ca _) _) (fun r hr=>by rw[List.eq_of_mem_replicate hr];exact hone) h)
   ·have hac:=Ac.Cs (P:=P) (n:=n) (s:=S) (w0:=w) (L:=[]) (ty:=o.type) (t:=t') hx hy hb h63;obtain⟨b,w',hrun,hst⟩:=hac.go a w o (by rw[ho]) rfl hfr (St.start w);exact ax.aw hrun (Res.ta hp hold hst (by simp) (by simp[F.aI]) (by simp) h)
  ·exact h.elim
 ·exact h.elim
theorem Gn {t':Nat} (hfr:Fr n S a) (hE:∀t i,E t=some i→TOk P t i) (hp:Hp c O η w) (hold:Old W c O w) (ho:o.op=.alloc t')
  (h:match E t' with|some i=>bif Nat.blt 0 i.z.length then k (.ptr t (nv η t) 0) [t] [(t,.va (nv η t) t' (i.z.map fun v=>.fr (.vl v)))]else False|none=>False):ax P o a w (Res W η c k):=by
 split at h
 ·rename_i i hi
  replace h:=bB h
  obtain⟨h0,h⟩:=h;have hne:i.z≠[]:=by intro e;rw[e]at h0;simp at h0
  obtain⟨v,hv1,hv2,hv3⟩:=(hE _ _ hi).z hne;have hac:=Ac.alloc (P:=P) (n:=n) (s:=S) (w0:=w) (L:=[]) (ty:=o.type) (t:=t') (cs:=i.z) hv2;obtain⟨b,w',hrun,hst⟩:=hac.go a w o (by rw[ho]) rfl hfr (St.start w);exact ax.aw hrun (Res.KA hp hold hst (sV _) hv3 h)
 ·exact h.elim
theorem Lx {x:Operand}{t':Nat}{d:D} (hfr:Fr n S a) (hx:Sl.ev S x=some (a.eval x)) (hp:Hp c O η w) (hold:Old W c O w) (ho:o.op=.box t' x) (hd:D.rep c d (a.eval x))
  (h:d.cells.all D.one=true∧k (.ptr t (nv η t) 0) [t] [(t,.va (nv η t) t' d.cells)]):ax P o a w (Res W η c k):=by
 obtain⟨ys,hy,hyr,hyo⟩:=D.pV hd h.1;have hac:=Ac.box (P:=P) (n:=n) (s:=S) (w0:=w) (L:=[]) (ty:=o.type) (t:=t') hx hy;obtain⟨b,w',hrun,hst⟩:=hac.go a w o (by rw[ho]) rfl hfr (St.start w);exact ax.aw hrun (Res.KA hp hold hst hyr hyo h.2)
theorem KQ{x:Operand}{t':Nat}{d:D}{c0:Call}(hE:∀t i,E t=some i→TOk P t i)(hp:Hp c O η w)(hold:Old W c O w)(ho:o.op=.call c0)(h0:c0={ callee:=.builtin .len,args:=#[x],argTypes:=#[t'] })(hd:D.rep c d (a.eval x))(h:j8 E η t' d k):ax P o a w (Res W η c k):=by
 subst h0;unfold j8 at h
 split at h
 ·rename_i sz z b hi;have ht:=(hE _ _ hi).k;simp only at ht;have hx:=aL hd;refine ax.aw (v:=.int .i64 (b.size:Int)) ?_ (Res.val h (aX _) hp hold);simp[execOp,ho,resolve,hx,invoke,builtin,Builtin.len_,run_underlying ht.eq,goInt]
 ·rename_i sz z e sz' by_ rows hi;have hk:=(hE _ _ hi).k;simp only at hk;obtain⟨zv,ht⟩:=hk;unfold D.rep F.rep at hd;obtain⟨A,c',vr,sz',hx,hcap,harr,hone,hvr⟩:=hd;refine ax.aw (v:=.int .i64 (rows.length:Int)) ?_ (Res.val h (aX _) hp hold);simp[execOp,ho,resolve,hx,invoke,builtin,Builtin.len_,run_underlying ht.und,goInt]
 ·rename_i sz z e sz' by_ hi;have hk:=(hE _ _ hi).k;simp only at hk;obtain⟨zv,ht⟩:=hk;have hx:=aL hd;refine ax.aw (v:=.int .i64 0) ?_ (Res.val h (aX _) hp hold);simp[execOp,ho,resolve,hx,invoke,builtin,Builtin.len_,run_underlying ht.und,goInt]
 ·rename_i sz z e sz' by_ b v hi;have hk:=(hE _ _ hi).k;simp only at hk;obtain⟨zv,ht⟩:=hk
  split at h
  ·rename_i v' e' sz2 rows hb
   replace h:=bB h
   have hv:=Nat.eq_of_beq_eq_true h.1;subst hv;unfold D.rep at hd;obtain⟨A,m,k',hA,hx⟩:=hd;obtain⟨A',k2,vr,hA',hvr,hone,hown⟩:=hp.pc b _ hb;rw[hA]at hA'
   cases hA';refine ax.aw (v:=.int .i64 (rows.length:Int)) ?_ (Res.val h.2 (aX _) hp hold);simp[execOp,ho,resolve,hx,invoke,builtin,Builtin.len_,run_underlying ht.und,goInt]
  ·exact h.elim
 ·exact h.elim
end
section
variable {P:Program}{n:FD}{s:List (Nat×D)}{Γ:Nat→Option (List F)}{c:Cf}{a:Act}{w:World}{W:Bs}{O:Nat→Nat→Prop}{η:Env}{k:Ks}{E:TE}{t:Nat}{o:Oper}{ρ:Operand→Option D}{S:Sg}
theorem gM {t' e sz by_ m c0 m' c':Nat}{ty:TypeId}{z:Value}{A A':Option Addr}{rows news:List (List Value)}{S0:Nat→Prop} (ht:SlT P t' e sz by_ z) (g2:(own e sz A m c0 rows).on S0 w)
  (harr:Arr sz (fun b=>b<w.heap.size) w A' m' news) (hone:∀r∈news,cb r=true) (h63:m+m'≤maxLen) (hb:(m+m')*by_≤140737488355328) :
  ∃A2 c2 w' S',(Builtin.append_ #[t',t'] ty #[.slice A m c0,.slice A' m' c']).run P w=.ok (.slice A2 (m+m') c2) w'∧Chg w w' S0∧(∀g,S' g→S0 g∨(w.heap.size≤g∧g<w'.heap.size))∧(own e sz A2 (m+m') c2 (rows++news)).on S' w':=by
 obtain⟨inf,i1,i2,i3,i4⟩:=ht.info;have key:∃v' w',(Builtin.append_ #[t',t'] ty #[.slice A m c0,.slice A' m' c']).run P w=.ok v' w'∧w'.ownsRow 0 e sz v' (m+m') (rows.flatten++news.flatten)∧w.grownBy w' (Value.slice A m c0).ownBlock∧
   (v'.ownBlock=(Value.slice A m c0).ownBlock∨v'.ownBlock=some w.heap.size∧w.heap.size<w'.heap.size):=by
  have hnl:news.flatten.length=m'*sz:=by rw[length_flatten harr.2.1,harr.1]
  rcases Nat.eq_zero_or_pos m' with h0|hpos
  ·subst h0;have hn0:news=[]:=List.eq_nil_of_length_eq_zero harr.1;subst hn0;refine⟨.slice A m c0,w,?_,by simpa using g2.1,World.grownBy.refl w _,.inl rfl⟩;have hcap:m≤c0:=so g2;have hfc:(Builtin.firstCells inf.size 0 (.slice A' 0 c')).run P w=.ok #[] w:=by
    cases A'<;>simp[Builtin.firstCells,loadCells,loadCellsFrom]
   cases A<;>simp[Builtin.append_,run_underlying ht.und,sizeOf,typeInfo,i1,Builtin.lenOf,hcap,hfc,storeCells]
  ·obtain⟨ad,hA',_,hc⟩:=harr.2.2 hpos;subst hA';obtain⟨v',w',r1,r2,r3,r4,r5⟩:=run_append_own_at (P:=P) w 0 t' ty e inf z sz by_ ht.und i1 i2 i3 i4 ht.zsz ht.pos (.slice A m c0) m rows.flatten g2.1 ad m' c' news.flatten hnl hc
    (fun u hu=>by obtain⟨r,hr,hu⟩:=List.mem_flatten.1 hu;exact gI (hone r hr) u hu) h63 hb (Nat.zero_le _)
   refine⟨v',w',r1,r2,r3,?_⟩;rcases r5 with r5|r5
   ·exact .inl r5
   ·refine .inr ⟨r5,?_⟩;exact(r2.lt _ r5).2
 obtain⟨v',w',r1,r2,r3,r5⟩:=key;have hval:∃A2 c2,v'=.slice A2 (m+m') c2:=by
  rcases r2.2 with⟨hv,h0⟩|⟨g,cap,cur,hv,_⟩
  ·exact⟨none,0,by rw[hv,h0]⟩
  ·exact⟨_,_,hv⟩
 obtain⟨A2,c2,rfl⟩:=hval;refine⟨A2,c2,w',fun b=>S0 b∨(w.heap.size≤b∧b<w'.heap.size),r1,Chg.grown r3 (fun g hg=>g2.2.2.2 g hg),fun b hb=>hb,by simpa using r2,by simp[g2.2.1,harr.1],?_,fun g hg=>?_⟩
 ·intro r hr;rcases List.mem_append.1 hr with hr|hr
  ·exact g2.2.2.1 r hr
  ·exact harr.2.1 r hr
 ·rcases r5 with r5|⟨r5,r6⟩
  ·exact .inl (g2.2.2.2 g (r5▸hg))
  ·rw[r5]at hg
   injection hg with hg
   exact .inr ⟨by omega,by omega⟩
theorem nK{sz sz' m:Nat}{Z Z':Nat→Prop}{w':World}{A:Option Addr}{vr:List (List Value)}{news:List (List F)}(h:Arr sz' Z w A m vr)(hr:F.aI Z' w' news vr)(hs:∀r∈news,r.length=sz):Arr sz Z w A m vr:=by
 refine⟨h.1,fun r hrm=>?_,h.2.2⟩;obtain⟨i,hi⟩:=List.mem_iff_getElem?.1 hrm;have hlt:i<news.length:=by rw[←F.ic hr];exact(List.getElem?_eq_some_iff.1 hi).1
 obtain⟨rv,hrv,hrr⟩:=F.ff hr (List.getElem?_eq_getElem hlt);rw[hi]at hrv
 cases hrv;rw[F.aW hrr];exact hs _ (List.getElem_mem hlt)
theorem xg{d:D}{u:Value}{news:List (List F)}{rd:List Nat}{sz:Nat}(hp:Hp c O η w)(hd:D.rep c d u)(h:fI η d=some (news,rd))(hs:∀r∈news,r.length=sz) :
  ∃A c' vr,u=.slice A news.length c'∧Arr sz (fun b=>b<w.heap.size) w A news.length vr∧F.aI c.Z c.R news vr∧∀r∈vr,cb r=true:=by
 unfold fI at h
 split at h
 ·cases h;unfold D.rep F.rep at hd;obtain⟨A,c',vr,sz',hx,hcap,harr,hone,hvr⟩:=hd;exact⟨A,c',vr,hx,nK ((harr.loc (fun g hg=>(hp.fz g hg).2.1)).mono (fun g hg=>(hp.fz g hg).1)) hvr hs,hvr,hone⟩
 ·cases h;have hx:=aL hd;exact⟨none,0,[],hx,Arr.nil,by simp[F.aI],by simp⟩
 ·split at h
  ·rename_i v' e' sz2 rows hb
   cases hv:Nat.beq _ v' with
   |false=>rw[hv]at h;cases h
   |true=>
    rw[hv]at h;have hv:=Nat.eq_of_beq_eq_true hv;subst hv
    cases h;unfold D.rep at hd;obtain⟨A,m,k',hA,hx⟩:=hd;obtain⟨A',k2,vr,hA',hvr,hone,hown⟩:=hp.pc _ _ hb;rw[hA]at hA'
    cases hA';exact⟨A,k',vr,hx,nK ((own.arr hown).mono (fun g hg=>hp.lt _ g hg)) hvr hs,hvr,hone⟩
  ·cases h
 ·cases h
theorem D6 {x y:Operand}{t':Nat}{d d':D}{c0:Call} (hE:∀t i,E t=some i→TOk P t i) (hp:Hp c O η w) (hold:Old W c O w) (ho:o.op=.call c0) (h0:c0={ callee:=.builtin .append,args:=#[x,y],argTypes:=#[t',t'] })
  (hd:D.rep c d (a.eval x)) (hd':D.rep c d' (a.eval y)) (h:ed E η t t' d d' k):ax P o a w (Res W η c k):=by
 subst h0;unfold ed at h
 split at h
 ·rename_i sz0 z0 e sz by_ news rd hi hsrc;have hk:=(hE _ _ hi).k;simp only at hk;obtain⟨zv,ht⟩:=hk
  split at h
  ·rename_i b v
   split at h
   ·rename_i v' e' sz' rows hb
    replace h:=bB h
    obtain⟨hb1,h⟩:=h;rw[Bool.and_eq_true]at hb1;obtain⟨hb1,hb2⟩:=hb1;obtain⟨b1,b2⟩:=uJ hb1;have b3:=Nat.eq_of_beq_eq_true hb2;subst b1;subst b2;subst b3;obtain⟨hs,h63,hby,h⟩:=h;obtain⟨A',c',nr,hy,harr,hnr,hno⟩:=xg hp hd' hsrc hs;unfold D.rep at hd;obtain⟨A,m,k',hA,hx⟩:=hd;obtain⟨A0,k2,vr,hA',hvr,hone,hown⟩:=hp.pc b _ hb;rw[hA]at hA'
    cases hA';obtain⟨A2,c2,w',S',hrun,hc,hsub,hown'⟩:=gM (P:=P) (ty:=o.type) (c':=c') ht hown harr hno h63 hby;have hnv:nv η b=v+1:=by unfold nv;rw[hb];rfl
    have hfr:=hp.fresh b;have hle:c.le (c.add b (nv η b) (A2,rows.length+news.length,c2)):=Cf.eB hfr;refine ax.aw (v:=.slice A2 (rows.length+news.length) c2) (w':=w') ?_ ⟨_,_,_,_,_,h,hle,?_,hp.upd hc hsub hle rfl rfl (hp.cq (by rw[hnv];rfl)) ⟨A2,c2,vr++nr,?_,F.aI.ext hle.ext _ _ (F.eV hvr hnr),?_,?_⟩,hold.upd hc hsub rfl rfl⟩
    ·simp[execOp,ho,resolve,hx,hy,invoke,builtin,hrun]
    ·unfold D.rep;exact⟨A2,_,c2,by rw[←hnv];exact Cf.cP,rfl⟩
    ·rw[←hnv,List.length_append];exact Cf.cP
    ·intro r hr;rcases List.mem_append.1 hr with hr|hr
     ·exact hone r hr
     ·exact hno r hr
    ·rw[List.length_append];exact hown'
   ·exact h.elim
  ·obtain⟨hs,h63,hby,h⟩:=h;obtain⟨A',c',nr,hy,harr,hnr,hno⟩:=xg hp hd' hsrc hs;have hx:=aL hd;have hst0:Sl.St w [own e sz none 0 0 []] w:=St.JB (St.start w);have hon:(own e sz none 0 0 []).on (fun _=>False) w:=⟨World.ownsRow_nil w 0 e sz,rfl,by simp,fun g hg=>by simp[Value.ownBlock]at hg⟩
   obtain⟨A2,c2,w',S',hrun,hc,hsub,hown'⟩:=gM (P:=P) (ty:=o.type) (c':=c') ht hon harr hno (by omega) (by simpa using hby);rw[Nat.zero_add]at hrun hown';rw[List.nil_append]at hown';have hst:Sl.St w [own e sz A2 news.length c2 nr] w':=by
    refine⟨⟨hc.os,hc.tape,hc.output,hc.size,fun g hg=>hc.block g hg (fun h=>h)⟩,S',fun g hg=>?_,hown',trivial⟩;rcases hsub g hg with h|h
    ·exact h.elim
    ·exact h
   refine ax.aw (v:=.slice A2 news.length c2) (w':=w') ?_ (Res.ta hp hold hst rfl hnr hno h);simp[execOp,ho,resolve,hx,hy,invoke,builtin,hrun]
  ·exact h.elim
 ·exact h.elim
def kB(P:Program)(Γ:Nat→Option (List F))(G:CG):Prop:=∀t η f l k,G t η f l k→∀(W:Bs) c O w vs,GOk Γ c→Hp c O η w→Old W c O w→D.ah c l vs→
 CF P f∧Calls P f vs.toArray w (fun e w'=>∃v,e=.returned v∧Res W η c k v w')
theorem jP(hρ:∀x d,ρ x=some d→D.rep c d (a.eval x)):∀{xs:List Operand}{l:List D},jb (xs.map ρ)=some l→D.ah c l (xs.map a.eval)
 |[],l,h=>by simp[jb]at h;subst h;simp[D.ah]
 |x::xs,l,h=>by
  simp only[List.map_cons]at h
  cases hx:ρ x with
  |none=>rw[hx]at h;simp[jb]at h
  |some d=>
   rw[hx]at h;simp only[jb]at h
   split at h
   ·rename_i l' hl'
    cases h;rw[List.map_cons];unfold D.ah;exact⟨_,_,rfl,hρ x d hx,jP hρ hl'⟩
   ·cases h
theorem o3{x:F}{u:Value}(h:F.rep c.Z c.R x u):D.rep c x.toD u:=by
 unfold F.toD
 split
 ·unfold F.rep at h;obtain⟨vs,h1,h2⟩:=h;unfold D.rep;exact⟨vs,h1,D.fg h2⟩
 ·rename_i cs;unfold F.rep at h;obtain⟨vs,h1,h2⟩:=h;unfold D.rep;refine⟨vs,h1,?_⟩;clear h1
  induction cs generalizing vs with
  |nil=>unfold F.ah at h2;subst h2;simp[D.ah]
  |cons y cs ih=>
   unfold F.ah at h2;obtain⟨u1,us,rfl,h3,h4⟩:=h2;rw[List.map_cons];unfold D.ah;refine⟨u1,us,rfl,?_,ih us h4⟩;unfold F.Am
   split
   ·unfold F.rep at h3;obtain⟨vs,h1,h2⟩:=h3;unfold D.rep;exact⟨vs,h1,D.fg h2⟩
   ·unfold D.rep;exact h3
 ·unfold D.rep;exact h
theorem iY:∀{l:List F}{vs:List Value},F.ah c.Z c.R l vs→D.ah c (l.map F.toD) vs
 |[],vs,h=>by unfold F.ah at h;subst h;simp[D.ah]
 |x::l,vs,h=>by
  unfold F.ah at h;obtain⟨u,us,rfl,h2,h3⟩:=h;rw[List.map_cons];unfold D.ah;exact⟨u,us,rfl,o3 h2,iY h3⟩
theorem Jk{G:CG}(hG:kB P Γ G)(hΓ:GOk Γ c)(hρ:∀x d,ρ x=some d→D.rep c d (a.eval x))(hE:∀t i,E t=some i→TOk P t i)(hp:Hp c O η w)(hold:Old W c O w){c0:Call}(ho:o.op=.call c0)(h:dY E η t G ρ c0 k):ax P o a w (Res W η c k):=by
 obtain⟨cal,args,tys⟩:=c0;unfold dY at h;simp only at h
 split at h
 ·split at h
  ·rename_i x t' e1 e2;have e1:args=#[x]:=by rw[←Array.toArray_toList (xs:=args),e1]
   have e2:tys=#[t']:=by rw[←Array.toArray_toList (xs:=tys),e2]
   subst e1;subst e2
   split at h
   ·rename_i d hx;exact KQ hE hp hold ho rfl (hρ x d hx) h
   ·exact h.elim
  ·exact h.elim
 ·split at h
  ·rename_i x y t' t'' e1 e2;have e1:args=#[x,y]:=by rw[←Array.toArray_toList (xs:=args),e1]
   have e2:tys=#[t',t'']:=by rw[←Array.toArray_toList (xs:=tys),e2]
   subst e1;subst e2
   split at h
   ·rename_i d d' hx hy
    replace h:=bB h
    have:=Nat.eq_of_beq_eq_true h.1;subst this;exact D6 hE hp hold ho rfl (hρ x d hx) (hρ y d' hy) h.2
   ·exact h.elim
  ·exact h.elim
 ·split at h
  ·rename_i x y e1;have e1:args=#[x,y]:=by rw[←Array.toArray_toList (xs:=args),e1]
   subst e1
   split at h
   ·rename_i a1 b1 hx hy;have h1:=aL (hρ x _ hx);have h2:=aL (hρ y _ hy);refine ax.aw (v:=.int .i64 (max a1 b1)) ?_ (Res.val h (aX _) hp hold);simp[execOp,ho,resolve,h1,h2,invoke,builtin,Builtin.max_,Builtin.max2]
    by_cases h3:b1≤a1<;>simp[h3,Int.max_def]<;>omega
   ·exact h.elim
  ·exact h.elim
 ·split at h
  ·rename_i x y e1;have e1:args=#[x,y]:=by rw[←Array.toArray_toList (xs:=args),e1]
   subst e1
   split at h
   ·rename_i a1 b1 hx hy;have h1:=aL (hρ x _ hx);have h2:=aL (hρ y _ hy);refine ax.aw (v:=.int .i64 (min a1 b1)) ?_ (Res.val h (aX _) hp hold);simp[execOp,ho,resolve,h1,h2,invoke,builtin,Builtin.min_,Builtin.min2]
    by_cases h3:a1≤b1<;>simp[h3,Int.min_def]<;>omega
   ·exact h.elim
  ·exact h.elim
 ·rename_i fo
  split at h
  ·rename_i f cs l hf hl;have hfv:=hρ fo _ hf;unfold D.rep at hfv;obtain⟨vs,hfe,hvs⟩:=hfv;have hl:=jP hρ hl;obtain⟨hcf,hcall⟩:=hG _ _ _ _ _ h W c O w _ hΓ hp hold (D.bw hl hvs);refine ax.xN (f:=f) (args:=(args.toList.map a.eval++vs).toArray) ?_ hcall;have:=hcf.run (args.map a.eval++vs.toArray) w;simp[execOp,ho,resolve,Deferred.ofValue,hfe,invoke,this,←Array.toList_map]
  ·rename_i f cs l hf hl;have hfv:=hρ fo _ hf;unfold D.rep F.rep at hfv;obtain⟨vs,hfe,hvs⟩:=hfv;have hl:=jP hρ hl;obtain⟨hcf,hcall⟩:=hG _ _ _ _ _ h W c O w _ hΓ hp hold (D.bw hl (iY hvs));refine ax.xN (f:=f) (args:=(args.toList.map a.eval++vs).toArray) ?_ hcall;have:=hcf.run (args.map a.eval++vs.toArray) w;simp[execOp,ho,resolve,Deferred.ofValue,hfe,invoke,this,←Array.toList_map]
  ·exact h.elim
 ·exact h.elim
theorem ya{ik:IntKind}{d:D}{u:Value}{l:List Int}{len:Nat}(hd:D.rep c d u)(hl:ints ik d.cells=some l)(hn:d.cells.length=len)(h0:∀x,d≠.fr (.vl x)):u=.agg (l.map (.int ik)).toArray:=by
 by_cases q1:∃cs,d=.ag cs
 ·obtain⟨cs,rfl⟩:=q1;unfold D.rep at hd;obtain⟨vs,rfl,hvs⟩:=hd;rw[uc hl hvs]
 ·by_cases q2:∃cs,d=.fr (.ag cs)
  ·obtain⟨cs,rfl⟩:=q2;unfold D.rep F.rep at hd;obtain⟨vs,rfl,hvs⟩:=hd;rw[uc hl (D.fg hvs)]
  ·have e0:d.cells=[d]:=by
    unfold D.cells
    split
    ·exact absurd ⟨_,rfl⟩ q1
    ·exact absurd ⟨_,rfl⟩ q2
    ·rfl
   rw[e0]at hl
   exfalso
   cases d with
   |fr x=>
    cases x with
    |vl v=>exact h0 v rfl
    |_=>simp[ints]at hl
   |_=>simp[ints]at hl
theorem Ky{G:CG}(hdp:2≤P.depth)(hG:kB P Γ G)(hΓ:GOk Γ c)(hs:kS c n s a)(hE:∀t i,E t=some i→TOk P t i)(hp:Hp c O η w)(hold:Old W c O w)(h:wpOp E η t G (evD Γ s) o.op k):ax P o a w (Res W η c k):=by
 have hρ:∀x d,evD Γ s x=some d→D.rep c d (a.eval x):=fun x d hx=>lP hs hΓ hx
 have hev:∀x d,evD Γ s x=some d→Sl.ev (sv a s) x=some (a.eval x):=fun x d hx=>MO hx
 have hfr:=Ix hs;unfold wpOp at h
 split at h
 ·rename_i x ho
  split at h
  ·rename_i d hx;exact ax.aw (v:=a.eval x) (by simp[execOp,ho]) (Res.val h (hρ x d hx) hp hold)
  ·exact h.elim
 ·rename_i x ho
  split at h
  ·rename_i d hx;exact ax.aw (v:=a.eval x) (by simp[execOp,ho]) (Res.val h (hρ x d hx) hp hold)
  ·exact h.elim
 ·rename_i x y z ho
  split at h
  ·rename_i q d d' hx hy hz;have hxv:=aL (hρ x _ hx)
   cases q with
   |true=>exact ax.aw (v:=a.eval y) (by simp[execOp,ho,hxv,asBool]) (Res.val (h.1 rfl) (hρ y d hy) hp hold)
   |false=>exact ax.aw (v:=a.eval z) (by simp[execOp,ho,hxv,asBool]) (Res.val (h.2 rfl) (hρ z d' hz) hp hold)
  ·exact h.elim
 ·rename_i t' ho;exact Gn hfr hE hp hold ho h
 ·rename_i t' x ho
  split at h
  ·rename_i d hx;exact Lx hfr (hev x d hx) hp hold ho (hρ x d hx) h
  ·exact h.elim
 ·rename_i t' ps ho;exact HH hρ hE hp hold ho h
 ·rename_i t' m ps ho;exact Mw hfr hρ hev hE hp hold ho h
 ·rename_i t' x ho
  split at h
  ·rename_i d hx;exact Ji hE hp hold ho (hρ x d hx) h
  ·exact h.elim
 ·rename_i t' x y ho
  split at h
  ·rename_i d d' hx hy;exact FI hE hp hold ho (hρ x d hx) (hρ y d' hy) h
  ·exact h.elim
 ·rename_i x ho
  split at h
  ·rename_i b v q hx;have hd:=hρ x _ hx;have hd0:=hd;unfold D.rep at hd;obtain⟨g,hg,hxv⟩:=hd;exact ax.aw (v:=a.eval x) (by simp[execOp,ho,hxv]) (Res.val h hd0 hp hold)
  ·rename_i b v sz i q hx;have hd:=hρ x _ hx;have hd0:=hd;unfold D.rep at hd;obtain⟨A,m,k',hA,hxv⟩:=hd;exact ax.aw (v:=a.eval x) (by simp[execOp,ho,hxv]) (Res.val h hd0 hp hold)
  ·rename_i sz rows i q hx;have hd:=hρ x _ hx;have hd0:=hd;unfold D.rep F.rep at hd;obtain⟨A,vr,hxv,_⟩:=hd;exact ax.aw (v:=a.eval x) (by simp[execOp,ho,hxv]) (Res.val h hd0 hp hold)
  ·rename_i f cs hx;have hd:=hρ x _ hx;have hd0:=hd;unfold D.rep at hd;obtain⟨vs,hxv,_⟩:=hd;exact ax.aw (v:=a.eval x) (by simp[execOp,ho,hxv]) (Res.val h hd0 hp hold)
  ·rename_i f cs hx;have hd:=hρ x _ hx;have hd0:=hd;unfold D.rep F.rep at hd;obtain⟨vs,hxv,_⟩:=hd;exact ax.aw (v:=a.eval x) (by simp[execOp,ho,hxv]) (Res.val h hd0 hp hold)
  ·exact h.elim
 ·rename_i op ty x y ty2 ho
  split at h
  ·rename_i d d' hx hy;have hd:=hρ x d hx;have hd':=hρ y d' hy
   split at h
   ·rename_i sz z hi;have ht:=(hE _ _ hi).k;simp only at ht;unfold nG at h
    split at h
    ·rename_i p q;have h1:=aL hd;have h2:=aL hd'
     split at h
     ·refine ax.aw (v:=.bool (p==q)) ?_ (Res.val h (aX _) hp hold);simp[execOp,ho,h1,h2,eqGuard,binOp,Sl.run_equal_bool ht.eq]
     ·refine ax.aw (v:=.bool (!(p==q))) ?_ (Res.val h (aX _) hp hold);simp[execOp,ho,h1,h2,eqGuard,binOp,Sl.run_equal_bool ht.eq]
     ·exact h.elim
    ·exact h.elim
   ·rename_i sz z len e esz hi
    split at h
    ·rename_i sz2 z2 ik hie;have ht:=((hE _ _ hi).k).1;have he:=(hE _ _ hie).k;simp only at he
     replace h:=bB h
     obtain⟨hb,h⟩:=h;rw[Bool.and_eq_true]at hb;obtain⟨hb,b2⟩:=hb;have b2:=Nat.eq_of_beq_eq_true b2;obtain⟨b0,b1⟩:=uJ hb;subst b0;unfold rA at h
     split at h
     ·rename_i l m hl hm
      replace h:=bB h
      obtain⟨h0,h⟩:=h;rw[Bool.and_eq_true]at h0;obtain⟨inf,i1,i2⟩:=ht.info;have hz:SZ P e 1:=⟨⟨inf,i1,i2⟩⟩
      have ll:=tM hl;have lm:=tM hm;have hne:=h0;obtain⟨n1,n2⟩:=hne;have h1:=ya hd hl b1 (fun x e=>by rw[e]at n1;simp[jF]at n1);have h2:=ya hd' hm b2 (fun x e=>by rw[e]at n2;simp[jF]at n2);have hg:=DJ ht.und he.eq hdp;have hq:=rE ht.und he.eq hz l m (by omega) (by omega) w;unfold Op.equal Op.maxDepth at hq
      split at h
      ·refine ax.aw (v:=.bool (decide (l=m))) ?_ (Res.val h (aX _) hp hold);simp[execOp,ho,h1,h2,run_eqGuard_agg w _ _ _ _ _ _ hg,run_eql_struct,hq]
      ·refine ax.aw (v:=.bool (!decide (l=m))) ?_ (Res.val h (aX _) hp hold);simp[execOp,ho,h1,h2,run_eqGuard_agg w _ _ _ _ _ _ hg,run_neq_struct,hq]
      ·exact h.elim
     ·exact h.elim
    ·exact h.elim
   ·unfold tE at h
    split at h
    ·rename_i ka x1 kb y1;have h1:=aL hd;have h2:=aL hd';obtain⟨d1,v1,g1,g2,g3⟩:=Mr (P:=P) (c:=c) (t:=ty) h;refine ax.aw (v:=v1) ?_ (Res.val g1 g2 hp hold);simp[execOp,ho,h1,h2,eqGuard,g3]
    ·rename_i x1 y1;have h1:=aL hd;have h2:=aL hd';obtain⟨d1,v1,g1,g2,g3⟩:=Mh (P:=P) (c:=c) (t:=ty) h;refine ax.aw (v:=v1) ?_ (Res.val g1 g2 hp hold);simp[execOp,ho,h1,h2,eqGuard,g3]
    ·exact h.elim
  ·exact h.elim
 ·rename_i op ty x ho
  split at h
  ·rename_i d hx;have hd:=hρ x d hx;unfold B1 at h
   split at h
   ·rename_i q;have h1:=aL hd;refine ax.aw (v:=.bool (!q)) ?_ (Res.val h (aX _) hp hold);simp[execOp,ho,h1,Op.unary]
   ·rename_i ik q;have h1:=aL hd;obtain⟨d1,v1,g1,g2,g3⟩:=Dp (P:=P) (op:=.sub) (x:=0) (y:=q) (c:=c) h (fun w=>rfl);refine ax.aw (v:=v1) ?_ (Res.val g1 g2 hp hold);simp[execOp,ho,h1,Op.unary,g3]
   ·exact h.elim
  ·exact h.elim
 ·rename_i t1 t2 x ho
  split at h
  ·rename_i d hx;have hd:=hρ x d hx;unfold jL at h
   split at h
   ·rename_i sz1 z1 k1 sz2 z2 k2 k' m e1 e2;have h1:=(hE _ _ e1).k;have h2:=(hE _ _ e2).k;simp only at h1 h2
    replace h:=bB h
    have hxv:=aL hd;obtain⟨_,m',rfl,h⟩:=h;refine ax.aw (v:=.int k2 (k2.wrap m)) ?_ (Res.val h (aX _) hp hold);simp[execOp,ho,hxv,convert,run_underlying h1.eq,run_underlying h2.eq,Conv.intToInt]
   ·rename_i sz1 z1 e sz by_ sz2 z2 e1 e2;have h1:=(hE _ _ e1).k;have h2:=(hE _ _ e2).k;simp only at h1 h2;obtain⟨zv,ht⟩:=h1
    split at h
    ·rename_i sz3 z3 e3;have h3:=(hE _ _ e3).k;simp only at h3
     split at h
     ·rename_i rows rd hs;obtain⟨hsz,bs,hb,h⟩:=h;subst hsz;obtain⟨A,c',vr,hxv,harr,hvr,hone⟩:=xg (sz:=1) hp hd hs (by rw[hb];intro r hr;obtain⟨x,_,rfl⟩:=List.mem_map.1 hr;rfl);have hlen:rows.length=bs.length:=by rw[hb];simp
      refine ax.aw (v:=.string ⟨bs.toArray⟩) ?_ (Res.val h (aX _) hp hold)
      cases A with
      |none=>
       have h0:bs=[]:=by
        cases bs with
        |nil=>rfl
        |cons b bs=>
         have:=harr.some_ (by rw[hlen];simp);simp at this
       subst h0;have:=run_convert_bytes_nil (P:=P) w t1 e ht.und h3.eq;simp only[execOp,ho,hxv];simp[convert,run_underlying ht.und,run_underlying h2.eq,run_underlying h3.eq,Conv.bytesToString];rfl
      |some A=>
       have:=run_convert_bytes_back (P:=P) w t1 t2 e A c' bs ht.und h3.eq h2.eq (fun j hj=>by
        have hj':j<rows.length:=by omega
        obtain⟨rv,hrv,hrr⟩:=F.ff hvr (List.getElem?_eq_getElem hj');have e4:rows[j]=[.vl (.int .u8 (bs[j].toNat:Int))]:=by simp[hb]
        rw[e4]at hrr;unfold F.ah at hrr;obtain⟨u,us,rfl,g1,g2⟩:=hrr;unfold F.rep at g1;subst g1;have:=harr.cell (i:=j) (j:=0) hrv rfl;simpa using this)
       rw[hlen]at hxv;simp[execOp,ho,hxv,this]
     ·exact h.elim
    ·exact h.elim
   ·exact h.elim
  ·exact h.elim
 ·rename_i f fst cap ho
  split at h
  ·rename_i l hfst hl;have hf0:fst=#[]:=by
    have:fst.toList=[]:=hfst;simpa using this
   subst hf0;have hl:=jP hρ hl;refine ax.aw (v:=.func (.func f) #[] (cap.toList.map a.eval).toArray) ?_ (Res.val h (by unfold D.rep;exact⟨_,rfl,hl⟩) hp hold);simp[execOp,ho,Instr.makeFunc,←Array.toList_map]
  ·exact h.elim
 ·rename_i t' x y ho
  split at h
  ·rename_i d d' hx hy;exact JU hfr (hev x d hx) (hev y d' hy) hE hp hold ho (hρ x d hx) (hρ y d' hy) h
  ·exact h.elim
 ·rename_i t' x lo hi mx ho
  split at h
  ·rename_i d hx;exact Hc hρ hE hp hold ho (hρ x d hx) h
  ·exact h.elim
 ·rename_i t' x j ho
  split at h
  ·rename_i d hx;exact wZ hE hp hold ho (hρ x d hx) h
  ·exact h.elim
 ·rename_i t' x j ho
  split at h
  ·rename_i d hx;exact Im hE hp hold ho (hρ x d hx) h
  ·exact h.elim
 ·rename_i t' x y ho
  split at h
  ·rename_i d d' hx hy;exact xL hE hp hold ho (hρ x d hx) (hρ y d' hy) h
  ·exact h.elim
 ·rename_i t' x y ho
  split at h
  ·rename_i d d' hx hy;exact Gf hE hp hold ho (hρ x d hx) (hρ y d' hy) h
  ·exact h.elim
 ·rename_i x j ho
  split at h
  ·rename_i d hx;exact AU hp hold ho (hρ x d hx) h
  ·exact h.elim
 ·rename_i c0 ho;exact Jk hG hΓ hρ hE hp hold ho h
 ·exact h.elim
end
def Loc(Q:Env→Ks→Prop)(η:Env)(k:Ks):Prop:=∃d rd e,k d rd e∧∀η',(∀b∈rd,η' b=η b)→Q η' (fun x y z=>x=d∧y=rd∧z=e)
section
variable {η:Env}{k:Ks}{E:TE}{t:Nat}
theorem E6{t':Nat}{x:D}(h:eS E η t' x k):Loc (fun η k=>eS E η t' x k) η k:=by
 unfold eS at h
 split at h
 ·rename_i b v q i hi
  split at h
  ·rename_i v' bt cs hb
   replace h:=bB h
   obtain⟨hv,h⟩:=h
   cases ha:i.k.agg with
   |true=>
    rw[ha]at h;exact⟨_,_,_,h.2,fun η' hη=>by simp[eS,hi,hη b (by simp),hb,hv,ha,h.1]⟩
   |false=>
    rw[ha]at h;obtain⟨d,hd,h⟩:=h;exact⟨_,_,_,h,fun η' hη=>by simp[eS,hi,hη b (by simp),hb,hv,ha,hd]⟩
  ·exact h.elim
 ·rename_i b v sz j q i hi
  split at h
  ·rename_i v' e sz' rows hb
   replace h:=bB h
   obtain⟨hv,r,hr,h⟩:=h;rw[Bool.and_eq_true]at hv
   cases ha:i.k.agg with
   |true=>
    rw[ha]at h;exact⟨_,_,_,h.2,fun η' hη=>by simp[eS,hi,hη b (by simp),hb,hv,ha,hr,h.1]⟩
   |false=>
    rw[ha]at h;obtain⟨d,hd,h⟩:=h;exact⟨_,_,_,h,fun η' hη=>by simp[eS,hi,hη b (by simp),hb,hv,ha,hr,hd]⟩
  ·exact h.elim
 ·rename_i sz rows j q i hi;obtain⟨r,hr,h⟩:=h
  cases ha:i.k.agg with
  |true=>
   rw[ha]at h;exact⟨_,_,_,h.2,fun η' hη=>by simp[eS,hi,ha,hr,h.1]⟩
  |false=>
   rw[ha]at h;obtain⟨d,hd,h⟩:=h;exact⟨_,_,_,h,fun η' hη=>by simp[eS,hi,ha,hr,hd]⟩
 ·exact h.elim
theorem ft{f g:D→Option (F×List Nat)}:∀{cs:List D}{l:List F}{is:List Nat},(∀d x is',f d=some (x,is')→(∀b∈is',b∈is)→g d=some (x,is'))→cB f cs=some (l,is)→cB g cs=some (l,is):=by
 have key:∀(cs:List D) (l:List F) (is ids:List Nat),(∀d x is',f d=some (x,is')→(∀b∈is',b∈ids)→g d=some (x,is'))→(∀b∈is,b∈ids)→cB f cs=some (l,is)→cB g cs=some (l,is):=by
  intro cs
  induction cs with
  |nil=>intro l is ids _ _ h;simpa [cB]using h
  |cons x cs ih=>
   intro l is ids hfg hi h;simp only[cB]at h
   split at h
   ·rename_i y i ys is' h1 h2
    cases h;have g1:=hfg _ _ _ h1 (fun b hb=>hi b (by simp[hb]));have g2:=ih _ _ ids hfg (fun b hb=>hi b (by simp[hb])) h2;simp[cB,g1,g2]
   ·cases h
 exact fun {cs l is} h1 h2=>key cs l is is h1 (fun b h=>h) h2
theorem fG{η':Env}:∀(m:Nat) (d:D) (x:F) (is:List Nat),D.toF η m d=some (x,is)→(∀b∈is,η' b=η b)→D.toF η' m d=some (x,is)
 |0,d,x,is,h,_=>by simp[D.toF]at h
 |m+1,d,x,is,h,hη=>by
  have ih:∀(cs:List D) (l:List F) (is':List Nat),cB (D.toF η m) cs=some (l,is')→(∀b∈is',η' b=η b)→cB (D.toF η' m) cs=some (l,is'):=by
   intro cs l is' h1 h2;exact ft (fun d x is'' h3 h4=>fG m d x is'' h3 (fun b hb=>h2 b (h4 b hb))) h1
  unfold D.toF at h ⊢
  split at h
  ·exact h
  ·split at h
   ·rename_i h1;cases h;simp[ih _ _ _ h1 hη]
   ·cases h
  ·split at h
   ·rename_i h1;cases h;simp[ih _ _ _ h1 hη]
   ·cases h
  ·split at h
   ·rename_i h1;cases h;simp[ih _ _ _ h1 hη]
   ·cases h
  ·rename_i b0 v0 o0
   split at h
   ·rename_i v' bt cs hb'
    cases hv:Nat.beq v0 v' with
    |false=>simp[hv]at h
    |true=>
     simp only[hv,cond_true]at h
     split at h
     ·rename_i l is' h1
      cases h;have e1:=hη b0 (by simp);simp[e1,hb',hv,ih _ _ _ h1 (fun b hb=>hη b (by simp[hb]))]
     ·cases h
   ·cases h
  ·rename_i b0 v0
   split at h
   ·rename_i v' e sz rows hb'
    cases hv:Nat.beq v0 v' with
    |false=>simp[hv]at h
    |true=>
     simp only[hv,cond_true]at h
     cases h;have e1:=hη b0 (by simp);simp[e1,hb',hv]
   ·cases h
  ·rename_i b0 v0
   split at h
   ·rename_i v' rows hb'
    cases hv:Nat.beq v0 v' with
    |false=>simp[hv]at h
    |true=>
     simp only[hv,cond_true]at h
     cases h;have e1:=hη b0 (by simp);simp[e1,hb',hv]
   ·cases h
  ·rename_i b0 v0 sz0 lo0 hi0 ex0
   split at h
   ·rename_i v' e sz rows hb'
    cases hv:(Nat.beq v0 v'&&Nat.beq sz0 sz)with
    |false=>simp[hv]at h
    |true=>
     simp only[hv,cond_true]at h
     cases h;have e1:=hη b0 (by simp);simp[e1,hb',hv]
   ·cases h
  ·exact h
  ·cases h
  ·cases h
  ·cases h
theorem dd{η':Env}:∀{is:List Nat},(∀b∈is,η' b=η b)→aU η' is=aU η is
 |[],_=>rfl
 |b::l,h=>by
  simp only[aU,h b (by simp),dd (is:=l) (fun b hb=>h b (by simp[hb]))]
theorem cM{η':Env}{b:Nat}(h:η' b=η b):nv η' b=nv η b:=by unfold nv;rw[h]
theorem EL{t':Nat}{x y:D}(h:fM E η t' x y k):Loc (fun η k=>fM E η t' x y k) η k:=by
 unfold fM at h
 split at h
 ·rename_i b v q i hi
  split at h
  ·rename_i v' bt cs hb
   replace h:=bB h
   obtain⟨hv,h1,h2,h3,h⟩:=h;rw[Bool.and_eq_true]at hv;exact⟨_,_,_,h,fun η' hη=>by simp only[fM,hi,hη b (by simp),hb,hv.1,hv.2];exact⟨h1,h2,h3,by trivial,by trivial,by trivial⟩⟩
  ·exact h.elim
 ·rename_i b v sz j q i hi
  split at h
  ·rename_i v' e sz' rows hb
   replace h:=bB h
   obtain⟨hv,r,hr,h⟩:=h;rw[Bool.and_eq_true,Bool.and_eq_true]at hv
   split at h
   ·rename_i fs is hm;obtain⟨h1,h2,h3,h4,h⟩:=h;refine⟨_,_,_,h,fun η' hη=>?_⟩;have e1:cB (D.toF η' 4) y.cells=some (fs,is):=ft (fun d x is'' h3 h4=>fG 4 d x is'' h3 (fun b' hb'=>hη b' (by simp[h4 b' hb']))) hm;have e2:=dd (is:=is) (fun b' hb'=>hη b' (by simp[hb']));simp only[fM,hi,hη b (by simp),hb,hv.1.1,hv.1.2,hv.2,e1,e2];exact⟨r,hr,h1,h2,h3,h4,by trivial,by trivial,by trivial⟩
   ·exact h.elim
  ·exact h.elim
 ·exact h.elim
theorem uC{t':Nat}{x y:D}(h:bu E η t' x y k):Loc (fun η k=>bu E η t' x y k) η k:=by
 unfold bu at h
 split at h
 ·rename_i ik m
  split at h
  ·rename_i sz0 z0 e sz by_ hi
   split at h
   ·rename_i b v
    split at h
    ·rename_i v' e' sz' rows hb
     replace h:=bB h
     obtain⟨hv,i,h1,h2,h⟩:=h;rw[Bool.and_eq_true]at hv;exact⟨_,_,_,h,fun η' hη=>by simp only[bu,hi,hη b (by simp),hb,hv.1,hv.2];exact⟨i,h1,h2,by trivial,by trivial,by trivial⟩⟩
    ·exact h.elim
   ·obtain⟨i,h1,r,h2,h3,h⟩:=h;exact⟨_,_,_,h,fun η' hη=>by simp only[bu,hi];exact⟨i,h1,r,h2,h3,by trivial,by trivial,by trivial⟩⟩
   ·exact h.elim
  ·rename_i sz0 z0 len e sz hi
   split at h
   ·obtain⟨i,h1,h2,h⟩:=h;exact⟨_,_,_,h,fun η' hη=>by simp only[bu,hi];exact⟨i,h1,h2,by trivial,by trivial,by trivial⟩⟩
   ·obtain⟨i,h1,h2,h⟩:=h;exact⟨_,_,_,h,fun η' hη=>by simp only[bu,hi];exact⟨i,h1,h2,by trivial,by trivial,by trivial⟩⟩
   ·obtain⟨i,h1,h2,h⟩:=h;exact⟨_,_,_,h,fun η' hη=>by simp only[bu,hi];exact⟨i,h1,h2,by trivial,by trivial,by trivial⟩⟩
   ·exact h.elim
  ·exact h.elim
 ·exact h.elim
theorem Ju{t':Nat}{x:D}(h:j8 E η t' x k):Loc (fun η k=>j8 E η t' x k) η k:=by
 unfold j8 at h
 split at h
 ·rename_i hi;exact⟨_,_,_,h,fun η' hη=>by simp only[j8,hi];exact⟨by trivial,by trivial,by trivial⟩⟩
 ·rename_i hi;exact⟨_,_,_,h,fun η' hη=>by simp only[j8,hi];exact⟨by trivial,by trivial,by trivial⟩⟩
 ·rename_i hi;exact⟨_,_,_,h,fun η' hη=>by simp only[j8,hi];exact⟨by trivial,by trivial,by trivial⟩⟩
 ·rename_i sz z e sz' by_ b v hi
  split at h
  ·rename_i v' e' sz2 rows hb
   replace h:=bB h
   exact⟨_,_,_,h.2,fun η' hη=>by simp only[j8,hi,hη b (by simp),hb,h.1];exact⟨by trivial,by trivial,by trivial⟩⟩
  ·exact h.elim
 ·exact h.elim
theorem jx{η':Env}{d:D}{news:List (List F)}{rd:List Nat}(h:fI η d=some (news,rd))(hη:∀b∈rd,η' b=η b):fI η' d=some (news,rd):=by
 unfold fI at h ⊢
 split at h
 ·exact h
 ·exact h
 ·rename_i b v
  split at h
  ·rename_i v' e' sz2 rows hb
   cases hv:Nat.beq v v' with
   |false=>rw[hv]at h;cases h
   |true=>
    rw[hv]at h
    cases h;simp[hη b (by simp),hb,hv]
  ·cases h
 ·cases h
theorem AL{t':Nat}{x y:D}(h:ed E η t t' x y k):Loc (fun η k=>ed E η t t' x y k) η k:=by
 unfold ed at h
 split at h
 ·rename_i sz0 z0 e sz by_ news rd hi hs
  split at h
  ·rename_i b v
   split at h
   ·rename_i v' e' sz' rows hb
    replace h:=bB h
    obtain⟨hv,h1,h2,h3,h⟩:=h;rw[Bool.and_eq_true,Bool.and_eq_true]at hv;refine⟨_,_,_,h,fun η' hη=>?_⟩;have e1:=jx hs (fun b' hb'=>hη b' (by simp[hb']));simp only[ed,hi,e1,hη b (by simp),hb,hv.1.1,hv.1.2,hv.2];exact⟨h1,h2,h3,by trivial,by trivial,by trivial⟩
   ·exact h.elim
  ·obtain⟨h1,h2,h3,h⟩:=h;refine⟨_,_,_,h,fun η' hη=>?_⟩;have e1:=jx hs (fun b' hb'=>hη b' (by simp[hb']));simp only[ed,hi,e1,cM (hη t (by simp))];exact⟨h1,h2,h3,by trivial,by trivial,by trivial⟩
  ·exact h.elim
 ·exact h.elim
theorem Iu{t':Nat}{x y:D}(h:jH E η t t' x y k):Loc (fun η k=>jH E η t t' x y k) η k:=by
 unfold jH at h
 split at h
 ·rename_i hi
  split at h
  ·rename_i i hie;obtain⟨h1,j,h2,j',h3,h4,h5,h6,h⟩:=h;refine⟨_,_,_,h,fun η' hη=>?_⟩;simp only[jH,hi,hie,cM (hη t (by simp))];exact⟨h1,j,h2,j',h3,h4,h5,h6,by trivial,by trivial,by trivial⟩
  ·exact h.elim
 ·exact h.elim
theorem ry{η':Env}{sz:Nat}:∀{l:List (Nat×Option D)}{j:Nat}{rows:List (List F)}{is:List Nat},jX η sz j l=some (rows,is)→(∀b∈is,η' b=η b)→jX η' sz j l=some (rows,is)
 |[],j,rows,is,h,_=>h
 |(i,none)::l,j,rows,is,h,_=>by simp[jX]at h
 |(i,some d)::l,j,rows,is,h,hη=>by
  simp only[jX]at h
  cases hb:(Nat.beq i j&&Nat.beq d.cells.length sz)with
  |false=>rw[hb]at h;simp at h
  |true=>
   rw[hb]at h;simp only[cond_true]at h
   split at h
   ·rename_i r is1 rs is2 e1 e2
    cases h1:r.all F.one with
    |false=>rw[h1]at h;simp at h
    |true=>
     rw[h1]at h;simp only[cond_true]at h
     cases h;have g1:cB (D.toF η' 4) d.cells=some (r,is1):=ft (fun d x is'' h3 h4=>fG 4 d x is'' h3 (fun b' hb'=>hη b' (by simp[h4 b' hb']))) e1;have g2:=ry e2 (fun b hb=>hη b (by simp[hb]));simp only[jX,hb,cond_true,g1,g2,h1]
   ·cases h
theorem I7{t' m:Nat}{ps:List (Nat×Option D)}(h:pb E η t t' m ps k):Loc (fun η k=>pb E η t t' m ps k) η k:=by
 unfold pb at h
 split at h
 ·rename_i hi
  split at h
  ·rename_i rows is hr
   replace h:=bB h
   refine⟨_,_,_,h.2,fun η' hη=>?_⟩;have e1:=ry hr (fun b hb=>hη b (by simp[hb]));have e2:=dd (is:=is) (fun b' hb'=>hη b' (by simp[hb']));simp only[pb,hi,e1,e2,cM (hη t (by simp)),h.1,cond_true];exact⟨by trivial,by trivial,by trivial⟩
  ·exact h.elim
 ·exact h.elim
theorem uE{t' j:Nat}{x:D}(h:bX E t' x j k):Loc (fun _ k=>bX E t' x j k) η k:=by
 unfold bX at h
 split at h
 ·rename_i hi
  split at h
  ·rename_i hj
   replace h:=bB h
   obtain⟨h0,h⟩:=h
   split at h
   ·exact⟨_,_,_,h,fun _ _=>by simp only[bX,hi,hj,h0,cond_true];exact⟨by trivial,by trivial,by trivial⟩⟩
   ·exact⟨_,_,_,h,fun _ _=>by simp only[bX,hi,hj,h0,cond_true];exact⟨by trivial,by trivial,by trivial⟩⟩
   ·exact⟨_,_,_,h,fun _ _=>by simp only[bX,hi,hj,h0,cond_true];exact⟨by trivial,by trivial,by trivial⟩⟩
   ·exact h.elim
  ·exact h.elim
 ·exact h.elim
theorem EP{t' j:Nat}{x:D}(h:ey E t' x j k):Loc (fun _ k=>ey E t' x j k) η k:=by
 unfold ey at h
 split at h
 ·rename_i hi
  split at h
  ·rename_i o' s' g cs hj
   replace h:=bB h
   obtain⟨h0,h⟩:=h
   cases g with
   |true=>exact⟨_,_,_,h,fun _ _=>by simp only[ey,hi,hj,h0,cond_true];exact⟨by trivial,by trivial,by trivial⟩⟩
   |false=>
    obtain⟨d,hd,h⟩:=h;exact⟨_,_,_,h,fun _ _=>by simp only[ey,hi,hj,h0,cond_true,cond_false];exact⟨d,hd,by trivial,by trivial,by trivial⟩⟩
  ·rename_i o' s' g cs hj
   replace h:=bB h
   obtain⟨h0,h⟩:=h
   cases g with
   |true=>exact⟨_,_,_,h,fun _ _=>by simp only[ey,hi,hj,h0,cond_true];exact⟨by trivial,by trivial,by trivial⟩⟩
   |false=>
    obtain⟨d,hd,h⟩:=h;exact⟨_,_,_,h,fun _ _=>by simp only[ey,hi,hj,h0,cond_true,cond_false];exact⟨d,hd,by trivial,by trivial,by trivial⟩⟩
  ·exact h.elim
 ·exact h.elim
theorem E4{t':Nat}{x y:D}(h:gz E t' x y k):Loc (fun _ k=>gz E t' x y k) η k:=by
 unfold gz at h
 split at h
 ·split at h
  ·rename_i hi;obtain⟨i,h1,u,h2,h⟩:=h;exact⟨_,_,_,h,fun _ _=>by simp only[gz,hi];exact⟨i,h1,u,h2,by trivial,by trivial,by trivial⟩⟩
  ·exact h.elim
 ·exact h.elim
theorem me{d0:Nat}{x:Option D}{K:Nat→Prop}(h:bound d0 x K):∃i,K i∧∀K':Nat→Prop,K' i→bound d0 x K':=by
 unfold bound at h
 split at h
 ·exact⟨d0,h,fun K' h'=>h'⟩
 ·obtain⟨i,h1,h⟩:=h;exact⟨i,h,fun K' h'=>⟨i,h1,h'⟩⟩
 ·exact h.elim
theorem DF{t':Nat}{x:D}{lo hi:Option (Option D)}{mx:Bool}(h:fK E t' x lo hi mx k):Loc (fun _ k=>fK E t' x lo hi mx k) η k:=by
 cases mx with
 |true=>exact(show False from h).elim
 |false=>
  unfold fK at h;simp only[cond_false]at h
  split at h
  ·rename_i lo' hi'
   split at h
   ·rename_i hi;obtain⟨l,h,hl⟩:=me h;obtain⟨m,h,hm⟩:=me h;exact⟨_,_,_,h.2.2,fun _ _=>by simp only[fK,hi,cond_false];exact hl _ (hm _ ⟨h.1,h.2.1,by trivial,by trivial,by trivial⟩)⟩
   ·rename_i hi;obtain⟨l,h,hl⟩:=me h;obtain⟨m,h,hm⟩:=me h;exact⟨_,_,_,h.2.2.2,fun _ _=>by simp only[fK,hi,cond_false];exact hl _ (hm _ ⟨h.1,h.2.1,h.2.2.1,by trivial,by trivial,by trivial⟩)⟩
   ·exact h.elim
  ·exact h.elim
theorem x7{j:Nat}{x:D}(h:eJ x j k):Loc (fun _ k=>eJ x j k) η k:=by
 unfold eJ at h
 split at h
 ·obtain⟨d,hd,h⟩:=h;exact⟨_,_,_,h,fun _ _=>⟨d,hd,by trivial,by trivial,by trivial⟩⟩
 ·exact h.elim
theorem Ej{t':Nat}{ps:List (Nat×Option D)}(h:fH E t' ps k):Loc (fun _ k=>fH E t' ps k) η k:=by
 unfold fH at h
 split at h
 ·rename_i hi
  split at h
  ·rename_i cs hf;exact⟨_,_,_,h,fun _ _=>by simp only[fH,hi,hf];exact⟨by trivial,by trivial,by trivial⟩⟩
  ·exact h.elim
 ·rename_i hi
  split at h
  ·rename_i cs hf;exact⟨_,_,_,h,fun _ _=>by simp only[fH,hi,hf];exact⟨by trivial,by trivial,by trivial⟩⟩
  ·exact h.elim
 ·exact h.elim
theorem E7{ik:IntKind}{m:Int}{K:D→Prop}(h:rK ik m K):∃d,K d∧rK ik m (fun x=>x=d):=by
 unfold rK at h ⊢
 split at h
 ·exact⟨_,h.2,h.1,rfl⟩
 ·obtain⟨m',h1,h⟩:=h;exact⟨_,h,m',h1,rfl⟩
theorem oD{b:Bool}{f:(D→Prop)→Prop}{K:D→Prop}(hf:f K→∃d,K d∧f (fun x=>x=d))(h:bif b then f K else False):∃d,K d∧(bif b then f (fun x=>x=d)else False):=by
 cases b with
 |true=>exact hf h
 |false=>exact h.elim
theorem IZ{op:BinOp}{ka kb:IntKind}{x y:Int}{K:D→Prop}(h:qY op ka x kb y K):∃d,K d∧qY op ka x kb y (fun z=>z=d):=by
 unfold qY at h ⊢
 cases op<;>simp only at h ⊢
 all_goals first
  |exact oD (f:=fun K=>rK ka _ K) E7 h
  |exact oD (f:=fun K=>K _) (fun h=>⟨_,h,rfl⟩) h
  |exact⟨_,h.2,h.1,rfl⟩
  |exact oD (f:=fun K=>y≠0∧∃m,_=m∧K (.fr (.vl (.int ka m)))) (fun h=>let⟨h0,m,h1,h2⟩:=h;⟨_,h2,h0,m,h1,rfl⟩) h
  |exact h.elim
  |skip
 all_goals
  refine oD (f:=fun K=>match yZ _ ka x y with|some n=>K (.fr (.vl (.int ka n)))|none=>False) (fun h=>?_) h
  split at h
  ·rename_i n hn;exact⟨_,h,by simp[hn]⟩
  ·exact h.elim
theorem J8{op:BinOp}{x y:ByteArray}{K:D→Prop}(h:qW op x y K):∃d,K d∧qW op x y (fun z=>z=d):=by
 unfold qW at h ⊢
 split at h
 ·exact⟨_,h.2,h.1,rfl⟩
 ·exact⟨_,h,rfl⟩
 ·exact⟨_,h,rfl⟩
 ·exact h.elim
theorem JA{op:BinOp}{x y:D}{K:D→Prop}(h:tE op x y K):∃d,K d∧tE op x y (fun z=>z=d):=by
 unfold tE at h ⊢
 split at h
 ·exact IZ h
 ·exact J8 h
 ·exact h.elim
theorem HI{op:BinOp}{x y:D}{K:D→Prop}(h:nG op x y K):∃d,K d∧nG op x y (fun z=>z=d):=by
 unfold nG at h ⊢
 split at h
 ·split at h
  ·exact⟨_,h,rfl⟩
  ·exact⟨_,h,rfl⟩
  ·exact h.elim
 ·exact h.elim
theorem JE{ik:IntKind}{op:BinOp}{x y:D}{K:D→Prop}(h:rA ik op x y K):∃d,K d∧rA ik op x y (fun z=>z=d):=by
 unfold rA at h ⊢
 split at h
 ·rename_i l m hl hm
  cases hb:(jF x&&jF y)with
  |false=>rw[hb]at h;exact h.elim
  |true=>
   rw[hb]at h;simp only[cond_true]at h ⊢
   split at h
   ·exact⟨_,h,rfl⟩
   ·exact⟨_,h,rfl⟩
   ·exact h.elim
 ·exact h.elim
theorem Le{op:UnOp}{x:D}{K:D→Prop}(h:B1 op x K):∃d,K d∧B1 op x (fun z=>z=d):=by
 unfold B1 at h ⊢
 split at h
 ·exact⟨_,h,rfl⟩
 ·exact E7 h
 ·exact h.elim
theorem G9{t1 t2:Nat}{x:D}(h:jL E η t1 t2 x k):Loc (fun η k=>jL E η t1 t2 x k) η k:=by
 unfold jL at h
 split at h
 ·rename_i e1 e2
  replace h:=bB h
  obtain⟨h0,m',h1,h⟩:=h;exact⟨_,_,_,h,fun _ _=>by simp only[jL,e1,e2,h0,cond_true];exact⟨m',h1,by trivial,by trivial,by trivial⟩⟩
 ·rename_i e1 e2
  split at h
  ·rename_i e3
   split at h
   ·rename_i rows rd hs;obtain⟨hsz,bs,hb,h⟩:=h;refine⟨_,_,_,h,fun η' hη=>?_⟩;have e4:=jx hs hη;unfold jL;rw[e1,e2];simp only[e3,e4];exact⟨hsz,bs,hb,by trivial,by trivial,by trivial⟩
   ·exact h.elim
  ·exact h.elim
 ·exact h.elim
end
end Go.Vc
end
