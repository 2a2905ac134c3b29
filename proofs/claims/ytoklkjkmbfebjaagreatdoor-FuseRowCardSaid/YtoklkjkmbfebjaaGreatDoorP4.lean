/- The texts that the card needs, part 5. -/
import Derived.Test.YtoklkjkmbfebjaaGreatDoorP3
set_option linter.all false
section
namespace Go.Km
open Go Go.RowKit Go.Vc
open Go.Sl hiding lk
def ltI(a b:Int):Bool:=match b - a with
 | .ofNat n=>!Nat.beq n 0
 | .negSucc _=>false
def leI(a b:Int):Bool:=match b - a with
 | .ofNat _=>true
 | .negSucc _=>false
def eqI(a b:Int):Bool:=match a,b with
 | .ofNat m,.ofNat n=>Nat.beq m n
 | .negSucc m,.negSucc n=>Nat.beq m n
 | _,_=>false
def Jd(n:Int):Bool:=match n with
 | .ofNat m=>Nat.ble m 9223372036854775807
 | .negSucc m=>Nat.ble m 9223372036854775807
theorem kM(a b:Int):ltI a b=decide (a<b):=by
 unfold ltI;rw[Bool.eq_iff_iff,decide_eq_true_iff]
 split
 ·rename_i n h;have:b - a=(n:Int):=h
  cases n with
  | zero=>exact⟨fun e=>(by cases e),fun _=>by omega⟩
  | succ n=>exact⟨fun _=>by omega,fun _=>rfl⟩
 ·rename_i n h;have:b - a=-((n:Int)+1):=by rw[h];exact Int.negSucc_eq n
  exact⟨fun e=>(by cases e),fun _=>by omega⟩
theorem dt(a b:Int):leI a b=decide (a≤b):=by
 unfold leI;rw[Bool.eq_iff_iff,decide_eq_true_iff]
 split
 ·rename_i n h;have:b - a=(n:Int):=h;exact⟨fun _=>by omega,fun _=>rfl⟩
 ·rename_i n h;have:b - a=-((n:Int)+1):=by rw[h];exact Int.negSucc_eq n
  exact⟨fun e=>(by cases e),fun _=>by omega⟩
theorem dd(a b:Int):eqI a b=decide (a=b):=by
 unfold eqI;rw[Bool.eq_iff_iff,decide_eq_true_iff]
 cases a<;>cases b<;>simp<;>omega
theorem yH(n:Int):Jd n=true↔I64 n:=by
 unfold Jd I64
 cases n with
 | ofNat m=>simp only[Nat.ble_eq];show _↔_≤((m:Nat):Int)∧((m:Nat):Int)≤_;omega
 | negSucc m=>simp only[Nat.ble_eq];rw[Int.negSucc_eq];omega
def Bq:List UInt8→List UInt8→Bool
 | [],[]=>true
 | a :: l,b :: m=>Nat.beq a.toNat b.toNat&&Bq l m
 | _,_=>false
theorem y9:∀{l m:List UInt8},Bq l m=true↔l=m
 | [],[]=>by simp[Bq]
 | a :: l,[]=>by simp[Bq]
 | [],b :: m=>by simp[Bq]
 | a :: l,b :: m=>by
  simp only[Bq,Bool.and_eq_true,y9,List.cons.injEq,Nat.beq_eq]
  constructor
  ·rintro⟨h,h'⟩;exact⟨UInt8.toNat_inj.1 h,h'⟩
  ·rintro⟨h,h'⟩;exact⟨by rw[h],h'⟩
def eqS(a b:ByteArray):Bool:=Bq a.data.toList b.data.toList
theorem r8(a b:ByteArray):eqS a b=decide (a=b):=by
 unfold eqS;rw[Bool.eq_iff_iff,decide_eq_true_iff,y9]
 constructor
 ·intro h;exact ByteArray.ext (Array.ext' h)
 ·rintro rfl;rfl
def szS(a:ByteArray):Nat:=a.data.toList.length
theorem jG(a:ByteArray):szS a=a.size:=rfl
def uq(a b:ByteArray):ByteArray:=⟨(a.data.toList++b.data.toList).toArray⟩
theorem CS(a b:ByteArray):uq a b=a++b:=(KM a b).symm
def lC(a:ByteArray)(l h:Nat):ByteArray:=⟨((a.data.toList.take h).drop l).toArray⟩
theorem xb(a:ByteArray)(l h:Nat):lC a l h=a.extract l h:=by
 apply ByteArray.ext;apply Array.ext';rw[ByteArray.data_extract,Array.toList_extract];unfold lC;simp[List.extract,List.drop_take]
def wC:List Int→List Int→Bool
 | [],[]=>true
 | a :: l,b :: m=>eqI a b&&wC l m
 | _,_=>false
theorem oH:∀(l m:List Int),wC l m=decide (l=m)
 | [],[]=>rfl
 | a :: l,[]=>by simp[wC]
 | [],b :: m=>by simp[wC]
 | a :: l,b :: m=>by
  simp only[wC,oH l m,dd,List.cons.injEq];rw[Bool.eq_iff_iff];simp
section
variable {R:Type} {α:Type} (al:Al R)
def Gp(d:D)(k:Bool→R):R:=match d with
 | .fr (.vl (.bool b))=>k b
 | _=>al.bot
def arG(k:IntKind)(n:Int)(K:D→R):R:=match k with
 | .i64=>al.ak (Jd n) (K (.fr (.vl (.int .i64 n))))
 | k=>al.jm (k.wrap n) fun m=>K (.fr (.vl (.int k m)))
def kb(a b:IntKind):Bool:=match a,b with
 | .i8,.i8=>true | .i16,.i16=>true | .i32,.i32=>true | .i64,.i64=>true
 | .u8,.u8=>true | .u16,.u16=>true | .u32,.u32=>true | .u64,.u64=>true
 | _,_=>false
theorem GO{a b:IntKind}:kb a b=true↔a=b:=by cases a<;>cases b<;>simp[kb]
def Me(op:BinOp)(ka:IntKind)(a:Int)(kb_:IntKind)(b:Int)(K:D→R):R:=match op with
 | .shl=>al.ak (leI 0 b) (al.jm (ka.wrap (a * 2 ^ (min b.toNat ka.bits))) fun m=>K (.fr (.vl (.int ka m))))
 | .shr=>al.ak (leI 0 b) (al.jm (a.fdiv (2 ^ (min b.toNat ka.bits))) fun m=>K (.fr (.vl (.int ka m))))
 | op=>al.ak (kb ka kb_) (match op with
  | .add=>arG al ka (a+b) K
  | .sub=>arG al ka (a - b) K
  | .mul=>arG al ka (a * b) K
  | .lss=>K (.fr (.vl (.bool (ltI a b))))
  | .leq=>K (.fr (.vl (.bool (leI a b))))
  | .gtr=>K (.fr (.vl (.bool (ltI b a))))
  | .geq=>K (.fr (.vl (.bool (leI b a))))
  | .eql=>K (.fr (.vl (.bool (eqI a b))))
  | .neq=>K (.fr (.vl (.bool (!eqI a b))))
  | .quo=>al.ak (!eqI b 0) (al.jm (ka.wrap (a.tdiv b)) fun m=>K (.fr (.vl (.int ka m))))
  | .rem=>al.ak (!eqI b 0) (al.jm (a.tmod b) fun m=>K (.fr (.vl (.int ka m))))
  | op=>match yy op ka a b with|some n=>al.jm n fun m=>K (.fr (.vl (.int ka m)))|none=>al.bot)
def Lj(op:BinOp)(a b:ByteArray)(K:D→R):R:=match op with
 | .add=>al.ak (Nat.ble (szS a+szS b) 9223372036854775807) (K (.fr (.vl (.string (uq a b)))))
 | .eql=>K (.fr (.vl (.bool (eqS a b))))
 | .neq=>K (.fr (.vl (.bool (!eqS a b))))
 | _=>al.bot
def LS(op:BinOp)(x y:D)(K:D→R):R:=match x,y with
 | .fr (.vl (.int ka a)),.fr (.vl (.int kb b))=>Me al op ka a kb b K
 | .fr (.vl (.string a)),.fr (.vl (.string b))=>Lj al op a b K
 | _,_=>al.bot
def pS(a b:Bool):Bool:=match a with
 | true=>b
 | false=>!b
def Lq(op:BinOp)(x y:D)(K:D→R):R:=match x,y with
 | .fr (.vl (.bool a)),.fr (.vl (.bool b))=>(match op with
  | .eql=>K (.fr (.vl (.bool (pS a b))))
  | .neq=>K (.fr (.vl (.bool (!pS a b))))
  | _=>al.bot)
 | _,_=>al.bot
def Lo(k:IntKind)(op:BinOp)(x y:D)(K:D→R):R:=match ints k x.cells,ints k y.cells with
 | some l,some m=>al.ak (jy x&&jy y) (match op with
  | .eql=>K (.fr (.vl (.bool (wC l m))))
  | .neq=>K (.fr (.vl (.bool (!wC l m))))
  | _=>al.bot)
 | _,_=>al.bot
def unG(op:UnOp)(x:D)(K:D→R):R:=match op,x with
 | .not,.fr (.vl (.bool b))=>K (.fr (.vl (.bool (!b))))
 | .neg,.fr (.vl (.int k a))=>arG al k (0 - a) K
 | _,_=>al.bot
variable (E:TE) (η:Env) (t:Nat)
def Hk(t':Nat)(x:D)(k:Kr R):R:=match E t' with
 | none=>al.bot
 | some i=>match x with
  | .ptr b v o=>(match η b with
   | some (.va v' _ cs)=>al.ak (Nat.beq v v') (match i.k.agg with
    | true=>al.ak (Nat.ble (o+i.sz) cs.length) (k (.ag ((cs.drop o).take i.sz)) [b] [])
    | false=>al.bh cs o fun d=>k d [b] [])
   | _=>al.bot)
  | .rp b v sz j o=>(match η b with
   | some (.ro v' _ sz' rows)=>al.ak (Nat.beq v v'&&Nat.beq sz sz') (al.bh rows j fun r=>match i.k.agg with
    | true=>al.ak (Nat.ble (o+i.sz) r.length) (k (.ag (((r.drop o).take i.sz).map .fr)) [b] [])
    | false=>al.bh r o fun d=>k (.fr d) [b] [])
   | _=>al.bot)
  | .fr (.pt sz rows j o)=>al.bh rows j fun r=>(match i.k.agg with
   | true=>al.ak (Nat.ble (o+i.sz) r.length) (k (.ag (((r.drop o).take i.sz).map .fr)) [] [])
   | false=>al.bh r o fun d=>k (.fr d) [] [])
  | _=>al.bot
def Af(t':Nat)(x y:D)(k:Kr R):R:=match E t' with
 | none=>al.bot
 | some i=>match x with
  | .ptr b v o=>(match η b with
   | some (.va v' bt cs)=>al.ak (Nat.beq v v'&&Nat.beq y.cells.length i.sz&&y.cells.all D.one&&Nat.ble (o+i.sz) cs.length&&Nat.blt 0 i.sz) (k Un [b] [(b,.va v bt (setAt cs o y.cells))])
   | _=>al.bot)
  | .rp b v sz j o=>(match η b with
   | some (.ro v' e sz' rows)=>al.ak (Nat.beq v v'&&Nat.beq sz sz'&&Nat.beq y.cells.length i.sz) (al.bh rows j fun r=>match cz (D.toF η 4) y.cells with
    | some (fs,is)=>al.ak (fs.all F.one&&Nat.ble (o+i.sz) sz&&Nat.blt 0 i.sz && !is.elem b) (k Un (b :: is) ((b,.ro v e sz (rows.set j (setAt r o fs))) :: aS η is))
    | none=>al.bot)
   | _=>al.bot)
  | _=>al.bot
def nj(t':Nat)(x:D)(j:Nat)(k:Kr R):R:=match E t' with
 | some ⟨_,_,.st fs⟩=>(match fs[j]? with
  | some (o',s',_)=>al.ak (Nat.blt 0 s') (match x with
   | .ptr b v o=>k (.ptr b v (o+o')) [] []
   | .rp b v sz i o=>k (.rp b v sz i (o+o')) [] []
   | .fr (.pt sz rows i o)=>k (.fr (.pt sz rows i (o+o'))) [] []
   | _=>al.bot)
  | none=>al.bot)
 | _=>al.bot
def Bh(t':Nat)(x:D)(j:Nat)(k:Kr R):R:=match E t' with
 | some ⟨n,_,.st fs⟩=>(match fs[j]? with
  | some (o',s',g)=>(match x with
   | .ag cs=>al.ak (Nat.beq cs.length n) (match g with
    | true=>k (.ag ((cs.drop o').take s')) [] []
    | false=>al.bh cs o' fun d=>k d [] [])
   | .fr (.ag cs)=>al.ak (Nat.beq cs.length n) (match g with
    | true=>k (.ag (((cs.drop o').take s').map .fr)) [] []
    | false=>al.bh cs o' fun d=>k (.fr d) [] [])
   | _=>al.bot)
  | none=>al.bot)
 | _=>al.bot
def nI(t':Nat)(x y:D)(k:Kr R):R:=match y with
 | .fr (.vl (.int _ n))=>(match E t' with
  | some ⟨_,_,.sl e sz _⟩=>(match x with
   | .own b v=>(match η b with
    | some (.ro v' _ sz' rows)=>al.ak (Nat.beq v v'&&Nat.beq sz sz') (al.cE n fun i=>al.ak (Nat.blt i rows.length) (k (.rp b v sz i 0) [b] []))
    | _=>al.bot)
   | .fr (.sl rows)=>al.cE n fun i=>al.bh rows i fun r=>al.ak (Nat.beq r.length sz) (k (.fr (.pt sz rows i 0)) [] [])
   | _=>al.bot)
  | some ⟨_,_,.ar len e sz⟩=>(match x with
   | .ptr b v o=>al.cE n fun i=>al.ak (Nat.blt i len) (k (.ptr b v (o+i * sz)) [] [])
   | .rp b v sz' j o=>al.cE n fun i=>al.ak (Nat.blt i len) (k (.rp b v sz' j (o+i * sz)) [] [])
   | .fr (.pt sz' rows j o)=>al.cE n fun i=>al.ak (Nat.blt i len) (k (.fr (.pt sz' rows j (o+i * sz))) [] [])
   | _=>al.bot)
  | _=>al.bot)
 | _=>al.bot
def AM(t':Nat)(x y:D)(k:Kr R):R:=match y with
 | .fr (.vl (.int _ n))=>(match E t',x with
  | some ⟨_,_,.str⟩,.fr (.vl (.string s))=>al.cE n fun i=>al.bh s.data.toList i fun u=>k (.fr (.vl (.int .u8 (u.toNat:Int)))) [] []
  | _,_=>al.bot)
 | _=>al.bot
def qA(d:Nat)(x:Option D)(K:Nat→R):R:=match x with
 | none=>K d
 | some (.fr (.vl (.int _ n)))=>al.cE n K
 | _=>al.bot
def jh(sz:Nat)(rows:List (List F)):Bool:=rows.all fun r=>Nat.beq r.length sz
def AQ(t':Nat)(x:D)(lo hi:Option (Option D))(mx:Bool)(k:Kr R):R:=match mx with
 | true=>al.bot
 | false=>match lo,hi with
  | some lo,some hi=>(match E t',x with
   | some ⟨_,_,.str⟩,.fr (.vl (.string s))=>qA al 0 lo fun l=>qA al (szS s) hi fun h=>al.ak (Nat.ble l h&&Nat.ble h (szS s)) (k (.fr (.vl (.string (lC s l h)))) [] [])
   | some ⟨_,_,.sl e sz _⟩,.fr (.sl rows)=>qA al 0 lo fun l=>qA al rows.length hi fun h=>al.ak (Nat.ble l h&&Nat.ble h rows.length&&jh sz rows) (k (.fr (.sl ((rows.take h).drop l))) [] [])
   | _,_=>al.bot)
  | _,_=>al.bot
def rY(x:D)(j:Nat)(k:Kr R):R:=match x with
 | .tp ds=>al.bh ds j fun d=>k d [] []
 | _=>al.bot
def Bk(t':Nat)(ps:List (Nat×Option D))(k:Kr R):R:=match E t' with
 | some ⟨_,z,.st fs⟩=>(match oK fs (z.map fun v=>.fr (.vl v)) ps with
  | some cs=>k (.ag cs) [] []
  | none=>al.bot)
 | some ⟨_,z :: zs,.ar len _ sz⟩=>(match oK ((List.range len).map fun j=>(j * sz,sz,false)) ((z :: zs).map fun v=>.fr (.vl v)) ps with
  | some cs=>k (.ag cs) [] []
  | none=>al.bot)
 | _=>al.bot
def Lw(t':Nat)(len:Nat)(ps:List (Nat×Option D))(k:Kr R):R:=match E t' with
 | some ⟨_,_,.sl e sz _⟩=>(match kn η sz 0 ps with
  | some (rows,is)=>al.ak (Nat.beq len ps.length&&Nat.ble (len * sz) 16777216 && !(is.elem t)) (k (.own t (nv η t)) (t :: is) ((t,.ro (nv η t) e sz rows) :: aS η is))
  | none=>al.bot)
 | _=>al.bot
def FR(t':Nat)(l c:D)(k:Kr R):R:=match E t',l,c with
 | some ⟨_,_,.sl e sz by_⟩,.fr (.vl (.int _ n)),.fr (.vl (.int _ m))=>(match E e with
  | some i=>al.ak (Nat.beq i.z.length sz) (al.cE n fun j=>al.cE m fun j'=>al.ak ((Nat.beq j j'||Nat.beq j 0)&&Nat.ble (by_ * j') 281474976710656&&Nat.ble j' maxLen)
    (k (.own t (nv η t)) [t] [(t,.ro (nv η t) e sz (List.replicate j (i.z.map fun v=>F.nz (.vl v))))]))
  | none=>al.bot)
 | _,_,_=>al.bot
def LM(t':Nat)(x:D)(k:Kr R):R:=match E t' with
 | some ⟨_,_,.str⟩=>(match x with
  | .fr (.vl (.string s))=>k (.fr (.vl (.int .i64 (szS s:Int)))) [] []
  | _=>al.bot)
 | some ⟨_,_,.sl _ _ _⟩=>(match x with
  | .fr (.sl rows)=>k (.fr (.vl (.int .i64 (rows.length:Int)))) [] []
  | .fr (.vl (.slice none 0 0))=>k (.fr (.vl (.int .i64 0))) [] []
  | .own b v=>(match η b with
   | some (.ro v' _ _ rows)=>al.ak (Nat.beq v v') (k (.fr (.vl (.int .i64 (rows.length:Int)))) [b] [])
   | _=>al.bot)
  | _=>al.bot)
 | _=>al.bot
def v8(t':Nat)(x y:D)(k:Kr R):R:=match E t',fI η y with
 | some ⟨_,_,.sl e sz by_⟩,some (news,rd)=>(match x with
  | .own b v=>(match η b with
   | some (.ro v' e' sz' rows)=>al.ak (Nat.beq v v'&&Nat.beq e e'&&Nat.beq sz sz'&&jh sz news&&Nat.ble (rows.length+news.length) maxLen&&Nat.ble ((rows.length+news.length) * by_) 140737488355328)
     (k (.own b (v+1)) (b :: rd) [(b,.ro (v+1) e sz (rows++news))])
   | _=>al.bot)
  | .fr (.vl (.slice none 0 0))=>al.ak (jh sz news&&Nat.ble news.length maxLen&&Nat.ble (news.length * by_) 140737488355328) (k (.own t (nv η t)) (t :: rd) [(t,.ro (nv η t) e sz news)])
  | _=>al.bot)
 | _,_=>al.bot
def bytesOf:List (List F)→Option (List UInt8)
 | []=>some []
 | r :: l=>match r with
  | [.vl (.int .u8 (.ofNat n))]=>bif Nat.blt n 256 then (match bytesOf l with
   | some m=>some (UInt8.ofNat n :: m)
   | none=>none) else none
  | _=>none
def FT(t1 t2:Nat)(x:D)(k:Kr R):R:=match E t1,E t2 with
 | some ⟨_,_,.int k1⟩,some ⟨_,_,.int k2⟩=>(match x with
  | .fr (.vl (.int k' n))=>al.ak (kb k' k1) (al.jm (k2.wrap n) fun m=>k (.fr (.vl (.int k2 m))) [] [])
  | _=>al.bot)
 | some ⟨_,_,.sl e sz _⟩,some ⟨_,_,.str⟩=>(match E e with
  | some ⟨_,_,.int .u8⟩=>(match fI η x with
   | some (rows,rd)=>(match bytesOf rows with
    | some bs=>al.ak (Nat.beq sz 1) (k (.fr (.vl (.string ⟨bs.toArray⟩))) rd [])
    | none=>al.bot)
   | none=>al.bot)
  | _=>al.bot)
 | _,_=>al.bot
abbrev CR(R:Type):=Nat→Env→FuncId→List D→Kr R→R
def Gn(G:CR R)(ρ:Operand→Option D)(c:Call)(k:Kr R):R:=match c.callee with
 | .builtin .len=>(match c.args.toList,c.argTypes.toList with
  | [x],[t']=>(match ρ x with|some d=>LM al E η t' d k|none=>al.bot)
  | _,_=>al.bot)
 | .builtin .append=>(match c.args.toList,c.argTypes.toList with
  | [x,y],[t',t'']=>(match ρ x,ρ y with|some d,some d'=>al.ak (Nat.beq t' t'') (v8 al E η t t' d d' k)|_,_=>al.bot)
  | _,_=>al.bot)
 | .builtin .max=>(match c.args.toList with
  | [x,y]=>(match ρ x,ρ y with
   | some (.fr (.vl (.int .i64 a))),some (.fr (.vl (.int .i64 b)))=>k (.fr (.vl (.int .i64 (bif leI a b then b else a)))) [] []
   | _,_=>al.bot)
  | _=>al.bot)
 | .builtin .min=>(match c.args.toList with
  | [x,y]=>(match ρ x,ρ y with
   | some (.fr (.vl (.int .i64 a))),some (.fr (.vl (.int .i64 b)))=>k (.fr (.vl (.int .i64 (bif leI a b then a else b)))) [] []
   | _,_=>al.bot)
  | _=>al.bot)
 | .value f=>(match ρ f,jq (c.args.toList.map ρ) with
  | some (.cl f cs),some l=>G t η f (l++cs) k
  | some (.fr (.cl f cs)),some l=>G t η f (l++cs.map F.toD) k
  | _,_=>al.bot)
 | _=>al.bot
def KZ(G:CR R)(ρ:Operand→Option D)(op:Op)(k:Kr R):R:=match op with
 | .move x=>(match ρ x with|some d=>k d [] []|none=>al.bot)
 | .assign x=>(match ρ x with|some d=>k d [] []|none=>al.bot)
 | .pick c a b=>(match ρ c,ρ a,ρ b with|some (.fr (.vl (.bool q))),some x,some y=>al.nS q (k x [] []) (k y [] [])|_,_,_=>al.bot)
 | .alloc t'=>(match E t' with
  | some i=>al.ak (Nat.blt 0 i.z.length) (k (.ptr t (nv η t) 0) [t] [(t,.va (nv η t) t' (i.z.map fun v=>.fr (.vl v)))])
  | none=>al.bot)
 | .box t' x=>(match ρ x with|some d=>al.ak (d.cells.all D.one) (k (.ptr t (nv η t) 0) [t] [(t,.va (nv η t) t' d.cells)])|none=>al.bot)
 | .build t' ps=>Bk al E t' (ps.toList.map fun p=>(p.1,ρ p.2)) k
 | .buildSlice t' n ps=>Lw al E η t t' n (ps.toList.map fun p=>(p.1,ρ p.2)) k
 | .load t' x=>(match ρ x with|some d=>Hk al E η t' d k|none=>al.bot)
 | .store t' x y=>(match ρ x,ρ y with|some d,some d'=>Af al E η t' d d' k|_,_=>al.bot)
 | .nilCheck x=>(match ρ x with
  | some (.ptr b v o)=>k (.ptr b v o) [] []
  | some (.rp b v sz i o)=>k (.rp b v sz i o) [] []
  | some (.fr (.pt sz rows i o))=>k (.fr (.pt sz rows i o)) [] []
  | some (.cl f cs)=>k (.cl f cs) [] []
  | some (.fr (.cl f cs))=>k (.fr (.cl f cs)) [] []
  | _=>al.bot)
 | .binOp op ty x y _=>(match ρ x,ρ y with
  | some d,some d'=>(match E ty with
   | some ⟨_,_,.bool⟩=>Lq al op d d' fun r=>k r [] []
   | some ⟨_,_,.ar len e sz⟩=>(match E e with
    | some ⟨_,_,.int ik⟩=>al.ak (Nat.beq sz 1&&Nat.beq d.cells.length len&&Nat.beq d'.cells.length len) (Lo al ik op d d' fun r=>k r [] [])
    | _=>al.bot)
   | _=>LS al op d d' fun r=>k r [] [])
  | _,_=>al.bot)
 | .unOp op _ x=>(match ρ x with|some d=>unG al op d fun r=>k r [] []|none=>al.bot)
 | .convert t1 t2 x=>(match ρ x with|some d=>FT al E η t1 t2 d k|none=>al.bot)
 | .makeFunc (.func f) fst cap=>(match fst.toList,jq (cap.toList.map ρ) with|[],some l=>k (.cl f l) [] []|_,_=>al.bot)
 | .makeSlice t' l c=>(match ρ l,ρ c with|some d,some d'=>FR al E η t t' d d' k|_,_=>al.bot)
 | .slice t' x lo hi mx=>(match ρ x with
  | some d=>AQ al E t' d (dV ρ lo) (dV ρ hi) mx.isSome k
  | none=>al.bot)
 | .fieldAddr t' x j=>(match ρ x with|some d=>nj al E t' d j k|none=>al.bot)
 | .field t' x j=>(match ρ x with|some d=>Bh al E t' d j k|none=>al.bot)
 | .indexAddr t' x y=>(match ρ x,ρ y with|some d,some d'=>nI al E η t' d d' k|_,_=>al.bot)
 | .index t' x y=>(match ρ x,ρ y with|some d,some d'=>AM al E t' d d' k|_,_=>al.bot)
 | .extract x j=>(match ρ x with|some d=>rY al d j k|none=>al.bot)
 | .call c=>Gn al E η t G ρ c k
 | _=>al.bot
def opG(Q:Nat→Bool)(G:CR R)(ρ:Operand→Option D)(op:Op)(k:Kr R):R:=bif Nt Q E ρ op then nk al Q E η t ρ op k else KZ al E η t G ρ op k
end
def Mp(b v:Nat):D→Bool
 | .fr (.vl (.pointer none))=>true
 | .ptr b' v' o=>Nat.beq b b'&&Nat.beq v v'&&Nat.beq o 0
 | _=>false
def GH(t:Nat)(η:Env)(b:Nat):D→Option (List (List F)×Nat×Nat×List Nat)
 | .fr (.vl (.slice none 0 0))=>some ([],t,nv η t,[t])
 | .own b2 v=>match η b2 with
  | some (.ro v' _ sz rows)=>bif Nat.beq v v'&&Nat.beq sz 1 && !Nat.beq b b2 then some (rows,b2,v+1,[b2]) else none
  | _=>none
 | _=>none
def rowsOf(l:List UInt8):List (List F):=l.map fun u=>[.vl (.int .u8 (u.toNat:Int))]
def Jt(bt u8:Nat)(kind:Nat)(t:Nat)(η:Env)(l:List D):Ot:=match l with
 | .ptr b v 0 :: l=>(match η b with
  | some (.va v' ty [ad,sl])=>vI (Nat.beq v v'&&Nat.beq ty bt&&Mp b v ad) (match GH t η b sl with
   | some (rows,b2,v2,rd)=>(match bytesOf rows with
    | some bs=>
     let put (news:List UInt8) (r:D):Ot:=vI (Nat.ble (bs.length+news.length) 100000000) (some (r,b :: rd,[(b2,.ro v2 u8 1 (rows++rowsOf news)),(b,.va v bt [.ptr b v 0,.own b2 v2])]))
     (match kind,l with
     | 1,[.fr (.vl (.int .u8 (.ofNat n)))]=>vI (Nat.blt n 256) (put [UInt8.ofNat n] (.fr (.vl .nilIface)))
     | 2,[.fr (.vl (.string s))]=>put s.data.toList (.tp [.fr (.vl (.int .i64 (szS s:Int))),.fr (.vl .nilIface)])
     | 3,[]=>some (.fr (.vl (.string ⟨bs.toArray⟩)),b :: rd,(b,.gone v) :: (match sl with | .own b2 v2=>[(b2,.gone v2)]|_=>[]))
     | _,_=>none)
    | none=>none)
   | none=>none)
  | _=>none)
 | _=>none
def bdX(E:TE)(bt u8:Nat)(kind:Nat)(t:Nat)(η:Env)(l:List D):Ot:=match kind,l with
 | 4,x :: _=>(match qq η x with
  | some ([],rd)=>some (.fx [],rd,[])
  | some (rows,rd)=>(match E bt with
   | some ⟨_,_,.sl e sz by_⟩=>vI (jh sz rows&&Nat.ble rows.length maxLen&&Nat.ble (rows.length * by_) 140737488355328) (some (.own t (nv η t),t :: rd,[(t,.ro (nv η t) e sz rows)]))
   | _=>none)
  | none=>none)
 | kind,l=>Jt bt u8 kind t η l
end Go.Km
end
section
namespace Go.Vc
open Go Go.RowKit Go.Sl
def CT{R:Type}(T:R→Prop)(k:Kr R)(x:R)(y:Ot):Prop:=T x→∃d rd e,y=some (d,rd,e)∧T (k d rd e)
section
variable {R:Type} {al:Al R} {T:R→Prop} (hb:ux al T) {k:Kr R}
theorem CT.ret{d:D}{rd:List Nat}{e:List (Nat×B)}:CT T k (k d rd e) (some (d,rd,e)):=fun h=>⟨d,rd,e,rfl,h⟩
include hb
theorem CT.bot{y:Ot}:CT T k al.bot y:=fun h=>(hb.bot h).elim
theorem CT.ak{c:Bool}{x:R}{y:Ot}(h:CT T k x y):CT T k (al.ak c x) ((alO _).ak c y):=fun g=>by
 obtain⟨rfl,g2⟩:=hb.ak g;exact h g2
theorem CT.cE{n:Int}{x:Nat→R}{y:Nat→Ot}(h:∀i,CT T k (x i) (y i)):CT T k (al.cE n x) ((alO _).cE n y):=fun g=>by
 obtain⟨i,rfl,g2⟩:=hb.cE g;exact h i g2
theorem CT.bh{α:Type}{xs:List α}{i:Nat}{x:α→R}{y:α→Ot}(h:∀i,CT T k (x i) (y i)):CT T k (al.bh xs i x) ((alO _).bh xs i y):=fun g=>by
 obtain⟨a,e,g⟩:=hb.bh g;simp only[alO,e];exact h a g
variable {Q:Nat→Bool} {E:TE} {η:Env} {t:Nat} {ρ:Operand→Option D}
theorem cK{d:D}{x:Nat→R}{y:Nat→Ot}(h:∀i,CT T k (x i) (y i)):CT T k (fp al d x) (fp (alO _) d y):=by
 unfold fp
 split
 ·exact CT.cE hb h
 ·exact CT.bot hb
theorem HD{n:Nat}{d:Option (Option D)}{x:Nat→R}{y:Nat→Ot}(h:∀i,CT T k (x i) (y i)):CT T k (uf al n d x) (uf (alO _) n d y):=by
 unfold uf
 split
 ·exact h _
 ·exact cK hb h
 ·exact CT.bot hb
theorem gi{n:Nat}{lo hi mx:Option (Option D)}{x:Nat→Nat→Bool→R}{y:Nat→Nat→Bool→Ot}(h:∀i j b,CT T k (x i j b) (y i j b)):CT T k (qX al n lo hi mx x) (qX (alO _) n lo hi mx y):=by
 unfold qX;refine HD hb fun i=>HD hb fun j=>CT.ak hb ?_
 split
 ·exact h _ _ _
 ·split
  ·exact CT.bot hb
  ·exact cK hb fun m=>CT.ak hb (h _ _ _)
 ·exact CT.bot hb
theorem Ee{t':Nat}{x:D}{lo hi mx:Option (Option D)}:CT T k (gC al E η t' x lo hi mx k) (gC (alO _) E η t' x lo hi mx fun d rd e=>some (d,rd,e)):=by
 unfold gC
 repeat' (first|exact CT.ret|exact CT.bot hb|apply CT.ak hb|(apply CT.bh hb;intro _)|(apply cK hb;intro _)|(apply gi hb;intro _ _ _)|split)
theorem Bi{t':Nat}{x y:D}:CT T k (eZ al E η t t' x y k) (eZ (alO _) E η t t' x y fun d rd e=>some (d,rd,e)):=by
 unfold eZ
 repeat' (first|exact CT.ret|exact CT.bot hb|apply CT.ak hb|(apply CT.bh hb;intro _)|(apply cK hb;intro _)|(apply gi hb;intro _ _ _)|split)
theorem Eo{t':Nat}{x:D}{s:ByteArray}:CT T k (gH al E η t t' x s k) (gH (alO _) E η t t' x s fun d rd e=>some (d,rd,e)):=by
 unfold gH
 repeat' (first|exact CT.ret|exact CT.bot hb|apply CT.ak hb|(apply CT.bh hb;intro _)|(apply cK hb;intro _)|(apply gi hb;intro _ _ _)|split)
theorem IP{t':Nat}{x:D}:CT T k (oR al E η t' x k) (oR (alO _) E η t' x fun d rd e=>some (d,rd,e)):=by
 unfold oR
 repeat' (first|exact CT.ret|exact CT.bot hb|apply CT.ak hb|(apply CT.bh hb;intro _)|(apply cK hb;intro _)|(apply gi hb;intro _ _ _)|split)
theorem Hj{t':Nat}{x y:D}:CT T k (jQ al E η t' x y k) (jQ (alO _) E η t' x y fun d rd e=>some (d,rd,e)):=by
 unfold jQ
 repeat' (first|exact CT.ret|exact CT.bot hb|apply CT.ak hb|(apply CT.bh hb;intro _)|(apply cK hb;intro _)|(apply gi hb;intro _ _ _)|split)
theorem uD{t':Nat}{x y:D}:CT T k (cL al E η t' x y k) (cL (alO _) E η t' x y fun d rd e=>some (d,rd,e)):=by
 unfold cL
 repeat' (first|exact CT.ret|exact CT.bot hb|apply CT.ak hb|(apply CT.bh hb;intro _)|(apply cK hb;intro _)|(apply gi hb;intro _ _ _)|split)
theorem DD{t':Nat}{x y:D}:CT T k (lP al E t' x y k) (lP (alO _) E t' x y fun d rd e=>some (d,rd,e)):=by
 unfold lP
 repeat' (first|exact CT.ret|exact CT.bot hb|apply CT.ak hb|(apply CT.bh hb;intro _)|(apply cK hb;intro _)|(apply gi hb;intro _ _ _)|split)
theorem BB{t':Nat}{x y:D}{c:Bool}:CT T k (eM al E η t' x y c k) (eM (alO _) E η t' x y c fun d rd e=>some (d,rd,e)):=by
 unfold eM;dsimp only
 repeat' (first|exact CT.ret|exact CT.bot hb|apply CT.ak hb|(apply CT.bh hb;intro _)|(apply cK hb;intro _)|(apply gi hb;intro _ _ _)|split)
theorem AF{t':Nat}{x y z:D}:CT T k (eW al E η t' x y z k) (eW (alO _) E η t' x y z fun d rd e=>some (d,rd,e)):=by
 unfold eW
 repeat' (first|exact CT.ret|exact CT.bot hb|apply CT.ak hb|(apply CT.bh hb;intro _)|(apply cK hb;intro _)|(apply gi hb;intro _ _ _)|split)
theorem pe{op:BinOp}{r:Option Bool}:CT T k (mN al op r k) (mN (alO _) op r fun d rd e=>some (d,rd,e)):=by
 unfold mN
 repeat' (first|exact CT.ret|exact CT.bot hb|apply CT.ak hb|(apply CT.bh hb;intro _)|(apply cK hb;intro _)|(apply gi hb;intro _ _ _)|split)
theorem J4{op:BinOp}{ty:Nat}{x y:D}:CT T k (uR al Q E op ty x y k) (uR (alO _) Q E op ty x y fun d rd e=>some (d,rd,e)):=by
 unfold uR
 split
 ·exact pe hb
 ·exact pe hb
 ·split
  ·exact CT.ak hb (pe hb)
  ·exact pe hb
  ·exact CT.bot hb
 ·exact CT.ak hb (pe hb)
 ·exact CT.bot hb
theorem JQ{op:Op}:CT T k (nk al Q E η t ρ op k) (opX Q E η t ρ op):=by
 unfold opX nk
 cases op
 all_goals try exact CT.bot hb
 case slice=>dsimp only;split;exact Ee hb;exact CT.bot hb
 case indexAddr=>dsimp only;split;exact uD hb;exact CT.bot hb
 case index=>dsimp only;split;exact DD hb;exact CT.bot hb
 case makeMap=>dsimp only;repeat' (first|exact CT.ret|exact CT.bot hb|apply CT.ak hb|(apply CT.bh hb;intro _)|(apply cK hb;intro _)|(apply gi hb;intro _ _ _)|split)
 case lookup=>dsimp only;split;exact BB hb;exact CT.bot hb
 case mapUpdate=>dsimp only;split;exact AF hb;exact CT.bot hb
 case binOp=>dsimp only;split;exact J4 hb;exact CT.bot hb
 case makeFunc f fst cap=>
  cases f with
  | func f=>dsimp only;repeat' (first|exact CT.ret|exact CT.bot hb|apply CT.ak hb|(apply CT.bh hb;intro _)|(apply cK hb;intro _)|(apply gi hb;intro _ _ _)|split)
  | _=>exact CT.bot hb
 case call=>
  dsimp only
  split
  ·split
   ·split
    ·exact IP hb
    ·exact CT.bot hb
   ·exact CT.bot hb
  ·split
   ·split
    ·split
     ·exact CT.ak hb (Eo hb)
     ·exact CT.ak hb (Bi hb)
    ·exact CT.bot hb
   ·exact CT.bot hb
  ·split
   ·split
    ·exact CT.ak hb (Hj hb)
    ·exact CT.bot hb
   ·exact CT.bot hb
  ·exact CT.bot hb
theorem Mc{op:Op}(h:T (nk al Q E η t ρ op k)):∃d rd e,opX Q E η t ρ op=some (d,rd,e)∧T (k d rd e):=JQ hb h
end
end Go.Vc
end
section
namespace Go.Km
open Go Go.RowKit Go.Vc
open Go.Sl hiding lk
section
variable {R:Type} {α:Type} {al:Al R} {T:R→Prop} (hb:ux al T)
include hb
theorem aA{c:Bool}{k:R}(h:T (al.ak c k)):c=true∧T k:=hb.ak h
theorem ia{xs:List α}{i:Nat}{k:α→R}(h:T (al.bh xs i k)):∃x,xs[i]?=some x∧T (k x):=hb.bh h
theorem jT{n:Int}{k:Nat→R}(h:T (al.cE n k)):∃i:Nat,n=(i:Int)∧T (k i):=hb.cE h
theorem Cd{c:Bool}{a b:R}(h:T (al.nS c a b)):(c=true→T a)∧(c=false→T b):=hb.nS h
theorem CY{k:IntKind}{n:Int}{K:D→R}(h:T (arG al k n K)):ri k n (fun d=>T (K d)):=by
 unfold arG at h;unfold ri
 split at h
 ·obtain⟨h1,h2⟩:=aA hb h;exact⟨(yH _).1 h1,h2⟩
 ·rename_i hk
  split
  ·exact absurd rfl hk
  ·exact⟨_,rfl,hb.jm h⟩
theorem Kv{op:BinOp}{ka kb_:IntKind}{a b:Int}{K:D→R}(h:T (Me al op ka a kb_ b K)):qN op ka a kb_ b (fun d=>T (K d)):=by
 have e:∀{c:R},T (al.ak (kb ka kb_) c)→ka=kb_∧T c:=fun h=>let ⟨h1,h2⟩:=aA hb h;⟨GO.1 h1,h2⟩
 cases op<;>simp only[Me] at h<;>simp only[qN]
 case shl=>obtain⟨h1,h2⟩:=aA hb h;exact⟨by rw[dt] at h1;simpa using h1,hb.jm h2⟩
 case shr=>obtain⟨h1,h2⟩:=aA hb h;exact⟨by rw[dt] at h1;simpa using h1,hb.jm h2⟩
 all_goals
  replace h:=e h
  clear e;obtain⟨e1,h⟩:=h;subst e1;simp only[decide_true,cond_true]
 case add=>exact CY hb h
 case sub=>exact CY hb h
 case mul=>exact CY hb h
 case quo=>obtain⟨h1,h2⟩:=aA hb h;exact⟨by rw[dd] at h1;simpa using h1,_,rfl,hb.jm h2⟩
 case rem=>obtain⟨h1,h2⟩:=aA hb h;exact⟨by rw[dd] at h1;simpa using h1,_,rfl,hb.jm h2⟩
 case eql=>rw[←dd];exact h
 case neq=>rw[←dd];exact h
 case lss=>rw[←kM];exact h
 case leq=>rw[←dt];exact h
 case gtr=>rw[←kM];exact h
 case geq=>rw[←dt];exact h
 all_goals
  simp only[yy] at h ⊢;exact hb.jm h
theorem LL{op:BinOp}{a b:ByteArray}{K:D→R}(h:T (Lj al op a b K)):qI op a b (fun d=>T (K d)):=by
 cases op<;>simp only[Lj] at h<;>simp only[qI]
 case add=>
  obtain⟨h1,h2⟩:=aA hb h;have h1:=Nat.le_of_ble_eq_true h1;rw[jG,jG] at h1;rw[CS] at h2;exact⟨by omega,h2⟩
 case eql=>rw[←r8];exact h
 case neq=>rw[←r8];exact h
 all_goals exact(hb.bot h).elim
theorem KJ{op:BinOp}{x y:D}{K:D→R}(h:T (LS al op x y K)):uc op x y (fun d=>T (K d)):=by
 unfold LS at h;unfold uc
 split at h
 ·exact Kv hb h
 ·exact LL hb h
 ·exact(hb.bot h).elim
omit hb in
theorem Cp(a b:Bool):pS a b=(a==b):=by cases a<;>cases b<;>rfl
theorem LX{op:BinOp}{x y:D}{K:D→R}(h:T (Lq al op x y K)):m7 op x y (fun d=>T (K d)):=by
 unfold Lq at h;unfold m7
 split at h
 ·split at h
  ·rw[Cp] at h;exact h
  ·rw[Cp] at h;exact h
  ·exact(hb.bot h).elim
 ·exact(hb.bot h).elim
theorem KD{ik:IntKind}{op:BinOp}{x y:D}{K:D→R}(h:T (Lo al ik op x y K)):qL ik op x y (fun d=>T (K d)):=by
 unfold Lo at h;unfold qL
 split at h
 ·rename_i l m e1 e2;obtain⟨h1,h2⟩:=aA hb h;simp only[e1,e2,h1,cond_true]
  split at h2
  ·rw[oH] at h2;exact h2
  ·rw[oH] at h2;exact h2
  ·exact(hb.bot h2).elim
 ·exact(hb.bot h).elim
theorem Nu{op:UnOp}{x:D}{K:D→R}(h:T (unG al op x K)):AO op x (fun d=>T (K d)):=by
 unfold unG at h;unfold AO
 split at h
 ·exact h
 ·exact CY hb h
 ·exact(hb.bot h).elim
variable {E:TE} {η:Env} {t:Nat} {k:Kr R}
theorem Jm{t':Nat}{x:D}(h:T (Hk al E η t' x k)):eJ E η t' x (fun d rd e=>T (k d rd e)):=by
 unfold Hk at h
 split at h
 ·exact(hb.bot h).elim
 ·rename_i i hi;unfold eJ
  split at h
  ·rename_i b v o;simp only[hi]
   split at h
   ·rename_i v' t'' cs hη;obtain⟨h1,h⟩:=aA hb h;simp only[hη,h1,cond_true]
    split at h
    ·rename_i ha;obtain⟨h2,h⟩:=aA hb h;simp only[ha,cond_true];exact⟨Nat.le_of_ble_eq_true h2,h⟩
    ·rename_i ha;simp only[ha,cond_false];exact ia hb h
   ·exact(hb.bot h).elim
  ·rename_i b v sz j o;simp only[hi]
   split at h
   ·rename_i v' e sz' rows hη;obtain⟨h1,h⟩:=aA hb h;simp only[hη,h1,cond_true];obtain⟨r,hr,h⟩:=ia hb h;refine⟨r,hr,?_⟩
    split at h
    ·rename_i ha;obtain⟨h2,h⟩:=aA hb h;simp only[ha,cond_true];exact⟨Nat.le_of_ble_eq_true h2,h⟩
    ·rename_i ha;simp only[ha,cond_false];exact ia hb h
   ·exact(hb.bot h).elim
  ·rename_i sz rows j o;simp only[hi];obtain⟨r,hr,h⟩:=ia hb h;refine⟨r,hr,?_⟩
   split at h
   ·rename_i ha;obtain⟨h2,h⟩:=aA hb h;simp only[ha,cond_true];exact⟨Nat.le_of_ble_eq_true h2,h⟩
   ·rename_i ha;simp only[ha,cond_false];exact ia hb h
  ·exact(hb.bot h).elim
theorem GX{t':Nat}{x y:D}(h:T (Af al E η t' x y k)):fG E η t' x y (fun d rd e=>T (k d rd e)):=by
 unfold Af at h
 split at h
 ·exact(hb.bot h).elim
 ·rename_i i hi;unfold fG
  split at h
  ·rename_i b v o;simp only[hi]
   split at h
   ·rename_i v' bt cs hη;obtain⟨h1,h⟩:=aA hb h;simp only[Bool.and_eq_true] at h1;obtain⟨⟨⟨⟨h1,h2⟩,h3⟩,h4⟩,h5⟩:=h1;simp only[hη,h1,h2,Bool.and_self,cond_true];exact⟨h3,Nat.le_of_ble_eq_true h4,bD h5,h⟩
   ·exact(hb.bot h).elim
  ·rename_i b v sz j o;simp only[hi]
   split at h
   ·rename_i v' e sz' rows hη;obtain⟨h1,h⟩:=aA hb h;simp only[hη,h1,cond_true];obtain⟨r,hr,h⟩:=ia hb h;refine⟨r,hr,?_⟩
    split at h
    ·rename_i fs is hm;obtain⟨h2,h⟩:=aA hb h;simp only[Bool.and_eq_true] at h2;obtain⟨⟨⟨h2,h3⟩,h4⟩,h5⟩:=h2;simp only[hm];exact⟨h2,Nat.le_of_ble_eq_true h3,bD h4,by simpa using h5,h⟩
    ·exact(hb.bot h).elim
   ·exact(hb.bot h).elim
  ·exact(hb.bot h).elim
theorem wy{t' j:Nat}{x:D}(h:T (nj al E t' x j k)):bS E t' x j (fun d rd e=>T (k d rd e)):=by
 unfold nj at h;unfold bS
 split at h
 ·rename_i he
  split at h
  ·rename_i o' s' g hj;obtain⟨h1,h⟩:=aA hb h;simp only[he,hj,h1,cond_true]
   split at h
   ·exact h
   ·exact h
   ·exact h
   ·exact(hb.bot h).elim
  ·exact(hb.bot h).elim
 ·exact(hb.bot h).elim
theorem HO{t' j:Nat}{x:D}(h:T (Bh al E t' x j k)):ep E t' x j (fun d rd e=>T (k d rd e)):=by
 unfold Bh at h;unfold ep
 split at h
 ·rename_i he
  split at h
  ·rename_i o' s' g hj
   split at h
   ·obtain⟨h1,h⟩:=aA hb h;simp only[he,hj,h1,cond_true]
    split at h
    ·exact h
    ·exact ia hb h
   ·obtain⟨h1,h⟩:=aA hb h;simp only[he,hj,h1,cond_true]
    split at h
    ·exact h
    ·exact ia hb h
   ·exact(hb.bot h).elim
  ·exact(hb.bot h).elim
 ·exact(hb.bot h).elim
theorem xe{t':Nat}{x y:D}(h:T (nI al E η t' x y k)):bn E η t' x y (fun d rd e=>T (k d rd e)):=by
 unfold nI at h;unfold bn
 split at h
 ·split at h
  ·rename_i e sz by_ he;simp only[he]
   split at h
   ·split at h
    ·rename_i v' e' sz' rows hη;obtain⟨h1,h⟩:=aA hb h;simp only[hη,h1,cond_true];obtain⟨i,hi,h⟩:=jT hb h;obtain⟨h2,h⟩:=aA hb h;exact⟨i,hi,bD h2,h⟩
    ·exact(hb.bot h).elim
   ·obtain⟨i,hi,h⟩:=jT hb h;obtain⟨r,hr,h⟩:=ia hb h;obtain⟨h2,h⟩:=aA hb h;exact⟨i,hi,r,hr,Nat.eq_of_beq_eq_true h2,h⟩
   ·exact(hb.bot h).elim
  ·rename_i len e sz he;simp only[he]
   split at h
   ·obtain⟨i,hi,h⟩:=jT hb h;obtain⟨h2,h⟩:=aA hb h;exact⟨i,hi,bD h2,h⟩
   ·obtain⟨i,hi,h⟩:=jT hb h;obtain⟨h2,h⟩:=aA hb h;exact⟨i,hi,bD h2,h⟩
   ·obtain⟨i,hi,h⟩:=jT hb h;obtain⟨h2,h⟩:=aA hb h;exact⟨i,hi,bD h2,h⟩
   ·exact(hb.bot h).elim
  ·exact(hb.bot h).elim
 ·exact(hb.bot h).elim
theorem H9{t':Nat}{x y:D}(h:T (AM al E t' x y k)):gJ E t' x y (fun d rd e=>T (k d rd e)):=by
 unfold AM at h;unfold gJ
 split at h
 ·split at h
  ·rename_i he;obtain⟨i,hi,h⟩:=jT hb h;obtain⟨u,hu,h⟩:=ia hb h;simp only[he];exact⟨i,hi,u,by simpa using hu,h⟩
  ·exact(hb.bot h).elim
 ·exact(hb.bot h).elim
theorem og{d:Nat}{x:Option D}{K:Nat→R}(h:T (qA al d x K)):bound d x (fun i=>T (K i)):=by
 unfold qA at h;unfold bound
 split at h
 ·exact h
 ·exact jT hb h
 ·exact(hb.bot h).elim
omit hb in
theorem jB{d:Nat}{x:Option D}{K K':Nat→Prop}(h:bound d x K)(hk:∀i,K i→K' i):bound d x K':=by
 unfold bound at *
 split at h
 ·exact hk _ h
 ·obtain⟨i,hi,h⟩:=h;exact⟨i,hi,hk _ h⟩
 ·exact h.elim
omit hb in
theorem mT{sz:Nat}{rows:List (List F)}(h:jh sz rows=true):∀r∈rows,r.length=sz:=by
 intro r hr;unfold jh at h;rw[List.all_eq_true] at h;exact Nat.eq_of_beq_eq_true (h r hr)
theorem H0{t':Nat}{x:D}{lo hi:Option (Option D)}{mx:Bool}(h:T (AQ al E t' x lo hi mx k)):fK E t' x lo hi mx (fun d rd e=>T (k d rd e)):=by
 unfold AQ at h
 split at h
 ·exact(hb.bot h).elim
 ·unfold fK;simp only[cond_false]
  split at h
  ·split at h
   ·rename_i he;simp only[he];refine jB (og hb h) fun l h=>jB (og hb h) fun hh h=>?_
    obtain⟨h1,h⟩:=aA hb h;simp only[Bool.and_eq_true] at h1;rw[jG] at h1;rw[xb] at h;exact⟨Nat.le_of_ble_eq_true h1.1,Nat.le_of_ble_eq_true h1.2,h⟩
   ·rename_i he;simp only[he];refine jB (og hb h) fun l h=>jB (og hb h) fun hh h=>?_
    obtain⟨h1,h⟩:=aA hb h;simp only[Bool.and_eq_true] at h1;exact⟨Nat.le_of_ble_eq_true h1.1.1,Nat.le_of_ble_eq_true h1.1.2,mT h1.2,h⟩
   ·exact(hb.bot h).elim
  ·exact(hb.bot h).elim
theorem BA{j:Nat}{x:D}(h:T (rY al x j k)):eF x j (fun d rd e=>T (k d rd e)):=by
 unfold rY at h;unfold eF
 split at h
 ·exact ia hb h
 ·exact(hb.bot h).elim
theorem Hm{t':Nat}{ps:List (Nat×Option D)}(h:T (Bk al E t' ps k)):fF E t' ps (fun d rd e=>T (k d rd e)):=by
 unfold Bk at h;unfold fF
 split at h
 ·rename_i he;simp only[he]
  split at h
  ·rename_i hf;simp only[hf];exact h
  ·exact(hb.bot h).elim
 ·rename_i he;simp only[he]
  split at h
  ·rename_i hf;simp only[hf];exact h
  ·exact(hb.bot h).elim
 ·exact(hb.bot h).elim
theorem KA{t' m:Nat}{ps:List (Nat×Option D)}(h:T (Lw al E η t t' m ps k)):o5 E η t t' m ps (fun d rd e=>T (k d rd e)):=by
 unfold Lw at h;unfold o5
 split at h
 ·rename_i he;simp only[he]
  split at h
  ·rename_i hf;obtain⟨h1,h⟩:=aA hb h;simp only[hf,h1,cond_true];exact h
  ·exact(hb.bot h).elim
 ·exact(hb.bot h).elim
theorem IK{t':Nat}{l c:D}(h:T (FR al E η t t' l c k)):jN E η t t' l c (fun d rd e=>T (k d rd e)):=by
 unfold FR at h;unfold jN
 split at h
 ·rename_i he;simp only[he]
  split at h
  ·rename_i i hi;obtain⟨h1,h⟩:=aA hb h;obtain⟨j,hj,h⟩:=jT hb h;obtain⟨j',hj',h⟩:=jT hb h;obtain⟨h2,h⟩:=aA hb h;simp only[Bool.and_eq_true,Bool.or_eq_true] at h2;obtain⟨⟨h2,h3⟩,h4⟩:=h2;simp only[hi];exact⟨Nat.eq_of_beq_eq_true h1,j,hj,j',hj',h2.imp Nat.eq_of_beq_eq_true Nat.eq_of_beq_eq_true,Nat.le_of_ble_eq_true h3,Nat.le_of_ble_eq_true h4,h⟩
  ·exact(hb.bot h).elim
 ·exact(hb.bot h).elim
theorem Ld{t':Nat}{x:D}(h:T (LM al E η t' x k)):j7 E η t' x (fun d rd e=>T (k d rd e)):=by
 unfold LM at h;unfold j7
 split at h
 ·rename_i he
  split at h
  ·simp only[he];exact h
  ·exact(hb.bot h).elim
 ·rename_i he
  split at h
  ·simp only[he];exact h
  ·simp only[he];exact h
  ·simp only[he]
   split at h
   ·rename_i hη;obtain⟨h1,h⟩:=aA hb h;simp only[hη,h1,cond_true];exact h
   ·exact(hb.bot h).elim
  ·exact(hb.bot h).elim
 ·exact(hb.bot h).elim
theorem DV{t':Nat}{x y:D}(h:T (v8 al E η t t' x y k)):ee E η t t' x y (fun d rd e=>T (k d rd e)):=by
 unfold v8 at h;unfold ee
 split at h
 ·rename_i he hs;simp only[he,hs]
  split at h
  ·split at h
   ·rename_i hη;obtain⟨h1,h⟩:=aA hb h;simp only[Bool.and_eq_true] at h1;obtain⟨⟨⟨⟨⟨h1,h2⟩,h3⟩,h4⟩,h5⟩,h6⟩:=h1;simp only[hη,h1,h2,h3,Bool.and_self,cond_true];exact⟨mT h4,Nat.le_of_ble_eq_true h5,Nat.le_of_ble_eq_true h6,h⟩
   ·exact(hb.bot h).elim
  ·obtain⟨h1,h⟩:=aA hb h;simp only[Bool.and_eq_true] at h1;exact⟨mT h1.1.1,Nat.le_of_ble_eq_true h1.1.2,Nat.le_of_ble_eq_true h1.2,h⟩
  ·exact(hb.bot h).elim
 ·exact(hb.bot h).elim
omit hb in
theorem po:∀{rows:List (List F)} {bs:List UInt8},bytesOf rows=some bs→rows=bs.map fun b=>[.vl (.int .u8 b.toNat)]
 | [],bs,h=>by simp[bytesOf] at h;simp[←h]
 | r :: l,bs,h=>by
  simp only[bytesOf] at h
  split at h
  ·rename_i n
   cases hn:Nat.blt n 256 with
   | false=>rw[hn] at h;cases h
   | true=>
    rw[hn] at h;simp only[cond_true] at h
    split at h
    ·rename_i m hm
     cases h;have:=bD hn;rw[List.map_cons,←po hm];have e:(UInt8.ofNat n).toNat=n:=by simp;omega
     rw[e];rfl
    ·cases h
  ·cases h
theorem JG{t1 t2:Nat}{x:D}(h:T (FT al E η t1 t2 x k)):jS E η t1 t2 x (fun d rd e=>T (k d rd e)):=by
 unfold FT at h;unfold jS
 split at h
 ·rename_i e1 e2
  split at h
  ·obtain⟨h1,h2⟩:=aA hb h;simp only[e1,e2];rw[GO] at h1;subst h1;simp only[decide_true,cond_true];exact⟨_,rfl,hb.jm h2⟩
  ·exact(hb.bot h).elim
 ·rename_i e1 e2
  split at h
  ·rename_i e3
   split at h
   ·rename_i rows rd hs
    split at h
    ·rename_i bs hbs;obtain⟨h1,h⟩:=aA hb h;simp only[e1,e2,e3,hs];exact⟨Nat.eq_of_beq_eq_true h1,bs,po hbs,h⟩
    ·exact(hb.bot h).elim
   ·exact(hb.bot h).elim
  ·exact(hb.bot h).elim
 ·exact(hb.bot h).elim
variable {Gr:CR R} {G:CG} {ρ:Operand→Option D}
theorem JS(hG:∀t η f l k,T (Gr t η f l k)→G t η f l (fun d rd e=>T (k d rd e))){c:Call}(h:T (Gn al E η t Gr ρ c k)):dT E η t G ρ c (fun d rd e=>T (k d rd e)):=by
 unfold Gn at h;unfold dT
 split at h
 ·rename_i hc
  split at h
  ·rename_i e1 e2
   split at h
   ·rename_i hx;simp only[hx,hc,e1,e2];exact Ld hb h
   ·exact(hb.bot h).elim
  ·exact(hb.bot h).elim
 ·rename_i hc
  split at h
  ·rename_i e1 e2
   split at h
   ·rename_i hx hy;obtain⟨h1,h⟩:=aA hb h;simp only[hx,hy,h1,cond_true,hc,e1,e2];exact DV hb h
   ·exact(hb.bot h).elim
  ·exact(hb.bot h).elim
 ·rename_i hc
  split at h
  ·rename_i e1
   split at h
   ·rename_i a b hx hy;simp only[hx,hy,hc,e1];have e:(bif leI a b then b else a)=max a b:=by
     rw[dt]
     by_cases hl:a≤b
     ·simp[hl];omega
     ·simp[hl];omega
    rw[e] at h;exact h
   ·exact(hb.bot h).elim
  ·exact(hb.bot h).elim
 ·rename_i hc
  split at h
  ·rename_i e1
   split at h
   ·rename_i a b hx hy;simp only[hx,hy,hc,e1];have e:(bif leI a b then a else b)=min a b:=by
     rw[dt]
     by_cases hl:a≤b
     ·simp[hl];omega
     ·simp[hl];omega
    rw[e] at h;exact h
   ·exact(hb.bot h).elim
  ·exact(hb.bot h).elim
 ·rename_i hc
  split at h
  ·rename_i hf hl;simp only[hf,hl,hc];exact hG _ _ _ _ _ h
  ·rename_i hf hl;simp only[hf,hl,hc];exact hG _ _ _ _ _ h
  ·exact(hb.bot h).elim
 ·exact(hb.bot h).elim
theorem Ln(hG:∀t η f l k,T (Gr t η f l k)→G t η f l (fun d rd e=>T (k d rd e))){op:Op}(h:T (KZ al E η t Gr ρ op k)):Vc.wpOp E η t G ρ op (fun d rd e=>T (k d rd e)):=by
 unfold KZ at h;unfold Vc.wpOp
 split at h
 ·split at h
  ·rename_i hx;simp only[hx];exact h
  ·exact(hb.bot h).elim
 ·split at h
  ·rename_i hx;simp only[hx];exact h
  ·exact(hb.bot h).elim
 ·split at h
  ·rename_i hx hy hz;simp only[hx,hy,hz];exact Cd hb h
  ·exact(hb.bot h).elim
 ·split at h
  ·rename_i hi;obtain⟨h1,h⟩:=aA hb h;simp only[hi,h1,cond_true];exact h
  ·exact(hb.bot h).elim
 ·split at h
  ·rename_i hx;simp only[hx];exact aA hb h
  ·exact(hb.bot h).elim
 ·exact Hm hb h
 ·exact KA hb h
 ·split at h
  ·rename_i hx;simp only[hx];exact Jm hb h
  ·exact(hb.bot h).elim
 ·split at h
  ·rename_i hx hy;simp only[hx,hy];exact GX hb h
  ·exact(hb.bot h).elim
 ·split at h
  ·rename_i hx;simp only[hx];exact h
  ·rename_i hx;simp only[hx];exact h
  ·rename_i hx;simp only[hx];exact h
  ·rename_i hx;simp only[hx];exact h
  ·rename_i hx;simp only[hx];exact h
  ·exact(hb.bot h).elim
 ·split at h
  ·rename_i hx hy;simp only[hx,hy]
   split at h
   ·rename_i he;simp only[he];exact LX hb h
   ·rename_i he;simp only[he]
    split at h
    ·rename_i hie;obtain⟨h1,h⟩:=aA hb h;simp only[hie,h1,cond_true];exact KD hb h
    ·exact(hb.bot h).elim
   ·rename_i he1 he2
    split
    ·rename_i hee;exact absurd hee (he1 _ _)
    ·rename_i hee;exact absurd hee (he2 _ _ _ _ _)
    ·exact KJ hb h
  ·exact(hb.bot h).elim
 ·split at h
  ·rename_i hx;simp only[hx];exact Nu hb h
  ·exact(hb.bot h).elim
 ·split at h
  ·rename_i hx;simp only[hx];exact JG hb h
  ·exact(hb.bot h).elim
 ·split at h
  ·rename_i hf hl;simp only[hf,hl];exact h
  ·exact(hb.bot h).elim
 ·split at h
  ·rename_i hx hy;simp only[hx,hy];exact IK hb h
  ·exact(hb.bot h).elim
 ·split at h
  ·rename_i hx;simp only[hx];exact H0 hb h
  ·exact(hb.bot h).elim
 ·split at h
  ·rename_i hx;simp only[hx];exact wy hb h
  ·exact(hb.bot h).elim
 ·split at h
  ·rename_i hx;simp only[hx];exact HO hb h
  ·exact(hb.bot h).elim
 ·split at h
  ·rename_i hx hy;simp only[hx,hy];exact xe hb h
  ·exact(hb.bot h).elim
 ·split at h
  ·rename_i hx hy;simp only[hx,hy];exact H9 hb h
  ·exact(hb.bot h).elim
 ·split at h
  ·rename_i hx;simp only[hx];exact BA hb h
  ·exact(hb.bot h).elim
 ·exact JS hb hG h
 ·exact(hb.bot h).elim
theorem J8{Q:Nat→Bool}(hG:∀t η f l k,T (Gr t η f l k)→G t η f l (fun d rd e=>T (k d rd e))){op:Op}(h:T (opG al E η t Q Gr ρ op k)):yh Q E η t G ρ op (fun d rd e=>T (k d rd e)):=by
 unfold opG at h
 cases e:Nt Q E ρ op with
 | true=>rw[e] at h;exact .inr (Mc hb h)
 | false=>rw[e] at h;exact .inl (Ln hb hG h)
end
structure Fi where
 body:Code
 N:Nat
 rs:List ResultVar
structure Tx where
 E:TE
 Γ:Nat→Option (List F)
 fi:Nat→Option Fi
 pu:Nat→Bool
 Q:Nat→Bool
 bd:Nat→Nat
 bt:Nat→Nat
 u8:Nat
 hp:Nat→Bool
structure Orc (R:Type) where
 pu:FuncId→List F→(F×Bool→R)→R
 he:Nat→Env→FuncId→List D→Kr R→R
 ye:Nat→Env→Nat→Nat→List D→Kr R→R
inductive KI where
 | code (c:Code)
 | blk (id:Nat)
 | loop (c:Code)
 | scope (c:Code)
 | reg (ops:Array Oper) (l:List Oper)
 | rf (b v:Nat)
 | erf (b v:Nat)
 | br
structure Fm where
 f:Nat
 N:Nat
 s:List (Nat×D)
 k:List KI
 ds:List (Nat×Nat)
 ro:Option (Nat×Nat)
structure Cfg where
 top:Fm
 cs:List Fm
 h:List (Nat×B)
 nx:Nat
def mD:Nat→List D→List (Nat×D)
 | _,[]=>[]
 | i,d :: l=>(i,d) :: mD (i+1) l
def dH(id:Nat):List KI→Option (List KI)
 | .blk id' :: k=>bif Nat.beq id' id then some k else dH id k
 | _ :: k=>dH id k
 | []=>none
def dJ(l:Nat):List KI→Option (List KI)
 | .scope body :: k=>match findLabel body l with
  | some rest=>some (.code rest :: .scope body :: k)
  | none=>dJ l k
 | _ :: k=>dJ l k
 | []=>none
def z9:List Nat→List D→List (Nat×D)→List (Nat×D)
 | p :: ps,d :: ds,s=>z9 ps ds ((p,d) :: s)
 | _,_,s=>s
def dOk(N:Nat):Option Nat→Bool
 | some t=>Nat.blt t N
 | none=>true
def my(s:List (Nat×D))(dst:Option Nat)(d:D):List (Nat×D):=match dst with
 | some t=>(t,d) :: s
 | none=>s
def sw:List (Nat×Nat)→List (Nat×B)→Option (List (Nat×B))
 | [],h=>some h
 | (b,v) :: l,h=>match lk h b with
  | some (.df v')=>bif Nat.beq v v' then sw l ((b,.gone v) :: h) else none
  | _=>none
def okR:D→Bool
 | .mcl _ _ _=>false
 | _=>true
mutual
def NW:D→Bool
 | .ptr _ _ _=>true
 | .rp _ _ _ _ _=>true
 | .yl _ _=>true
 | .ag l=>gU l
 | .tp l=>gU l
 | .cl _ l=>gU l
 | .mcl _ l m=>gU l||gU m
 | _=>false
def gU:List D→Bool
 | []=>false
 | d :: l=>NW d||gU l
end
mutual
def cD(η:Env):D→Bool
 | .fr x=>x.flat
 | .ag l=>mg η l
 | .tp l=>mg η l
 | .cl _ l=>mg η l
 | .own b v=>match η b with
  | some (.ro _ _ _ rows)=>rows.all F.flat.lG
  | _=>false
 | .sub b v sz lo hi ex=>match η b with
  | some (.ro _ _ _ rows)=>rows.all F.flat.lG
  | _=>false
 | _=>false
def mg(η:Env):List D→Bool
 | []=>true
 | d :: l=>cD η d&&mg η l
end
section
variable {R:Type} (al:Al R) (X:Tx) (O:Orc R) (fin:D→List (Nat×B)→R) (K:Cfg→R)
def kh(dr:Bool):CR R:=fun t η f l k=>match X.hp f with
 | true=>O.he t η f l k
 | false=>match X.bd f with
 | kind+1=>(match bdX X.E (X.bt f) X.u8 (kind+1) t η l with
 | some (d,rd,e)=>k d rd e
 | none=>al.bot)
 | 0=>match cz (D.toF η 6) l with
 | some (fl,is)=>O.pu f fl fun r=>bif r.1.flat||r.2 then k r.1.toD is [] else bif dr && !is.isEmpty then al.bot else k r.1.toD is (aS η is)
 | none=>al.bot
def jA(c:Fm)(d:D)(cs:List Fm)(h:List (Nat×B))(nx:Nat):R:=match c.k with
 | .reg ops (o :: l) :: k=>al.ak (dOk c.N o.dst) (K ⟨{ c with s:=my c.s o.dst d,k:=.reg ops l :: k },cs,h,nx⟩)
 | .rf b v :: k=>K ⟨{ c with k:=.erf b v :: k },cs,h,nx⟩
 | _=>al.bot
def D6(c:Cfg):R:=match X.fi c.top.f,sw c.top.ds c.h with
 | some fi,some h=>(match jq (fi.rs.map (EB X.E ⟨c.top.s,h⟩)) with
  | some ds=>(match c.cs with
   | []=>al.ak (okR (oL ds)) (fin (oL ds) h)
   | c1 :: cs=>jA al K c1 (oL ds) cs h c.nx)
  | none=>al.bot)
 | _,_=>al.bot
def kZ(c:Cfg)(j:Option Code):R:=match c.top.ro with
 | none=>(match j with
  | none=>D6 al X fin K c
  | some .ret=>D6 al X fin K c
  | _=>al.bot)
 | some (b,v)=>(match lk c.h b,c.cs,c.top.ds with
  | some (.lp v' L),c1 :: cs,[]=>al.ak (Nat.beq v v') (jA al K c1 (Bo j.isNone) cs ((b,.lp v { L with st:=bif j.isNone then 0 else 2,gI:=j }) :: c.h) c.nx)
  | some (.lp v' L),[],[]=>al.ak (Nat.beq v v') (fin (.mcl 0 [] [Bo j.isNone]) ((b,.lp v { L with st:=bif j.isNone then 0 else 2,gI:=j }) :: c.h))
  | _,_,_=>al.bot)
def eP(f:Nat)(l:List D)(cs:List Fm)(h:List (Nat×B))(nx:Nat):R:=bif X.hp f then (match cs with
 | c1 :: cs=>O.he nx (lk h) f l fun d _ e=>jA al K c1 d cs (e++h) (nx+1)
 | []=>al.bot) else match X.fi f with
 | some fi=>al.ak (Nat.ble l.length fi.N) (K ⟨⟨f,fi.N,mD 0 l,[.code fi.body],[],none⟩,cs,h,nx⟩)
 | none=>al.bot
def uM(c:Cfg)(o:Oper)(ops:Array Oper)(l:List Oper)(k:List KI):R:=
 let fm:={ c.top with k:=.reg ops l :: k }
 let put:Kr R:=fun d _ e=>K ⟨{ fm with s:=my fm.s o.dst d },c.cs,e++c.h,c.nx+1⟩
 al.ak (dOk c.top.N o.dst) (match o.op with
  | .call ⟨.value x,args,tys⟩=>(match evD X.Γ c.top.s x,jq (args.toList.map (evD X.Γ c.top.s)) with
   | some (.cl f cs),some a=>bif X.hp f||Nat.blt 0 (X.bd f)||(X.pu f && !gU (a++cs)) then kh al X O false c.nx (lk c.h) f (a++cs) put else eP al X O K f (a++cs) ({ c.top with k:=.reg ops (o :: l) :: k } :: c.cs) c.h c.nx
   | some (.fr (.cl f cs)),some a=>bif X.hp f||Nat.blt 0 (X.bd f)||(X.pu f && !gU a) then kh al X O false c.nx (lk c.h) f (a++cs.map F.toD) put else eP al X O K f (a++cs.map F.toD) ({ c.top with k:=.reg ops (o :: l) :: k } :: c.cs) c.h c.nx
   | some (.mcl f fs cs),some a=>bif X.hp f||Nat.blt 0 (X.bd f)||(X.pu f && !gU (fs++a++cs)) then kh al X O false c.nx (lk c.h) f (fs++a++cs) put else eP al X O K f (fs++a++cs) ({ c.top with k:=.reg ops (o :: l) :: k } :: c.cs) c.h c.nx
   | some (.yl b v),some a=>(match lk c.h b with
    | some (.lp v' L)=>al.ak (Nat.beq v v'&&Nat.beq a.length L.ps.length&&L.ps.all fun p=>Nat.blt p L.N)
      (K ⟨⟨L.f,L.N,z9 L.ps a L.s,[.code L.asg,.br,.code L.body],[],some (b,v)⟩,{ c.top with k:=.reg ops (o :: l) :: k } :: c.cs,c.h,c.nx⟩)
    | some (.ab v' _)=>al.ak (Nat.beq v v') (O.ye c.nx (lk c.h) b v a put)
    | _=>al.bot)
   | _,_=>al.bot)
  | op=>opG al X.E (lk c.h) c.nx X.Q (fun _ _ _ _ _=>al.bot) (evD X.Γ c.top.s) op put)
def pj(ops:Array Oper):Bool:=ops.toList.all fun o=>match o.op with
 | .defer _=>false
 | _=>true
def oJ(N:Nat)(b0:Nat)(ops:Array Oper)(K:List (Nat×D)→List (Nat×B)→R):List Ac→List Oper→List (Nat×D)→List (Nat×B)→R
 | acc,[],s,h=>al.ak (okD ops acc.reverse) (K s h)
 | acc,o :: l,s,h=>al.ak (dOk N o.dst) (match o.guard with
  | none=>opG al X.E (lk h) (b0+o.dst.getD 0) X.Q (kh al X O true) (evD X.Γ s) o.op fun d rd e=>oJ N b0 ops K (.ex d rd e :: acc) l (my s o.dst d) (e++h)
  | some (j,want)=>match gd ops j with
   | some dj=>al.ak (Nat.blt dj N) (match lk s dj with
    | some (.fr (.vl (.bool b)))=>al.nS (pS b want)
     (let s:=(dj,.fr (.vl (.bool want))) :: s;opG al X.E (lk h) (b0+o.dst.getD 0) X.Q (kh al X O true) (evD X.Γ s) o.op fun d rd e=>oJ N b0 ops K (.ex d rd e :: acc) l (my s o.dst d) (e++h))
     (let s:=(dj,.fr (.vl (.bool (!want)))) :: s;oJ N b0 ops K (.sk :: acc) l (my s o.dst Un) h)
    | some (.fr (.vl (.tuple _)))=>oJ N b0 ops K (.sk :: acc) l (my s o.dst Un) h
    | _=>al.bot)
   | none=>al.bot)
def stepG(c:Cfg):R:=match c.top.k with
 | []=>kZ al X fin K c none
 | .code cd :: k=>(match cd with
  | .skip=>K { c with top:={ c.top with k:=k } }
  | .label _=>K { c with top:={ c.top with k:=k } }
  | .seq a b=>K { c with top:={ c.top with k:=.code a :: .code b :: k } }
  | .cond x a b=>Gp al ((evD X.Γ c.top.s x).getD Un) fun q=>al.nS q (K { c with top:={ c.top with k:=.code a :: k } }) (K { c with top:={ c.top with k:=.code b :: k } })
  | .block id b=>K { c with top:={ c.top with k:=.code b :: .blk id :: k } }
  | .loop b=>K { c with top:={ c.top with k:=.loop b :: k } }
  | .scope b=>K { c with top:={ c.top with k:=.code b :: .scope b :: k } }
  | .exit id=>(match dH id k with
   | some k'=>K { c with top:={ c.top with k:=k' } }
   | none=>kZ al X fin K c (some (.exit id)))
  | .goto l=>(match dJ l k with
   | some k'=>K { c with top:={ c.top with k:=k' } }
   | none=>kZ al X fin K c (some (.goto l)))
  | .ret=>kZ al X fin K c (some .ret)
  | .region id ops false=>K { c with top:={ c.top with k:=.reg ops ops.toList :: k } }
  | .region id ops true=>al.ak (pj ops) <| oJ al X O c.top.N c.nx ops (fun s h=>K { c with top:={ c.top with s:=s,k:=k },h:=h,nx:=c.nx+c.top.N }) [] ops.toList c.top.s c.h
  | .rangeFunc x ps a b=>(match evD X.Γ c.top.s x with
   | some d=>(match c.top.ro with
    | none=>
     let h:=(c.nx+1,.lp (nv (up (lk c.h) c.nx (.df (nv (lk c.h) c.nx))) (c.nx+1)) ⟨0,none,c.top.f,c.top.N,c.top.s,ps.toList,a,b,c.nx,nv (lk c.h) c.nx⟩) :: (c.nx,.df (nv (lk c.h) c.nx)) :: c.h
     let v:=nv (up (lk c.h) c.nx (.df (nv (lk c.h) c.nx))) (c.nx+1)
     let fm:={ c.top with k:=.rf (c.nx+1) v :: k,ds:=(c.nx,nv (lk c.h) c.nx) :: c.top.ds }
     (match d with
     | .cl f cs=>eP al X O K f (.yl (c.nx+1) v :: cs) (fm :: c.cs) h (c.nx+2)
     | .fr (.cl f cs)=>eP al X O K f (.yl (c.nx+1) v :: cs.map F.toD) (fm :: c.cs) h (c.nx+2)
     | _=>al.bot)
    | some (b0,v0)=>(match lk c.h b0 with
     | some (.lp v' L)=>al.ak (Nat.beq v0 v') (
      let v:=nv (lk c.h) c.nx
      let h:=(c.nx,.lp v ⟨0,none,c.top.f,c.top.N,c.top.s,ps.toList,a,b,L.db,L.dv⟩) :: c.h
      let fm:={ c.top with k:=.rf c.nx v :: k }
      match d with
      | .cl f cs=>eP al X O K f (.yl c.nx v :: cs) (fm :: c.cs) h (c.nx+1)
      | .fr (.cl f cs)=>eP al X O K f (.yl c.nx v :: cs.map F.toD) (fm :: c.cs) h (c.nx+1)
      | _=>al.bot)
     | _=>al.bot))
   | none=>al.bot)
  | .refuse _=>al.bot)
 | .blk _ :: k=>K { c with top:={ c.top with k:=k } }
 | .scope _ :: k=>K { c with top:={ c.top with k:=k } }
 | .loop b :: k=>K { c with top:={ c.top with k:=.code b :: .loop b :: k } }
 | .reg ops [] :: k=>K { c with top:={ c.top with k:=k } }
 | .reg ops (o :: l) :: k=>(match o.guard with
  | none=>uM al X O K c o ops l k
  | some (j,want)=>match gd ops j with
   | some dj=>al.ak (Nat.blt dj c.top.N) (match lk c.top.s dj with
    | some (.fr (.vl (.bool b)))=>al.nS (pS b want)
     (uM al X O K { c with top:={ c.top with s:=(dj,.fr (.vl (.bool want))) :: c.top.s } } o ops l k)
     (al.ak (dOk c.top.N o.dst) (K { c with top:={ c.top with s:=my ((dj,.fr (.vl (.bool (!want)))) :: c.top.s) o.dst Un,k:=.reg ops l :: k } }))
    | some (.fr (.vl (.tuple _)))=>al.ak (dOk c.top.N o.dst) (K { c with top:={ c.top with s:=my c.top.s o.dst Un,k:=.reg ops l :: k } })
    | _=>al.bot)
   | none=>al.bot)
 | .rf _ _ :: _=>al.bot
 | .erf b v :: k=>(match lk c.h b with
  | some (.lp v' L)=>al.ak (Nat.beq v v' && !Nat.beq L.st 1) (K { c with top:={ c.top with k:=(match L.gI with|some j=>.code j :: k|none=>k) },h:=(b,.lp v { L with st:=3 }) :: c.h })
  | _=>al.bot)
 | .br :: k=>(match c.top.ro with
  | some (b,v)=>(match lk c.h b with
   | some (.lp v' L)=>al.ak (Nat.beq v v'&&Nat.beq L.st 0) (K { c with top:={ c.top with k:=k },h:=(b,.lp v { L with st:=1 }) :: c.h })
   | _=>al.bot)
  | none=>al.bot)
end
end Go.Km
end
section
namespace Go.Km
open Go Go.RowKit Go.Vc
open Go.Sl hiding lk
abbrev At0(c:Cf)(b v g:Nat):Prop:=c.ι b v=some (some ⟨g,0,none⟩,0,0)
def bF(f:Nat)(ro:Option Nat):Frame:={ (default:Frame) with fn:=f,kind:=.normal,roundOf:=ro }
def KI.ok(c:Cf):KI→Item→Prop
 | .code cd,it=>it=.code cd
 | .blk id,it=>it=.inBlock id
 | .loop cd,it=>it=.inLoop cd
 | .scope cd,it=>it=.inScope cd
 | .reg ops l,it=>∃il:List Nat,it=.inRegion ops il∧il.map (fun i=>ops[i]?)=l.map some
 | .rf b v,it=>∃g,it=.inRangeFunc g∧At0 c b v g
 | .erf b v,it=>∃g,it=.endRangeFunc g∧At0 c b v g
 | .br,it=>it=.beginRound
def KIs(c:Cf):List KI→List Item→Prop
 | [],t=>t=[]
 | x :: l,t=>∃it t',t=it :: t'∧x.ok c it∧KIs c l t'
def bx(c:Cf):List (Nat×Nat)→List Deferred→Prop
 | [],ds=>ds=[]
 | p :: l,ds=>∃gs ds',ds=gs.map (fun g=>{ target:=.collected g,args:=#[] })++ds'∧AtM c p.1 p.2 gs∧bx c l ds'
def jE(c:Cf):Option (Nat×Nat)→Option Nat→Prop
 | none,r=>r=none
 | some p,r=>∃g,r=some g∧At0 c p.1 p.2 g
structure tC(c:Cf)(fm:Fm)(fr:Frame):Prop where
 ex:∃(a:Act) (todo:List Item) (ro:Option Nat),fr=(bF fm.f ro).atR a todo∧bq c fm.N fm.s a.tmps∧KIs c fm.k todo∧bx c fm.ds a.defers∧jE c fm.ro ro
def Fms(c:Cf):List Fm→List Frame→Prop
 | [],fs=>fs=[]
 | m :: l,fs=>∃f fs',fs=f :: fs'∧tC c m f∧Fms c l fs'
def eE:Fm→List Fm→Nat
 | m,[]=>m.f
 | _,m :: l=>eE m l
section
variable {c c':Cf}
theorem KI.ok.le(h:c.le c'):∀{x:KI} {it:Item},x.ok c it→x.ok c' it
 | .code _,_,hx=>hx
 | .blk _,_,hx=>hx
 | .loop _,_,hx=>hx
 | .scope _,_,hx=>hx
 | .reg _ _,_,hx=>hx
 | .rf _ _,_,⟨g,h1,h2⟩=>⟨g,h1,h.ι _ _ _ h2⟩
 | .erf _ _,_,⟨g,h1,h2⟩=>⟨g,h1,h.ι _ _ _ h2⟩
 | .br,_,hx=>hx
theorem KIs.le(h:c.le c'):∀{l:List KI} {t:List Item},KIs c l t→KIs c' l t
 | [],_,hx=>hx
 | _ :: _,_,⟨it,t',h1,h2,h3⟩=>⟨it,t',h1,h2.le h,KIs.le h h3⟩
theorem bx.le(h:c.le c'):∀{l:List (Nat×Nat)} {t:List Deferred},bx c l t→bx c' l t
 | [],_,hx=>hx
 | _ :: _,_,⟨g,t',h1,h2,h3⟩=>⟨g,t',h1,h2.le h,bx.le h h3⟩
theorem jE.le(h:c.le c'):∀{r:Option (Nat×Nat)} {t:Option Nat},jE c r t→jE c' r t
 | none,_,hx=>hx
 | some _,_,⟨g,h1,h2⟩=>⟨g,h1,h.ι _ _ _ h2⟩
theorem tC.le(h:c.le c'){fm:Fm}{fr:Frame}:tC c fm fr→tC c' fm fr
 | ⟨a,todo,ro,h1,h2,h3,h4,h5⟩=>⟨a,todo,ro,h1,h2.le h,h3.le h,h4.le h,h5.le h⟩
theorem Fms.le(h:c.le c'):∀{l:List Fm} {t:List Frame},Fms c l t→Fms c' l t
 | [],_,hx=>hx
 | _ :: _,_,⟨f,t',h1,h2,h3⟩=>⟨f,t',h1,h2.le h,Fms.le h h3⟩
theorem eS{id:Nat}:∀{k k':List KI} {t:List Item},dH id k=some k'→KIs c k t→∃t',exitTo id t=some t'∧KIs c k' t'
 | [],_,_,h,_=>by simp[dH] at h
 | x :: l,k',t,h,⟨it,t1,e,hx,hl⟩=>by
  subst e
  cases x with
  | blk id'=>
   simp only[dH] at h;have hx:it=.inBlock id':=hx;subst hx
   cases hb:Nat.beq id' id with
   | true=>
    rw[hb] at h;simp at h;subst h;have:=Nat.eq_of_beq_eq_true hb;subst this;exact⟨t1,by simp[exitTo],hl⟩
   | false=>
    rw[hb] at h;obtain⟨t',h1,h2⟩:=eS (k:=l) h hl;have hne:(id'==id)=false:=by rw[beq_eq_false_iff_ne];intro e;rw[e] at hb;simp at hb
    exact⟨t',by simp only[exitTo,hne];exact h1,h2⟩
  | code _=>have hx:it=_:=hx;subst hx;simp only[dH] at h;exact(eS (k:=l) h hl).imp fun t' ht=>⟨by simpa [exitTo] using ht.1,ht.2⟩
  | loop _=>have hx:it=_:=hx;subst hx;simp only[dH] at h;exact(eS (k:=l) h hl).imp fun t' ht=>⟨by simpa [exitTo] using ht.1,ht.2⟩
  | scope _=>have hx:it=_:=hx;subst hx;simp only[dH] at h;exact(eS (k:=l) h hl).imp fun t' ht=>⟨by simpa [exitTo] using ht.1,ht.2⟩
  | br=>have hx:it=_:=hx;subst hx;simp only[dH] at h;exact(eS (k:=l) h hl).imp fun t' ht=>⟨by simpa [exitTo] using ht.1,ht.2⟩
  | reg _ _=>obtain⟨il,rfl,_⟩:=hx;simp only[dH] at h;exact(eS (k:=l) h hl).imp fun t' ht=>⟨by simpa [exitTo] using ht.1,ht.2⟩
  | rf _ _=>obtain⟨il,rfl,_⟩:=hx;simp only[dH] at h;exact(eS (k:=l) h hl).imp fun t' ht=>⟨by simpa [exitTo] using ht.1,ht.2⟩
  | erf _ _=>obtain⟨il,rfl,_⟩:=hx;simp only[dH] at h;exact(eS (k:=l) h hl).imp fun t' ht=>⟨by simpa [exitTo] using ht.1,ht.2⟩
theorem bL{id:Nat}:∀{k:List KI} {t:List Item},dH id k=none→KIs c k t→exitTo id t=none
 | [],t,_,h=>by have h:t=[]:=h;subst h;rfl
 | x :: l,t,h,⟨it,t1,e,hx,hl⟩=>by
  subst e
  cases x with
  | blk id'=>
   simp only[dH] at h;have hx:it=.inBlock id':=hx;subst hx
   cases hb:Nat.beq id' id with
   | true=>rw[hb] at h;cases h
   | false=>
    rw[hb] at h;have hne:(id'==id)=false:=by rw[beq_eq_false_iff_ne];intro e;rw[e] at hb;simp at hb
    simp only[exitTo,hne];exact bL (k:=l) h hl
  | code _=>have hx:it=_:=hx;subst hx;simp only[dH] at h;simpa [exitTo] using bL (k:=l) h hl
  | loop _=>have hx:it=_:=hx;subst hx;simp only[dH] at h;simpa [exitTo] using bL (k:=l) h hl
  | scope _=>have hx:it=_:=hx;subst hx;simp only[dH] at h;simpa [exitTo] using bL (k:=l) h hl
  | br=>have hx:it=_:=hx;subst hx;simp only[dH] at h;simpa [exitTo] using bL (k:=l) h hl
  | reg _ _=>obtain⟨il,rfl,_⟩:=hx;simp only[dH] at h;simpa [exitTo] using bL (k:=l) h hl
  | rf _ _=>obtain⟨il,rfl,_⟩:=hx;simp only[dH] at h;simpa [exitTo] using bL (k:=l) h hl
  | erf _ _=>obtain⟨il,rfl,_⟩:=hx;simp only[dH] at h;simpa [exitTo] using bL (k:=l) h hl
theorem eN{l:Nat}:∀{k k':List KI} {t:List Item},dJ l k=some k'→KIs c k t→∃t',gotoIn l t=some t'∧KIs c k' t'
 | [],_,_,h,_=>by simp[dJ] at h
 | x :: r,k',t,h,⟨it,t1,e,hx,hl⟩=>by
  subst e
  cases x with
  | scope body=>
   simp only[dJ] at h;have hx:it=.inScope body:=hx;subst hx
   split at h
   ·rename_i rest hr
    cases h;exact⟨.code rest :: .inScope body :: t1,by simp[gotoIn,hr],⟨_,_,rfl,rfl,_,_,rfl,rfl,hl⟩⟩
   ·rename_i hr;obtain⟨t',h1,h2⟩:=eN (k:=r) h hl;exact⟨t',by simp only[gotoIn,hr];exact h1,h2⟩
  | code _=>have hx:it=_:=hx;subst hx;simp only[dJ] at h;exact(eN (k:=r) h hl).imp fun t' ht=>⟨by simpa [gotoIn] using ht.1,ht.2⟩
  | loop _=>have hx:it=_:=hx;subst hx;simp only[dJ] at h;exact(eN (k:=r) h hl).imp fun t' ht=>⟨by simpa [gotoIn] using ht.1,ht.2⟩
  | blk _=>have hx:it=_:=hx;subst hx;simp only[dJ] at h;exact(eN (k:=r) h hl).imp fun t' ht=>⟨by simpa [gotoIn] using ht.1,ht.2⟩
  | br=>have hx:it=_:=hx;subst hx;simp only[dJ] at h;exact(eN (k:=r) h hl).imp fun t' ht=>⟨by simpa [gotoIn] using ht.1,ht.2⟩
  | reg _ _=>obtain⟨il,rfl,_⟩:=hx;simp only[dJ] at h;exact(eN (k:=r) h hl).imp fun t' ht=>⟨by simpa [gotoIn] using ht.1,ht.2⟩
  | rf _ _=>obtain⟨il,rfl,_⟩:=hx;simp only[dJ] at h;exact(eN (k:=r) h hl).imp fun t' ht=>⟨by simpa [gotoIn] using ht.1,ht.2⟩
  | erf _ _=>obtain⟨il,rfl,_⟩:=hx;simp only[dJ] at h;exact(eN (k:=r) h hl).imp fun t' ht=>⟨by simpa [gotoIn] using ht.1,ht.2⟩
theorem bM{l:Nat}:∀{k:List KI} {t:List Item},dJ l k=none→KIs c k t→gotoIn l t=none
 | [],t,_,h=>by have h:t=[]:=h;subst h;rfl
 | x :: r,t,h,⟨it,t1,e,hx,hl⟩=>by
  subst e
  cases x with
  | scope body=>
   simp only[dJ] at h;have hx:it=.inScope body:=hx;subst hx
   split at h
   ·cases h
   ·rename_i hr;simp only[gotoIn,hr];exact bM (k:=r) h hl
  | code _=>have hx:it=_:=hx;subst hx;simp only[dJ] at h;simpa [gotoIn] using bM (k:=r) h hl
  | loop _=>have hx:it=_:=hx;subst hx;simp only[dJ] at h;simpa [gotoIn] using bM (k:=r) h hl
  | blk _=>have hx:it=_:=hx;subst hx;simp only[dJ] at h;simpa [gotoIn] using bM (k:=r) h hl
  | br=>have hx:it=_:=hx;subst hx;simp only[dJ] at h;simpa [gotoIn] using bM (k:=r) h hl
  | reg _ _=>obtain⟨il,rfl,_⟩:=hx;simp only[dJ] at h;simpa [gotoIn] using bM (k:=r) h hl
  | rf _ _=>obtain⟨il,rfl,_⟩:=hx;simp only[dJ] at h;simpa [gotoIn] using bM (k:=r) h hl
  | erf _ _=>obtain⟨il,rfl,_⟩:=hx;simp only[dJ] at h;simpa [gotoIn] using bM (k:=r) h hl
end
structure Rl(W:Bs)(f0:Nat)(g:Cfg)(c:Cf)(O:Nat→Nat→Prop)(fr:Frame)(frs:List Frame)(w:World):Prop where
 top:tC c g.top fr
 cs:Fms c g.cs frs
 hp:Hp c O (lk g.h) w
 old:Old W c O w
 bot:eE g.top g.cs=f0
abbrev sQ:=D→List (Nat×B)→Prop
def eY(P:Program)(W:Bs)(cs0:List Frame)(f0:Nat)(r:sQ)(m:Machine):Prop:=
 (∃v w' fr d h c' O',Steps P m (lone fr cs0 w')∧fr.fn=f0∧fr.leaving P w' (.returned v)∧r d h∧D.rep c' d v∧Hp c' O' (lk h) w'∧Old W c' O' w'∧okR d=true)∨
 ∃q w' h c' O',(∀fr1 cs1,cs0=fr1 :: cs1→Steps P m (lone (fr1.finish (.bool q)) cs1 w'))∧r (.mcl 0 [] [Bo q]) h∧Hp c' O' (lk h) w'∧Old W c' O' w'
theorem eY.of_steps{P:Program}{W:Bs}{cs0:List Frame}{f0:Nat}{r:sQ}{m m':Machine}(h:Steps P m m'):eY P W cs0 f0 r m'→eY P W cs0 f0 r m
 | .inl ⟨v,w',fr,d,hh,c',O',h1,h2⟩=>.inl ⟨v,w',fr,d,hh,c',O',h.trans h1,h2⟩
 | .inr ⟨q,w',hh,c',O',h1,h2⟩=>.inr ⟨q,w',hh,c',O',fun a b e=>h.trans (h1 a b e),h2⟩
theorem eY.fn{P:Program}{W:Bs}{cs0:List Frame}{f0:Nat}{r:sQ}{m:Machine}(hr:∀q h,¬r (.mcl 0 [] [Bo q]) h):eY P W cs0 f0 r m→∃v w' fr d h c' O',Steps P m (lone fr cs0 w')∧fr.fn=f0∧fr.leaving P w' (.returned v)∧r d h∧D.rep c' d v∧Hp c' O' (lk h) w'∧Old W c' O' w'
 | .inl ⟨v,w',fr,d,h,c',O',h1,h2,h3,h4,h5,h6,h7,_⟩=>⟨v,w',fr,d,h,c',O',h1,h2,h3,h4,h5,h6,h7⟩
 | .inr ⟨q,_,h,_,_,_,h2,_⟩=>(hr q h h2).elim
theorem eY.rd{P:Program}{W:Bs}{cs0:List Frame}{f0:Nat}{r:sQ}{m:Machine}(hr:∀d h,okR d=true→¬r d h):eY P W cs0 f0 r m→∃q w' h c' O',(∀fr1 cs1,cs0=fr1 :: cs1→Steps P m (lone (fr1.finish (.bool q)) cs1 w'))∧r (.mcl 0 [] [Bo q]) h∧Hp c' O' (lk h) w'∧Old W c' O' w'
 | .inl ⟨v,w',fr,d,h,c',O',h1,h2,h3,h4,h5,h6,h7,h8⟩=>(hr d h h8 h4).elim
 | .inr h=>h
def Snd(P:Program)(W:Bs)(cs0:List Frame)(f0:Nat)(r:sQ)(g:Cfg):Prop:=
 ∀c O fr frs w,Rl W f0 g c O fr frs w→eY P W cs0 f0 r (lone fr (frs++cs0) w)
def NB(P:Program)(E:TE)(bt u8 kind:Nat)(f:FuncId):Prop:=∀(t:Nat) (η:Env) (l:List D) (d:D) (rd:List Nat) (e:List (Nat×B)),bdX E bt u8 kind t η l=some (d,rd,e)→∀(W:Bs) (c:Cf) (O:Nat→Nat→Prop) (w:World) (vs:List Value),Hp c O η w→Old W c O w→D.ah c l vs→
 CF P f∧Calls P f vs.toArray w (fun e' w'=>∃v,e'=.returned v∧Res W η c (Is3 d rd e) v w')
structure j5(P:Program)(X:Tx):Prop where
 E:∀t i,X.E t=some i→TOk P t i
 fi:∀f i,X.fi f=some i→CF P f∧∃fn,P.funcs[f]?=some fn∧fn.body=some i.body∧fn.ntmps=i.N∧fn.results.toList=i.rs
 mixed:P.follows .mixedOrders=true
 deep:2≤P.depth
 Q:∀t,X.Q t=true→FEq P t
 bd:∀f k,X.bd f=k+1→NB P X.E (X.bt f) X.u8 (k+1) f
theorem BQ{t:Nat}{η η':Env}{b:Nat}{d:D}{rows:List (List F)}{b2 v2:Nat}{rd:List Nat}(h:GH t η b d=some (rows,b2,v2,rd))(hη:∀i∈rd,η' i=η i):GH t η' b d=some (rows,b2,v2,rd):=by
 unfold GH at h ⊢
 split at h
 ·cases h;rw[cH (hη _ (by simp))]
 ·rename_i b3 v
  split at h
  ·rename_i v' e sz rows' hb
   cases hv:(Nat.beq v v'&&Nat.beq sz 1 && !Nat.beq b b3) with
   | false=>rw[hv] at h;cases h
   | true=>
    rw[hv] at h;simp only[cond_true] at h
    cases h;rw[hη _ (by simp),hb];simp only[hv,cond_true]
  ·cases h
 ·cases h
theorem AV{bt u8 kind t:Nat}{η η':Env}{l:List D}{d:D}{rd:List Nat}{e:List (Nat×B)}(h:Jt bt u8 kind t η l=some (d,rd,e))(hη:∀i∈rd,η' i=η i):Jt bt u8 kind t η' l=some (d,rd,e):=by
 have wh:∀{b:Bool} {x:Ot} {y:D×List Nat×List (Nat×B)},vI b x=some y→b=true∧x=some y:=by
  intro b x y h
  cases b with
  | true=>exact⟨rfl,h⟩
  | false=>cases h
 unfold Jt at h ⊢
 split at h
 ·rename_i b v l
  split at h
  ·rename_i v' ty ad sl hb;obtain⟨h1,h⟩:=wh h
   split at h
   ·rename_i rows b2 v2 rd2 hbuf
    split at h
    ·rename_i bs hbs;have key:∀{rd':List Nat},rd'=b :: rd2→(∀i∈rd',η' i=η i)→η' b=η b∧GH t η' b sl=some (rows,b2,v2,rd2):=by
      intro rd' e hη;subst e;exact⟨hη b (by simp),BQ hbuf (fun i hi=>hη i (by simp[hi]))⟩
     have fin:rd=b :: rd2:=by
      split at h
      ·obtain⟨_,h⟩:=wh h;obtain⟨_,h⟩:=wh h
       cases h;rfl
      ·obtain⟨_,h⟩:=wh h
       cases h;rfl
      ·cases h;rfl
      ·cases h
     obtain⟨k1,k2⟩:=key fin hη;rw[k1,hb];simp only[k2,hbs,h1];exact h
    ·cases h
   ·cases h
  ·cases h
 ·cases h
theorem sy{η η':Env}{d:D}{news:List (List F)}{rd:List Nat}(h:qq η d=some (news,rd))(hη:∀b∈rd,η' b=η b):qq η' d=some (news,rd):=by
 unfold qq at h ⊢
 split at h
 ·rename_i b v sz lo hi ex
  split at h
  ·rename_i v' e sz' rows hb
   cases hv:(Nat.beq v v'&&Nat.beq sz sz') with
   | false=>rw[hv] at h;cases h
   | true=>
    rw[hv] at h;simp only[cond_true] at h
    cases h;rw[hη _ (by simp),hb];simp only[hv,cond_true]
  ·cases h
 ·exact h
 ·exact jk h hη
theorem EI{E:TE}{bt u8 kind t:Nat}{η η':Env}{l:List D}{d:D}{rd:List Nat}{e:List (Nat×B)}(h:bdX E bt u8 kind t η l=some (d,rd,e))(hη:∀i∈rd,η' i=η i):bdX E bt u8 kind t η' l=some (d,rd,e):=by
 unfold bdX at h ⊢
 split at h
 ·split at h
  ·rename_i rd0 hs
   cases h;rw[sy hs hη]
  ·rename_i rows rd0 hne hs
   split at h
   ·rename_i he
    cases hc:(jh _ rows&&Nat.ble rows.length maxLen&&Nat.ble (rows.length * _) 140737488355328) with
    | false=>rw[hc] at h;cases h
    | true=>
     rw[hc] at h
     cases h;rw[sy hs (fun b hb=>hη b (by simp[hb]))]
     cases rows with
     | nil=>exact absurd rfl hne
     | cons r0 rs=>simp only[he,hc,cH (hη t (by simp)),vI,cond_true]
   ·cases h
  ·cases h
 ·exact AV h hη
structure dp(P:Program)(Γ:Nat→Option (List F))(η:Env)(f:FuncId)(l:List D)(d:D)(rd:List Nat)(e:List (Nat×B)):Prop where
 go:∀η',(∀b∈rd,η' b=η b)→∀(W:Bs) c O w vs,GOk Γ c→Hp c O η' w→Old W c O w→D.ah c l vs→CF P f∧Calls P f vs.toArray w (fun e' w'=>∃v,e'=.returned v∧Res W η' c (Is3 d rd e) v w')
structure K2(P:Program)(l:Nat)(args:Array Value)(w:World)(Q:Value→World→Prop):Prop where
 go:∃L,w.heap[l]?=some (.loop L)∧args.size=L.params.size∧∀fr1 cs,∃v w',Q v w'∧Steps P (lone ((bF L.fn (some l)).atR ⟨(L.params.zip args).foldl (fun t (p:Tmp×Value)=>t.setIfInBounds p.1 p.2) L.tmps,[]⟩ [.code L.assign,.beginRound,.code L.body]) (fr1 :: cs) w) (lone (fr1.finish v) cs w')
structure wg(P:Program)(Γ:Nat→Option (List F))(η:Env)(b v:Nat)(l:List D)(d:D)(rd:List Nat)(e:List (Nat×B)):Prop where
 go:∀η',(∀b∈rd,η' b=η b)→∀(W:Bs) c O w vs g,GOk Γ c→Hp c O η' w→Old W c O w→D.ah c l vs→At0 c b v g→K2 P g vs.toArray w (fun u w'=>Res W η' c (Is3 d rd e) u w')
structure vz{R:Type}(P:Program)(X:Tx)(T:R→Prop)(O:Orc R):Prop where
 pu:∀f l k,T (O.pu f l k)→∃x:F×Bool,Pure P X.Γ f l x.1 x.2∧T (k x)
 he:∀t η f l k,T (O.he t η f l k)→∃d rd e,dp P X.Γ η f l d rd e∧T (k d rd e)
 ye:∀t η b v l k,T (O.ye t η b v l k)→∃d rd e,wg P X.Γ η b v l d rd e∧T (k d rd e)
def GD2(P:Program)(X:Tx):CG:=fun t η f l k=>((X.bd f=0∧GDr P X.Γ η f l k)∨(∃kd,X.bd f=kd+1∧∃d rd e,bdX X.E (X.bt f) X.u8 (kd+1) t η l=some (d,rd,e)∧k d rd e))∨(∃d rd e,dp P X.Γ η f l d rd e∧k d rd e)
theorem Res.to{W:Bs}{η:Env}{c:Cf}{k:Ks}{d:D}{rd:List Nat}{e:List (Nat×B)}{v:Value}{w:World}(h:Res W η c (Is3 d rd e) v w)(hk:k d rd e):Res W η c k v w:=by
 obtain⟨d',rd',e',c',O',⟨rfl,rfl,rfl⟩,h2⟩:=h;exact⟨_,_,_,c',O',hk,h2⟩
theorem DP{P:Program}{X:Tx}(hX:j5 P X):kW P X.Γ (GD2 P X):=by
 rintro t η f l k ((⟨_,h⟩|⟨kd,h1,d,rd,e,h2,hk⟩)|⟨d,rd,e,h2,hk⟩) W c O w vs g1 g2 g3 g4
 ·exact vT t η f l k h W c O w vs g1 g2 g3 g4
 ·obtain⟨q1,q2⟩:=hX.bd f kd h1 t η l d rd e h2 W c O w vs g2 g3 g4;exact⟨q1,q2.mono fun e w' ⟨v,h3,h4⟩=>⟨v,h3,Res.to h4 hk⟩⟩
 ·obtain⟨q1,q2⟩:=h2.go η (fun _ _=>rfl) W c O w vs g1 g2 g3 g4;exact⟨q1,q2.mono fun e w' ⟨v,h3,h4⟩=>⟨v,h3,Res.to h4 hk⟩⟩
theorem Dk{P:Program}{X:Tx}:xC (GD2 P X):=by
 rintro t η f l k ((⟨h0,h⟩|⟨kd,h1,d,rd,e,h2,hk⟩)|⟨d,rd,e,h2,hk⟩)
 ·obtain⟨d,rd,e,q1,q2⟩:=B9 t η f l k h;exact⟨d,rd,e,q1,fun η' hη=>.inl (.inl ⟨h0,q2 η' hη⟩)⟩
 ·exact⟨d,rd,e,hk,fun η' hη=>.inl (.inr ⟨kd,h1,d,rd,e,EI h2 hη,rfl,rfl,rfl⟩)⟩
 ·exact⟨d,rd,e,hk,fun η' hη=>.inr ⟨d,rd,e,⟨fun η2 h3=>h2.go η2 (fun b hb=>(h3 b hb).trans (hη b hb))⟩,rfl,rfl,rfl⟩⟩
section
variable {P:Program} {f:Nat} {ro:Option Nat} {a:Act} {k:List Item} {cs:List Frame} {w:World} {ops:Array Oper}
theorem gK{ρ:Operand→Value}{o:Oper}{w w':World}{x:Next}(hr:(execOp ρ o).run P w=.ok x w')(hx:∀d,x≠.defer d):∀c,o.op≠.defer c:=by
 intro c e
 cases h:(resolve ρ c o.type).run P w<;>simp[execOp,e,h] at hr
 exact hx _ hr.1.symm
theorem fw{i:Nat}{rest:List Nat}{o:Oper}(ho:ops[i]?=some o)(v:Value):((bF f ro).atR a (.inRegion ops (i :: rest) :: k)).finish v=(bF f ro).atR (a.put o.dst v) (.inRegion ops rest :: k):=by
 rw[Frame.finish_atR,ho];rfl
theorem sg{i:Nat}{rest:List Nat}{o:Oper}{w':World}{v:Value}(ho:ops[i]?=some o)(hw:Region.wanted o (yielded ops a.tmps)=true)(hr:(execOp a.eval o).run P w=.ok (.value v) w') :
  step P (lone ((bF f ro).atR a (.inRegion ops (i :: rest) :: k)) cs w)=.next (lone ((bF f ro).atR (a.put o.dst v) (.inRegion ops rest :: k)) cs w'):=by
 have hg:=stepGR_op (P:=P) (b:=bF f ro) (k:=k) (cs:=cs) (w:=w) (rest:=rest) ho hw;rw[Oper.semAt_eq _ _ _ (gK hr (by simp))] at hg;refine step_lone_go ?_;rw[hg,←fw ho];simp[stepG.apply,hr]
theorem vN{i:Nat}{rest:List Nat}{o:Oper}{w':World}(ho:ops[i]?=some o)(hw:Region.wanted o (yielded ops a.tmps)=true)(hr:(execOp a.eval o).run P w=.ok .skip w') :
  step P (lone ((bF f ro).atR a (.inRegion ops (i :: rest) :: k)) cs w)=.next (lone ((bF f ro).atR (a.put o.dst undef) (.inRegion ops rest :: k)) cs w'):=by
 have hg:=stepGR_op (P:=P) (b:=bF f ro) (k:=k) (cs:=cs) (w:=w) (rest:=rest) ho hw;rw[Oper.semAt_eq _ _ _ (gK hr (by simp))] at hg;refine step_lone_go ?_;rw[hg,←fw ho];simp[stepG.apply,hr]
theorem ir{i:Nat}{rest:List Nat}{o:Oper}{w':World}{g:FuncId}{args:Array Value}(ho:ops[i]?=some o)(hw:Region.wanted o (yielded ops a.tmps)=true)(hr:(execOp a.eval o).run P w=.ok (.enter g args) w') :
  step P (lone ((bF f ro).atR a (.inRegion ops (i :: rest) :: k)) cs w)=.next (lone (Frame.enter P g args .normal) ((bF f ro).atR a (.inRegion ops (i :: rest) :: k) :: cs) w'):=by
 have hg:=stepGR_op (P:=P) (b:=bF f ro) (k:=k) (cs:=cs) (w:=w) (rest:=rest) ho hw;rw[Oper.semAt_eq _ _ _ (gK hr (by simp))] at hg;refine step_lone_go ?_;rw[hg];simp[stepG.apply,hr,Frame.atR]
theorem sX{i:Nat}{rest:List Nat}{o:Oper}{w':World}{l g:Nat}{tmps:Array Value}{asg body:Code}(ho:ops[i]?=some o)(hw:Region.wanted o (yielded ops a.tmps)=true)(hr:(execOp a.eval o).run P w=.ok (.round l g tmps asg body) w') :
  step P (lone ((bF f ro).atR a (.inRegion ops (i :: rest) :: k)) cs w)=.next (lone ((bF g (some l)).atR ⟨tmps,[]⟩ [.code asg,.beginRound,.code body]) ((bF f ro).atR a (.inRegion ops (i :: rest) :: k) :: cs) w'):=by
 have hg:=stepGR_op (P:=P) (b:=bF f ro) (k:=k) (cs:=cs) (w:=w) (rest:=rest) ho hw;rw[Oper.semAt_eq _ _ _ (gK hr (by simp))] at hg;refine step_lone_go ?_;rw[hg];simp[stepG.apply,hr,Frame.atR,Frame.round,bF]
theorem s5{g:FuncId}{args:Array Value}{fn:Func}{cd:Code}(hf:P.funcs[g]?=some fn)(hb:fn.body=some cd) :
  Frame.enter P g args .normal=(bF g none).atR { tmps:=args++Array.replicate (fn.ntmps - args.size) undef,defers:=[] } [.code cd]:=by
 simp[Frame.enter,Frame.atR,hf,hb,bF]
theorem Ae{i:Nat}{rest:List Nat}{o:Oper}{F:Value→World→Prop}(ho:ops[i]?=some o)(hw:Region.wanted o (yielded ops a.tmps)=true)(hL:aw P o a w F) :
  ∃v w',F v w'∧Steps P (lone ((bF f ro).atR a (.inRegion ops (i :: rest) :: k)) cs w) (lone ((bF f ro).atR (a.put o.dst v) (.inRegion ops rest :: k)) cs w'):=by
 unfold aw at hL
 split at hL
 ·rename_i v w' hr;exact⟨v,w',hL,.one (sg ho hw hr)⟩
 ·rename_i w' hr;exact⟨undef,w',hL,.one (vN ho hw hr)⟩
 ·rename_i g args w' hr;obtain⟨e,w2,fr',⟨v,rfl,hF⟩,hc,hfn,hl⟩:=hL ((bF f ro).atR a (.inRegion ops (i :: rest) :: k) :: cs);refine⟨v,w2,hF,.head (ir ho hw hr) (Steps.trans hc (.one ?_))⟩;rw[step_leave_returned hl,fw ho]
 ·exact hL.elim
theorem s6{N:Act→World→Prop}{Q:Exit→Act→World→Prop}(hnd:∀(i:Nat) (o:Oper),ops[i]?=some o→∀c,o.op≠.defer c)(hQ:∀e a w,Q e a w→e=.normal∧N a w):∀(l:List Nat) (a:Act) (w:World),wpOps P ops Q l a w→
  ∃a' w',N a' w'∧Steps P (lone ((bF f ro).atR a (.inRegion ops l :: k)) cs w) (lone ((bF f ro).atR a' k) cs w')
 | [],a,w,h=>⟨a,w,(hQ _ _ _ h).2,.one stepR_region_end⟩
 | i :: rest,a,w,h=>by
  have ih:=s6 hnd hQ rest;simp only[wpOps] at h
  cases ho:ops[i]? with
  | none=>
   simp only[ho] at h;obtain⟨a',w',h1,h2⟩:=ih a w h;have hs:=stepR_op_skip (P:=P) (b:=bF f ro) (a:=a) (k:=k) (cs:=cs) (w:=w) (ops:=ops) (i:=i) (rest:=rest) (by simp[ho]);simp only[ho,Option.bind_none,Act.put] at hs;exact⟨a',w',h1,.head hs h2⟩
  | some o=>
   simp only[ho] at h
   by_cases hw:Region.wanted o (yielded ops a.tmps)=true
   ·simp only[hw,if_true] at h;rcases h with h|⟨_,a0,w0,hq⟩
    ·simp only[Oper.wp,Oper.upon] at h
     split at h
     ·rename_i v w' hr;obtain⟨a',w2,h1,h2⟩:=ih _ _ h;exact⟨a',w2,h1,.head (sg ho hw hr) h2⟩
     ·rename_i w' hr;obtain⟨a',w2,h1,h2⟩:=ih _ _ h;exact⟨a',w2,h1,.head (vN ho hw hr) h2⟩
     ·rename_i d w' hr;obtain⟨a',w2,h1,h2⟩:=ih _ _ h;refine⟨a',w2,h1,.head (step_lone_go ?_) h2⟩;have hg:=stepGR_op (P:=P) (b:=bF f ro) (k:=k) (cs:=cs) (w:=w) (rest:=rest) ho hw;rw[Oper.semAt_eq _ _ _ (hnd i o ho)] at hg;rw[hg]
      cases hdst:o.dst<;>simp[stepG.apply,hr,Frame.finish,Frame.atR,ho,Act.put,hdst]
     ·rename_i g args w' hr;obtain⟨e,w2,fr',he,hc,hfn,hl⟩:=h ((bF f ro).atR a (.inRegion ops (i :: rest) :: k) :: cs)
      cases e with
      | returned v=>
       obtain⟨a',w3,h1,h2⟩:=ih _ _ he;refine⟨a',w3,h1,.head (ir ho hw hr) (Steps.trans hc (.head ?_ h2))⟩;rw[step_leave_returned hl,fw ho]
      | panicked chain=>exact absurd (hQ _ _ _ he).1 (by intro h;cases h)
      | outgrown=>obtain⟨a0,w0,hq⟩:=he;exact absurd (hQ _ _ _ hq).1 (by intro h;cases h)
     ·rename_i row args w' hr;obtain⟨v,w2,he,hc⟩:=h ((bF f ro).atR a (.inRegion ops (i :: rest) :: k)) cs;obtain⟨a',w3,h1,h2⟩:=ih _ _ he;refine⟨a',w3,h1,.head (step_lone_go ?_) (Steps.trans hc (by rw[fw ho];exact h2))⟩;have hg:=stepGR_op (P:=P) (b:=bF f ro) (k:=k) (cs:=cs) (w:=w) (rest:=rest) ho hw;rw[Oper.semAt_eq _ _ _ (hnd i o ho)] at hg;rw[hg];simp[stepG.apply,hr,Frame.atR]
     ·rename_i v w' hr;exact absurd (hQ _ _ _ h).1 (by intro h;cases h)
     ·exact h.elim
    ·exact absurd (hQ _ _ _ hq).1 (by intro h;cases h)
   ·have hw':Region.wanted o (yielded ops a.tmps)=false:=by simpa using hw
    simp only[hw',Bool.false_eq_true,if_false] at h;obtain⟨a',w',h1,h2⟩:=ih _ _ h;have hs:=stepR_op_skip (P:=P) (b:=bF f ro) (a:=a) (k:=k) (cs:=cs) (w:=w) (ops:=ops) (i:=i) (rest:=rest) (by simp[ho,hw']);simp only[ho,Option.bind_some] at hs;exact⟨a',w',h1,.head hs h2⟩
end
end Go.Km
end
section
namespace Go.Vc
open Go Go.RowKit Go.Km
open Go.Sl hiding lk
section
variable {c:Cf} {N:Nat} {s:List (Nat×D)}
theorem bq.sl{a:Act}(h:bq c N s a.tmps):iA c ⟨N,a.defers⟩ s a:=⟨h.size,rfl,h.get⟩
theorem bq.put{a:Act}(h:bq c N s a.tmps){dst:Option Nat}(hd:dOk N dst=true){d:D}{v:Value}(hv:D.rep c d v):bq c N (my s dst d) (a.put dst v).tmps:=by
 cases dst with
 | none=>exact h
 | some t=>
  have:=(h.sl).put (t:=t) (by exact hd) hv;exact⟨this.size,this.get⟩
theorem bq.ME{tmps:Array Value}(h:bq c N s tmps){j:Nat}{x:Value}(hj:lk s j=some (.fr (.vl x))):bq c N ((j,.fr (.vl x)) :: s) tmps:=by
 refine⟨h.size,fun k d hk=>?_⟩;rw[bW] at hk
 by_cases e:j=k
 ·subst e;rw[bj] at hk
  cases hk;exact h.get _ _ hj
 ·rw[aF e] at hk;exact h.get k d hk
end
end Go.Vc
namespace Go.Km
open Go Go.RowKit Go.Vc
open Go.Sl hiding lk
section
variable {c:Cf} {N:Nat} {s:List (Nat×D)}
theorem Dp:∀(l:List D) (i j:Nat) (d:D),lk (mD i l) j=some d→i≤j∧l[j - i]?=some d
 | [],_,_,_,h=>by simp[mD,lk] at h
 | x :: l,i,j,d,h=>by
  simp only[mD,lk] at h
  cases hb:Nat.beq i j with
  | true=>
   rw[hb] at h;simp at h;have:i=j:=Nat.eq_of_beq_eq_true hb;subst this;simp[h]
  | false=>
   rw[hb] at h;obtain⟨h1,h2⟩:=Dp l (i+1) j d h;refine⟨by omega,?_⟩;rw[show j - i=(j - (i+1))+1 by omega];simpa using h2
theorem nJ{l:List D}{vs:List Value}(hvs:D.ah c l vs)(hN:Nat.ble l.length N=true):bq c N (mD 0 l) (vs.toArray++Array.replicate (N - vs.toArray.size) undef):=by
 have hlen:=D.aW hvs;have hle:=Nat.le_of_ble_eq_true hN;refine⟨by simp;omega,fun k d hk=>?_⟩;obtain⟨_,h2⟩:=Dp l 0 k d hk;obtain⟨u,hu,hx⟩:=D.bT hvs h2;simp only[Nat.sub_zero] at hu;have hlt:=(List.getElem?_eq_some_iff.1 hu).1;have e:(vs.toArray++Array.replicate (N - vs.toArray.size) undef).getD k undef=u:=by
  simp only[Array.getD_eq_getD_getElem?,Array.getElem?_append,List.getElem?_toArray,List.size_toArray,hlt,if_true,hu,Option.getD_some]
 rw[e];exact hx
theorem nb:∀{ps:List Nat} {ds:List D} {vs:List Value} {s:List (Nat×D)} {tmps:Array Value},bq c N s tmps→D.ah c ds vs→ds.length=ps.length→(∀p∈ps,p<N)→
  bq c N (z9 ps ds s) ((ps.zip vs).foldl (fun t (p:Nat×Value)=>t.setIfInBounds p.1 p.2) tmps)
 | [],ds,vs,s,tmps,hs,hd,hl,hp=>by simpa [z9] using hs
 | p :: ps,[],vs,s,tmps,hs,hd,hl,hp=>by simp at hl
 | p :: ps,d :: ds,vs,s,tmps,hs,hd,hl,hp=>by
  unfold D.ah at hd;obtain⟨u,us,rfl,hu,hus⟩:=hd;simp only[z9,List.zip_cons_cons,List.foldl_cons];refine nb (s:=(p,d) :: s) ?_ hus (by simpa using hl) (fun q hq=>hp q (by simp[hq]));have:=bq.put (a:=⟨tmps,[]⟩) hs (dst:=some p) (d:=d) (v:=u) (by simp only[dOk];exact Nat.blt_eq.mpr (hp p (by simp))) hu;exact this
end
variable {P:Program} {X:Tx} (hX:j5 P X) {W:Bs} {cs0:List Frame} {f0:Nat} {r:sQ} (hΓ:GOk X.Γ W.c)
variable {R:Type} {al:Al R} {T:R→Prop} (hb:ux al T) {K:Cfg→R} (hK:∀g,T (K g)→Snd P W cs0 f0 r g) {O:Orc R} (hO:vz P X T O)
section
variable {c:Cf} {Ow:Nat→Nat→Prop} {w:World} {f N nx:Nat} {s:List (Nat×D)} {k:List KI} {ds:List (Nat×Nat)} {gro:Option (Nat×Nat)} {gcs:List Fm} {gh:List (Nat×B)}
 {a:Act} {todo:List Item} {ro:Option Nat} {frs:List Frame}
include hK in
theorem lJ{g':Cfg}{m:Machine}{c':Cf}{O':Nat→Nat→Prop}{fr':Frame}{frs':List Frame}{w':World}(h:T (K g'))(hs:Steps P m (lone fr' (frs'++cs0) w'))(hr:Rl W f0 g' c' O' fr' frs' w'):eY P W cs0 f0 r m:=
 eY.of_steps hs (hK g' h _ _ _ _ _ hr)
theorem du{f N N':Nat}{s s':List (Nat×D)}{k k':List KI}{ds ds':List (Nat×Nat)}{ro ro':Option (Nat×Nat)}{gcs:List Fm}:eE ⟨f,N,s,k,ds,ro⟩ gcs=eE ⟨f,N',s',k',ds',ro'⟩ gcs:=by
 cases gcs<;>rfl
include hK in
theorem n9 {k':List KI} {todo':List Item} (h:T (K ⟨⟨f,N,s,k',ds,gro⟩,gcs,gh,nx⟩))
  (hs:bq c N s a.tmps) (hm:bx c ds a.defers) (hro:jE c gro ro) (hcs:Fms c gcs frs) (hp:Hp c Ow (lk gh) w) (hold:Old W c Ow w) (hbot:eE ⟨f,N,s,k,ds,gro⟩ gcs=f0)
  (hk':KIs c k' todo') (hst:step P (lone ((bF f ro).atR a todo) (frs++cs0) w)=.next (lone ((bF f ro).atR a todo') (frs++cs0) w)):eY P W cs0 f0 r (lone ((bF f ro).atR a todo) (frs++cs0) w):=
 lJ hK h (.one hst) ⟨⟨a,todo',ro,rfl,hs,hk',hm,hro⟩,hcs,hp,hold,by rw[←hbot];exact du⟩
theorem yk{ops:Array Oper}{o:Oper}{l:List Oper}{it:Item}(h:(KI.reg ops (o :: l)).ok c it):∃i il,it=.inRegion ops (i :: il)∧ops[i]?=some o∧(KI.reg ops l).ok c (.inRegion ops il):=by
 obtain⟨il,rfl,h⟩:=h
 cases il with
 | nil=>simp at h
 | cons i il=>
  simp only[List.map_cons,List.cons.injEq] at h;exact⟨i,il,rfl,h.1,il,rfl,h.2⟩
theorem Je(ops:Array Oper):(KI.reg ops ops.toList).ok c (.inRegion ops (List.range ops.size)):=by
 refine⟨_,rfl,?_⟩;apply List.ext_getElem?;intro j
 by_cases hj:j<ops.size
 ·simp[hj,List.getElem?_range hj]
 ·rw[List.getElem?_eq_none (by simpa using hj),List.getElem?_eq_none (by simpa using hj)]
include hΓ in
theorem gok(hold:Old W c Ow w):GOk X.Γ c:=hΓ.ext hold.le
include hK in
theorem Hd {o:Oper} {ops:Array Oper} {l:List Oper} {i:Nat} {il:List Nat} {t':List Item} (hd:dOk N o.dst=true)
  (hs:bq c N s a.tmps) (hm:bx c ds a.defers) (hro:jE c gro ro) (hcs:Fms c gcs frs) (hp:Hp c Ow (lk gh) w) (hold:Old W c Ow w) (hbot:eE ⟨f,N,s,k,ds,gro⟩ gcs=f0)
  (ho:ops[i]?=some o) (hil:(KI.reg ops l).ok c (.inRegion ops il)) (hk:KIs c k t') (hw:Region.wanted o (yielded ops a.tmps)=true)
  (hL:aw P o a w (Res W (lk gh) c fun d rd e=>T (K ⟨⟨f,N,my s o.dst d,.reg ops l :: k,ds,gro⟩,gcs,e++gh,nx+1⟩))) :
  eY P W cs0 f0 r (lone ((bF f ro).atR a (.inRegion ops (i :: il) :: t')) (frs++cs0) w):=by
 obtain⟨v,w',⟨d,rd,e,c',O',h1,h2,h3,h4,h5⟩,hst⟩:=Ae (ro:=ro) (k:=t') (cs:=frs++cs0) (rest:=il) (f:=f) ho hw hL;refine lJ hK h1 hst ⟨⟨a.put o.dst v,_,ro,rfl,(hs.le h2).put hd h3,⟨_,t',rfl,hil.le h2,hk.le h2⟩,?_,hro.le h2⟩,hcs.le h2,by rw[p7];exact h4,h5,by rw[←hbot];exact du⟩;have:(a.put o.dst v).defers=a.defers:=by cases o.dst<;>rfl
 rw[this];exact hm.le h2
include hb hK in
theorem nK {c1:Fm} {fr1:Frame} {d:D} {v:Value} {m:Machine} (h:T (jA al K c1 d gcs gh nx)) (hfm:tC c c1 fr1) (hd:D.rep c d v) (hcs:Fms c gcs frs) (hp:Hp c Ow (lk gh) w) (hold:Old W c Ow w) (hbot:eE c1 gcs=f0)
  (hst:Steps P m (lone (fr1.finish v) (frs++cs0) w)):eY P W cs0 f0 r m:=by
 obtain⟨a,todo,ro,rfl,hs,hk,hm,hro⟩:=hfm;unfold jA at h
 split at h
 ·rename_i ops o l k hk0;obtain⟨h1,hx⟩:=aA hb h;clear h;rw[hk0] at hk;obtain⟨it,t',rfl,hit,hk⟩:=hk;obtain⟨i,il,rfl,ho,hil⟩:=yk hit;rw[fw ho] at hst;refine lJ hK hx hst ⟨⟨a.put o.dst v,_,ro,rfl,hs.put h1 hd,⟨_,t',rfl,hil,hk⟩,?_,hro⟩,hcs,hp,hold,by rw[←hbot];exact du⟩;have:(a.put o.dst v).defers=a.defers:=by cases o.dst<;>rfl
  rw[this];exact hm
 ·rename_i b v1 k hk0;rw[hk0] at hk;obtain⟨it,t',rfl,⟨g,rfl,hg⟩,hk⟩:=hk;rw[finish_atR_inRangeFunc] at hst;exact lJ hK h hst ⟨⟨a,_,ro,rfl,hs,⟨_,t',rfl,⟨g,rfl,hg⟩,hk⟩,hm,hro⟩,hcs,hp,hold,by rw[←hbot];exact du⟩
 ·exact(hb.bot h).elim
include hΓ hO hK hX hb in
theorem pn {g:FuncId} {l:List D} {vs:List Value} {m:Machine} {fr1:Frame} {fm1:Fm} {frs1:List Frame} {gcs1:List Fm} (h:T (eP al X O K g l (fm1 :: gcs1) gh nx))
  (hvs:D.ah c l vs) (hfm:tC c fm1 fr1) (hcs:Fms c gcs1 frs1) (hp:Hp c Ow (lk gh) w) (hold:Old W c Ow w) (hbot:eE fm1 gcs1=f0)
  (hst:CF P g→Steps P m (lone (Frame.enter P g vs.toArray .normal) (fr1 :: (frs1++cs0)) w)):eY P W cs0 f0 r m:=by
 unfold eP at h
 cases hh:X.hp g with
 | true=>
  rw[hh] at h;obtain⟨d,rd,e,h2,hT⟩:=hO.he _ _ _ _ _ h;obtain⟨hcf,hcall⟩:=h2.go _ (fun _ _=>rfl) W c Ow w vs (gok hΓ hold) hp hold hvs;obtain⟨e',w',fr',⟨v,rfl,d',rd',e2,c',O',⟨rfl,rfl,rfl⟩,k2,k3,k4,k5⟩,kc,kf,kl⟩:=hcall (fr1 :: (frs1++cs0));refine nK hb hK hT (hfm.le k2) k3 (hcs.le k2) (by rw[p7];exact k4) k5 hbot ((hst hcf).trans (Steps.trans kc (.one ?_)));exact step_leave_returned kl
 | false=>
 rw[hh] at h;simp only[cond_false] at h
 split at h
 ·rename_i fi hfi;obtain⟨h1,h⟩:=aA hb h;obtain⟨hcf,fn,hfn,hbd,hN,hrs⟩:=hX.fi _ _ hfi;have hs:=hst hcf;rw[s5 hfn hbd,hN] at hs;exact lJ hK (frs':=fr1 :: frs1) h hs ⟨⟨_,[.code fi.body],none,rfl,nJ hvs h1,⟨_,_,rfl,rfl,rfl⟩,rfl,rfl⟩,⟨fr1,frs1,rfl,hfm,hcs⟩,hp,hold,hbot⟩
 ·exact(hb.bot h).elim
end
end Go.Km
end
section
namespace Go.Km
open Go Go.RowKit Go.Vc
open Go.Sl hiding lk
section
variable {P:Program} {X:Tx} (hX:j5 P X) {W:Bs} {cs0:List Frame} {f0:Nat} {r:sQ} (hΓ:GOk X.Γ W.c)
variable {R:Type} {al:Al R} {T:R→Prop} (hb:ux al T) {K:Cfg→R} (hK:∀g,T (K g)→Snd P W cs0 f0 r g)
 {O:Orc R} (hO:vz P X T O) {fin:D→List (Nat×B)→R} (hfin:∀d h,T (fin d h)→r d h)
section
variable {c:Cf} {Ow:Nat→Nat→Prop} {w:World} {f N nx:Nat} {s:List (Nat×D)} {k:List KI} {ds:List (Nat×Nat)} {gro:Option (Nat×Nat)} {gcs:List Fm} {gh:List (Nat×B)}
 {a:Act} {todo:List Item} {ro:Option Nat} {frs:List Frame}
include hX hb hO in
theorem pT{t:Nat}{η:Env}{g:FuncId}{l:List D}{k:Kr R}(h:T (kh al X O false t η g l k)):rh P X.Γ η g l (fun d rd e=>T (k d rd e)):=by
 unfold kh at h
 split at h
 ·obtain⟨d,rd,e,h2,hk⟩:=hO.he _ _ _ _ _ h;exact⟨fun W c O w vs g1 g2 g3 g4=>(h2.go η (fun _ _=>rfl) W c O w vs g1 g2 g3 g4).imp id fun q=>q.mono fun e w' ⟨v,h3,h4⟩=>⟨v,h3,Res.to h4 hk⟩⟩
 split at h
 ·rename_i kd hbd
  split at h
  ·rename_i d rd e he;refine⟨fun W c O w vs g1 g2 g3 g4=>?_⟩;obtain⟨q1,q2⟩:=hX.bd g kd hbd t η l d rd e he W c O w vs g2 g3 g4;exact⟨q1,q2.mono fun e w' ⟨v,h3,h4⟩=>⟨v,h3,Res.to h4 h⟩⟩
  ·exact(hb.bot h).elim
 ·split at h
  ·rename_i fl is hm;obtain⟨x,hp,h⟩:=hO.pu _ _ _ h
   cases hf:(x.1.flat||x.2) with
   | true=>rw[hf] at h;exact rh.look hm hp (by simpa using hf) h
   | false=>rw[hf] at h;exact rh.mO hm hp h
  ·exact(hb.bot h).elim
include hb hO in
theorem Gk{t:Nat}{η:Env}{g:FuncId}{l:List D}{k:Kr R}(h:T (kh al X O true t η g l k)):GD2 P X t η g l (fun d rd e=>T (k d rd e)):=by
 unfold kh at h
 split at h
 ·exact .inr (hO.he _ _ _ _ _ h)
 refine .inl ?_
 split at h
 ·rename_i kd hbd
  split at h
  ·rename_i d rd e he;exact .inr ⟨kd,hbd,d,rd,e,he,h⟩
  ·exact(hb.bot h).elim
 rename_i hbd;refine .inl ⟨hbd,?_⟩
 split at h
 ·rename_i fl is hm;obtain⟨x,hp,h⟩:=hO.pu _ _ _ h
  cases hf:(x.1.flat||x.2) with
  | true=>rw[hf] at h;exact GDr.mO hm hp (.inr (by simpa using hf)) h
  | false=>
   rw[hf] at h
   cases is with
   | nil=>exact GDr.mO hm hp (.inl rfl) h
   | cons i is=>exact(hb.bot h).elim
 ·exact(hb.bot h).elim
theorem lZ(hs:bq c N s a.tmps)(hg:GOk X.Γ c){args:Array Operand}{l:List D}(hl:jq (args.toList.map (evD X.Γ s))=some l):D.ah c l (args.map a.eval).toList:=by
 have:=jX (a:=a) (c:=c) (fun x d hx=>mm (hs.sl) hg hx) hl;simpa using this
include hX hΓ hb hK hO in
theorem z6 {o:Oper} {ops:Array Oper} {l:List Oper} {i:Nat} {il:List Nat} {t':List Item} {k0:List KI} (h:T (uM al X O K ⟨⟨f,N,s,k0,ds,gro⟩,gcs,gh,nx⟩ o ops l k))
  (hs:bq c N s a.tmps) (hm:bx c ds a.defers) (hro:jE c gro ro) (hcs:Fms c gcs frs) (hp:Hp c Ow (lk gh) w) (hold:Old W c Ow w) (hbot:eE ⟨f,N,s,k,ds,gro⟩ gcs=f0)
  (ho:ops[i]?=some o) (hil:(KI.reg ops l).ok c (.inRegion ops il)) (hk:KIs c k t') (hw:Region.wanted o (yielded ops a.tmps)=true) :
  eY P W cs0 f0 r (lone ((bF f ro).atR a (.inRegion ops (i :: il) :: t')) (frs++cs0) w):=by
 have hg:GOk X.Γ c:=gok hΓ hold;have hρ:∀x d,evD X.Γ s x=some d→D.rep c d (a.eval x):=fun x d hx=>mm hs.sl hg hx
 simp only[uM] at h;obtain⟨hd,h⟩:=aA hb h;have hil0:(KI.reg ops (o :: l)).ok c (.inRegion ops (i :: il)):=by
  obtain⟨il',e,h1⟩:=hil
  cases e;exact⟨_,rfl,by simp[ho,h1]⟩
 have hfm:tC c ⟨f,N,s,.reg ops (o :: l) :: k,ds,gro⟩ ((bF f ro).atR a (.inRegion ops (i :: il) :: t')):=
  ⟨a,_,ro,rfl,hs,⟨_,t',rfl,hil0,hk⟩,hm,hro⟩
 have hbot':eE ⟨f,N,s,.reg ops (o :: l) :: k,ds,gro⟩ gcs=f0:=by rw[←hbot];exact du
 split at h
 ·rename_i x args tys hop;have viaG:∀{g:FuncId} {l1:List D},Vc.wpOp X.E (lk gh) nx (fun _=>rh P X.Γ) (evD X.Γ s) o.op (fun d rd e=>T (K ⟨⟨f,N,my s o.dst d,.reg ops l :: k,ds,gro⟩,gcs,e++gh,nx+1⟩))→
    eY P W cs0 f0 r (lone ((bF f ro).atR a (.inRegion ops (i :: il) :: t')) (frs++cs0) w):=fun h=>
   Hd hK hd hs hm hro hcs hp hold hbot ho hil hk hw (Ko (n:=⟨N,a.defers⟩) hX.deep BF hg hs.sl hX.E hp hold h)
  split at h
  ·rename_i g cs1 l1 hx hl;have hfv:=hρ x _ hx;unfold D.rep at hfv;obtain⟨vs,hfe,hvs⟩:=hfv;have hl1:=lZ hs hg hl;generalize hpu:(X.hp g||Nat.blt 0 (X.bd g)||(X.pu g && !gU _))=q at h
   cases q with
   | true=>
    refine viaG (g:=g) (l1:=l1) ?_;rw[hop];simp only[Vc.wpOp,dT,hx,hl];exact pT hX hb hO h
   | false=>
    refine pn hX hΓ hb hK hO (vs:=(args.map a.eval).toList++vs) h (D.bJ hl1 hvs) hfm hcs hp hold hbot' fun hcf=>.one ?_;have:=hcf.run (args.map a.eval++vs.toArray) w;refine ir ho hw ?_;simp[execOp,hop,resolve,Deferred.ofValue,hfe,invoke,this,←Array.toList_map]
  ·rename_i g cs1 l1 hx hl;have hfv:=hρ x _ hx;unfold D.rep F.rep at hfv;obtain⟨vs,hfe,hvs⟩:=hfv;have hl1:=lZ hs hg hl;generalize hpu:(X.hp g||Nat.blt 0 (X.bd g)||(X.pu g && !gU _))=q at h
   cases q with
   | true=>
    refine viaG (g:=g) (l1:=l1) ?_;rw[hop];simp only[Vc.wpOp,dT,hx,hl];exact pT hX hb hO h
   | false=>
    refine pn hX hΓ hb hK hO (vs:=(args.map a.eval).toList++vs) h (D.bJ hl1 (jt hvs)) hfm hcs hp hold hbot' fun hcf=>.one ?_;have:=hcf.run (args.map a.eval++vs.toArray) w;refine ir ho hw ?_;simp[execOp,hop,resolve,Deferred.ofValue,hfe,invoke,this,←Array.toList_map]
  ·rename_i g fs1 cs1 l1 hx hl;have hfv:=hρ x _ hx;unfold D.rep at hfv;obtain⟨us,vs,hfe,hus,hvs⟩:=hfv;have hl1:=lZ hs hg hl;have hall:=D.bJ (D.bJ hus hl1) hvs;have hent:CF P g→(execOp a.eval o).run P w=.ok (.enter g (us++(args.map a.eval).toList++vs).toArray) w:=fun hcf=>by
    have:=hcf.run ((us.toArray++args.map a.eval)++vs.toArray) w;have e:(us++(args.map a.eval).toList++vs).toArray=(us.toArray++args.map a.eval)++vs.toArray:=by
     apply Array.ext';simp
    rw[e];rw[Array.append_assoc] at this ⊢;simp[execOp,hop,resolve,Deferred.ofValue,hfe,invoke,this]
   generalize hpu:(X.hp g||Nat.blt 0 (X.bd g)||(X.pu g && !gU _))=q at h
   cases q with
   | true=>
    obtain⟨hcf,hcall⟩:=(pT hX hb hO h).go W c Ow w _ hg hp hold hall;exact Hd hK hd hs hm hro hcs hp hold hbot ho hil hk hw (aw.wR (hent hcf) hcall)
   | false=>exact pn hX hΓ hb hK hO (vs:=us++(args.map a.eval).toList++vs) h hall hfm hcs hp hold hbot' fun hcf=>.one (ir ho hw (hent hcf))
  ·rename_i b v l1 hx hl;have hfv:=hρ x _ hx;unfold D.rep at hfv;obtain⟨g,hgι,hfe⟩:=hfv;have hl1:=lZ hs hg hl
   split at h
   ·rename_i v' L hlp;obtain⟨h1,hx1⟩:=aA hb h;clear h;simp only[Bool.and_eq_true] at h1;obtain⟨⟨h1,h2⟩,h3⟩:=h1;have h1:=Nat.eq_of_beq_eq_true h1;have h2:=Nat.eq_of_beq_eq_true h2;subst h1;rw[List.all_eq_true] at h3;obtain⟨g',L',gd,e1,e2,e3,e4,e5,e6,e7,e8,e9,e10,e11,e12⟩:=hp.pc b _ hlp;rw[hgι] at e1
    cases e1;have hsz:(args.map a.eval).size=L'.params.size:=by
     rw[e7];have:=D.aW hl1;simp at this ⊢;omega
    have hy:=run_yield (P:=P) (w:=w) e3 hsz;have hst:step P (lone ((bF f ro).atR a (.inRegion ops (i :: il) :: t')) (frs++cs0) w)=_:=sX (cs:=frs++cs0) (k:=t') (f:=f) (ro:=ro) (rest:=il) ho hw (by simp[execOp,hop,resolve,Deferred.ofValue,hfe,invoke];exact hy);rw[e6,e8,e9] at hst;refine lJ hK (frs':=_ :: frs) hx1 (.one hst) ⟨⟨⟨_,[]⟩,[.code L.asg,.beginRound,.code L.body],some g,rfl,?_,⟨_,_,rfl,rfl,_,_,rfl,rfl,_,_,rfl,rfl,rfl⟩,rfl,g,rfl,hgι⟩,⟨_,frs,rfl,hfm,hcs⟩,hp,hold,hbot'⟩;have hz:=nb (N:=L.N) (ps:=L.ps) e10 hl1 (by rw[h2]) (fun p hp=>bD (h3 p hp));simp only[e7];have e:∀(ps:List Nat) (vs:List Value) (t:Array Value),Array.foldl (fun tmps (x:Tmp×Value)=>tmps.setIfInBounds x.1 x.2) t (ps.toArray.zip vs.toArray)=(ps.zip vs).foldl (fun t (p:Nat×Value)=>t.setIfInBounds p.1 p.2) t:=by
     intro ps vs t;rw[←Array.foldl_toList,Array.toList_zip]
    have e':=e L.ps (args.map a.eval).toList L'.tmps;simp only[Array.toArray_toList] at e';show bq c L.N _ (Array.foldl (fun tmps (x:Tmp×Value)=>tmps.setIfInBounds x.1 x.2) L'.tmps (L.ps.toArray.zip (args.map a.eval)))
    rw[e'];exact hz
   ·rename_i v' A0 hab;obtain⟨h1,h⟩:=aA hb h;obtain⟨d,rd,e,hy,hT⟩:=hO.ye _ _ _ _ _ _ h;obtain⟨L,hL,hsz,hrun⟩:=(hy.go _ (fun _ _=>rfl) W c Ow w _ g hg hp hold hl1 hgι).go;have hy:=run_yield (P:=P) (w:=w) (args:=args.map a.eval) hL (by simpa using hsz);have hst:step P (lone ((bF f ro).atR a (.inRegion ops (i :: il) :: t')) (frs++cs0) w)=_:=sX (cs:=frs++cs0) (k:=t') (f:=f) (ro:=ro) (rest:=il) ho hw (by simp[execOp,hop,resolve,Deferred.ofValue,hfe,invoke];exact hy);obtain⟨u,w',⟨d',rd',e',c',O',⟨rfl,rfl,rfl⟩,k2,k3,k4,k5⟩,hst2⟩:=hrun ((bF f ro).atR a (.inRegion ops (i :: il) :: t')) (frs++cs0);rw[fw ho] at hst2;simp only[Array.toArray_toList] at hst2;refine lJ hK hT (.head hst hst2) ⟨⟨a.put o.dst u,_,ro,rfl,(hs.le k2).put hd k3,⟨_,t',rfl,hil.le k2,hk.le k2⟩,?_,hro.le k2⟩,hcs.le k2,by rw[p7];exact k4,k5,by rw[←hbot];exact du⟩;have:(a.put o.dst u).defers=a.defers:=by cases o.dst<;>rfl
    rw[this];exact hm.le k2
   ·exact(hb.bot h).elim
  ·exact(hb.bot h).elim
 ·refine Hd (nx:=nx) hK hd hs hm hro hcs hp hold hbot ho hil hk hw (F1 (G:=fun _ _ _ _ _=>False) (n:=⟨N,a.defers⟩) (t:=nx) hX.Q hX.deep (fun _ _ _ _ _ h=>h.elim) hg hs.sl hX.E hp hold ?_);exact J8 hb (fun _ _ _ _ _ h=>(hb.bot h).elim) h
end
end
section
variable {P:Program} {c:Cf} {w:World} {Ow:Nat→Nat→Prop} {W:Bs}
theorem rk {h:List (Nat×B)} {b g:Nat} {o o':Obj} {x x':B} (hp:Hp c Ow (lk h) w) (hold:Old W c Ow w) (hx:lk h b=some x) (hv:x'.ver=x.ver) (hS:Ow b g) (hw:w.heap[g]?=some o)
  (hx':∀w',w'.heap[g]?=some o'→x'.on c b (Ow b) w'):∃O',Hp c O' (lk ((b,x') :: h)) (w.putObj g o')∧Old W c O' (w.putObj g o'):=by
 have hlt:g<w.heap.size:=(Array.getElem?_eq_some_iff.1 hw).1;have hc:Chg w (w.putObj g o') (Ow b):=⟨rfl,rfl,rfl,by simp,fun j _ hn=>World.putObj_heap_other (fun e=>hn (by subst e;exact hS))⟩
 refine⟨_,hp.upd hc (fun j hj=>.inl hj) (Cf.le.refl c) rfl rfl (hp.cq hx hv) (hx' _ (World.putObj_heap_same hlt)),hold.upd hc (fun j hj=>.inl hj) rfl rfl⟩
theorem DT{f:Nat}{tmps:Array Value}{todo:List Item}{g:Nat}{ds:List Deferred}{cs:List Frame}{w':World}(h:(Instr.takeDeferred g).run P w=.ok [] w') :
  step P (lone { (bF f none).atR ⟨tmps,{ target:=.collected g,args:=#[] } :: ds⟩ todo with mode:=.returning } cs w)=.next (lone { (bF f none).atR ⟨tmps,ds⟩ todo with mode:=.returning } cs w'):=
 step_lone_go (by simp[Go.stepG,Go.unwind,Frame.atR,bF,Sem.runT_eq,h,GStep.bare_after])
theorem HU{f:Nat}{tmps:Array Value}{todo:List Item}{cs:List Frame}{h:List (Nat×B)}{b:Nat}{x:B}{ds:List Deferred}(hp:Hp c Ow (lk h) w)(hold:Old W c Ow w)(hb:lk h b=some x){gs:List Nat}(hn:gs.Nodup)(hg:∀g∈gs,Ow b g∧w.heap[g]?=some (.deferred (some []))) :
  ∃w' O',Hp c O' (lk ((b,.gone x.ver) :: h)) w'∧Old W c O' w'∧Steps P (lone { (bF f none).atR ⟨tmps,gs.map (fun g=>{ target:=.collected g,args:=#[] })++ds⟩ todo with mode:=.returning } cs w) (lone { (bF f none).atR ⟨tmps,ds⟩ todo with mode:=.returning } cs w'):=by
 have key:∀(gs:List Nat) (w:World),gs.Nodup→(∀g∈gs,Ow b g∧w.heap[g]?=some (.deferred (some [])))→∃w',Chg w w' (Ow b)∧Steps P (lone { (bF f none).atR ⟨tmps,gs.map (fun g=>{ target:=.collected g,args:=#[] })++ds⟩ todo with mode:=.returning } cs w) (lone { (bF f none).atR ⟨tmps,ds⟩ todo with mode:=.returning } cs w'):=by
  intro gs
  induction gs with
  | nil=>exact fun w _ _=>⟨w,Chg.refl,Steps.refl _ _⟩
  | cons g gs ih=>
   intro w hn hg;obtain⟨h1,h2⟩:=hg g (by simp);have hlt:g<w.heap.size:=(Array.getElem?_eq_some_iff.1 h2).1;have hc:Chg w (w.putObj g (.deferred none)) (Ow b):=⟨rfl,rfl,rfl,by simp,fun j _ hn=>World.putObj_heap_other (fun e=>hn (by subst e;exact h1))⟩
   obtain⟨w',k1,k2⟩:=ih (w.putObj g (.deferred none)) (List.nodup_cons.1 hn).2 fun g' hg'=>⟨(hg g' (by simp[hg'])).1,by
    have hne:g≠g':=fun e=>(List.nodup_cons.1 hn).1 (by rw[e];exact hg')
    rw[World.putObj_heap_other (Ne.symm hne)];exact(hg g' (by simp[hg'])).2⟩
   exact⟨w',⟨k1.os.trans hc.os,k1.tape.trans hc.tape,k1.output.trans hc.output,Nat.le_trans hc.size k1.size,fun j hj hn=>(k1.block j (Nat.lt_of_lt_of_le hj hc.size) hn).trans (hc.block j hj hn)⟩,.head (DT (run_takeDeferred h2)) k2⟩
 obtain⟨w',hc,hs⟩:=key gs w hn hg;exact⟨w',_,hp.upd hc (fun j hj=>.inl hj) (Cf.le.refl c) rfl rfl (hp.cq hb rfl) (x':=.gone x.ver) (S':=Ow b) trivial,hold.upd hc (fun j hj=>.inl hj) rfl rfl,hs⟩
theorem sU{f:Nat}{tmps:Array Value}{todo:List Item}{cs:List Frame}:∀{l:List (Nat×Nat)} {h h':List (Nat×B)} {ds:List Deferred} {w:World} {Ow:Nat→Nat→Prop},sw l h=some h'→bx c l ds→Hp c Ow (lk h) w→Old W c Ow w→
  ∃w' O',Hp c O' (lk h') w'∧Old W c O' w'∧Steps P (lone { (bF f none).atR ⟨tmps,ds⟩ todo with mode:=.returning } cs w) (lone { (bF f none).atR ⟨tmps,[]⟩ todo with mode:=.returning } cs w')
 | [],h,h',ds,w,Ow,ht,hm,hp,hold=>by
  have hm:ds=[]:=hm;subst hm;simp[sw] at ht;subst ht;exact⟨w,Ow,hp,hold,Steps.refl _ _⟩
 | (b,v) :: l,h,h',ds,w,Ow,ht,⟨gs,ds',e,hg,hm⟩,hp,hold=>by
  subst e;simp only[sw] at ht
  split at ht
  ·rename_i v' hb
   cases hv:Nat.beq v v' with
   | false=>rw[hv] at ht;cases ht
   | true=>
    rw[hv] at ht;simp only[cond_true] at ht;have:=Nat.eq_of_beq_eq_true hv;subst this;obtain⟨gs',h1,h2,h3⟩:=hp.pc b _ hb;have:=AtM.eq hg h1;subst this;obtain⟨w1,O1,p1,p2,p3⟩:=HU (P:=P) (f:=f) (tmps:=tmps) (todo:=todo) (cs:=cs) (ds:=ds') hp hold hb h2 h3;obtain⟨w2,O2,q1,q2,q3⟩:=sU (f:=f) (tmps:=tmps) (todo:=todo) (cs:=cs) ht hm p1 p2;exact⟨w2,O2,q1,q2,p3.trans q3⟩
  ·cases ht
end
section
variable {c:Cf} {w:World} {O:Nat→Nat→Prop} {η:Env}
theorem nw{Z Z':Nat→Prop}{w w':World}:∀{l:List (List F)} {us:List (List Value)},l.all F.flat.lG=true→F.aG Z w l us→F.aG Z' w' l us
 | [],us,_,h=>by unfold F.aG at h ⊢;exact h
 | x :: l,us,hf,h=>by
  unfold F.aG at h ⊢;simp only[List.all_cons,Bool.and_eq_true] at hf;obtain⟨u,us',h1,h2,h3⟩:=h;exact⟨u,us',h1,jr x u hf.1 h2,nw hf.2 h3⟩
theorem HZ{p:List F→Bool}{rows:List (List F)}(h:rows.all p=true)(lo hi:Nat):((rows.take hi).drop lo).all p=true:=by
 rw[List.all_eq_true] at h ⊢;exact fun r hr=>h r (List.mem_of_mem_take (List.mem_of_mem_drop hr))
theorem u9(hp:Hp c O η w)(ids:List Nat):∀(m:Nat) (d:D) (x:F) (is:List Nat) (u:Value),D.toF η m d=some (x,is)→(∀b∈is,b∈ids)→cD η d=true→D.rep c d u→F.rep (fun g=>∃b,b∈ids∧O b g) w x u
 | 0,d,x,is,u,h,_,_,_=>by simp[D.toF] at h
 | m+1,d,x,is,u,h,hi,hf,hr=>by
  have ih:=u9 hp ids m;have many:∀(l:List D) (fl:List F) (is:List Nat) (us:List Value),cz (D.toF η m) l=some (fl,is)→(∀b∈is,b∈ids)→mg η l=true→D.ah c l us→F.ah (fun g=>∃b,b∈ids∧O b g) w fl us:=by
   intro l
   induction l with
   | nil=>
    intro fl is us h1 h2 h3 h4;simp[cz] at h1;unfold D.ah at h4;rw[h1.1,h4];simp[F.ah]
   | cons y l ihl=>
    intro fl is us h1 h2 h3 h4;simp only[cz] at h1;simp only[mg,Bool.and_eq_true] at h3;unfold D.ah at h4;obtain⟨u,us',rfl,h5,h6⟩:=h4
    split at h1
    ·rename_i yf i ys is' e1 e2
     cases h1;unfold F.ah;exact⟨u,us',rfl,ih y yf i u e1 (fun b hb=>h2 b (by simp[hb])) h3.1 h5,ihl ys is' us' e2 (fun b hb=>h2 b (by simp[hb])) h3.2 h6⟩
    ·cases h1
  cases d with
  | fr y=>
   simp only[D.toF,Option.some.injEq,Prod.mk.injEq] at h;rw[←h.1];unfold D.rep at hr;have hfl:y.flat=true:=by simpa [cD] using hf
   exact F.AW (ta y u hfl hr)
  | ag l=>
   simp only[D.toF] at h
   split at h
   ·rename_i fl is' e1
    cases h;unfold D.rep at hr;obtain⟨vs,rfl,hvs⟩:=hr;unfold F.rep;exact⟨vs,rfl,many l fl is vs e1 hi (by simpa [cD] using hf) hvs⟩
   ·cases h
  | tp l=>
   simp only[D.toF] at h
   split at h
   ·rename_i fl is' e1
    cases h;unfold D.rep at hr;obtain⟨vs,rfl,hvs⟩:=hr;unfold F.rep;exact⟨vs,rfl,many l fl is vs e1 hi (by simpa [cD] using hf) hvs⟩
   ·cases h
  | cl f l=>
   simp only[D.toF] at h
   split at h
   ·rename_i fl is' e1
    cases h;unfold D.rep at hr;obtain⟨vs,rfl,hvs⟩:=hr;unfold F.rep;exact⟨vs,rfl,many l fl is vs e1 hi (by simpa [cD] using hf) hvs⟩
   ·cases h
  | own b v=>
   simp only[D.toF] at h;simp only[cD] at hf
   split at h
   ·rename_i v' e sz rows hb;rw[hb] at hf;simp only at hf
    cases hv:Nat.beq v v' with
    | false=>simp[hv] at h
    | true=>
     simp only[hv,cond_true] at h;have hv':=Nat.eq_of_beq_eq_true hv;subst hv'
     cases h;unfold D.rep at hr;obtain⟨A,m',k',hA,rfl⟩:=hr;obtain⟨A',k2,vr,hA',hvr,hone,hown⟩:=hp.pc b _ hb;rw[hA] at hA'
     cases hA';unfold F.rep;exact⟨A,k',vr,sz,rfl,rL hown,(own.arr hown).mono (fun g hg=>⟨b,hi b (by simp),hg⟩),hone,nw hf hvr⟩
   ·cases h
  | sub b v sz lo hi' ex=>
   simp only[D.toF] at h;simp only[cD] at hf
   split at h
   ·rename_i v' e sz' rows hb;rw[hb] at hf;simp only at hf
    cases hv:(Nat.beq v v'&&Nat.beq sz sz') with
    | false=>simp[hv] at h
    | true=>
     simp only[hv,cond_true] at h;rw[Bool.and_eq_true] at hv;have hv':=Nat.eq_of_beq_eq_true hv.1;have hs':=Nat.eq_of_beq_eq_true hv.2;subst hv';subst hs'
     cases h;unfold D.rep at hr;obtain⟨A,m',k',hA,h1,h2,h3,A2,rfl,hA2⟩:=hr;obtain⟨A',k2,vr,hA',hvr,hone,hown⟩:=hp.pc b _ hb;rw[hA] at hA'
     cases hA';have harr:Arr sz (fun g=>∃b,b∈ids∧O b g) w A rows.length vr:=(own.arr hown).mono (fun g hg=>⟨b,hi b (by simp),hg⟩);have harr':=Arr.vJ (A':=A2) harr h1 h2 (fun hlt=>hA2 (.inr (by cases ex<;>simp<;>omega)));unfold F.rep;have hl:((rows.take hi').drop lo).length=hi' - lo:=by rw[List.length_drop,List.length_take,Nat.min_eq_left h2]
     refine⟨_,_,(vr.take hi').drop lo,sz,by rw[hl],?_,by rw[hl];exact harr',fun r hr=>hone r (List.mem_of_mem_take (List.mem_of_mem_drop hr)),nw (HZ hf _ _) (F.dL _ (F.cT _ hvr))⟩;rw[hl]
     cases ex<;>simp<;>omega
   ·cases h
  | ptr b v o=>simp[cD] at hf
  | rp b v sz i o=>simp[cD] at hf
  | mv b v=>simp[cD] at hf
  | yl b v=>simp[cD] at hf
  | fx rows=>simp[cD] at hf
  | mcl f fs cs=>simp[cD] at hf
end
section
variable {P:Program} {X:Tx} (hX:j5 P X) {W:Bs} {cs0:List Frame} {f0:Nat} {r:sQ} (hΓ:GOk X.Γ W.c)
variable {R:Type} {al:Al R} {T:R→Prop} (hb:ux al T) {K:Cfg→R} (hK:∀g,T (K g)→Snd P W cs0 f0 r g)
 {O:Orc R} (hO:vz P X T O) {fin:D→List (Nat×B)→R} (hfin:∀d h,T (fin d h)→r d h)
section
variable {c:Cf} {Ow:Nat→Nat→Prop} {w:World} {f N nx:Nat} {s:List (Nat×D)} {k:List KI} {ds:List (Nat×Nat)} {gro:Option (Nat×Nat)} {gcs:List Fm} {gh:List (Nat×B)}
 {a:Act} {todo:List Item} {ro:Option Nat} {frs:List Frame}
include hX hb hK hfin in
theorem C0 {m:Machine} (h:T (D6 al X fin K ⟨⟨f,N,s,k,ds,gro⟩,gcs,gh,nx⟩)) (hs:bq c N s a.tmps) (hm:bx c ds a.defers) (hcs:Fms c gcs frs) (hp:Hp c Ow (lk gh) w) (hold:Old W c Ow w) (hbot:eE ⟨f,N,s,k,ds,gro⟩ gcs=f0)
  (hst:Steps P m (lone { (bF f none).atR a todo with mode:=.returning } (frs++cs0) w)):eY P W cs0 f0 r m:=by
 unfold D6 at h
 split at h
 ·rename_i fi h1 hfi ht
  split at h
  ·rename_i dl hdl;obtain⟨w1,O1,hp1,hold1,hst1⟩:=sU (P:=P) (f:=f) (tmps:=a.tmps) (todo:=todo) (cs:=frs++cs0) ht hm hp hold;obtain⟨_,fn,hfn,hbd,hN,hrs⟩:=hX.fi _ _ hfi;have hXc:XOk P ⟨X.Q,0,X.E,X.Γ,fun _ _ _ _ _=>False,fun _=>GDr P X.Γ,N⟩:=⟨hX.E,(fun _ _ _ _ _ h=>h.elim),vT,B9,hX.mixed,hX.deep,hX.Q⟩
   have hIs:Is W ⟨N,[]⟩ ⟨s,h1⟩ ⟨a.tmps,[]⟩ w1 c O1:=⟨(bq.sl (a:=⟨a.tmps,[]⟩) hs),hp1,hold1⟩
   obtain⟨us,hu1,hu2⟩:=vA hXc hIs hdl;have hu3:=I3 hu2;have hres:(results fn a.tmps).run P w1=.ok (pF us) w1:=by
    rw[tZ,show fn.results=fn.results.toList.toArray by simp,Sem.run_bind,List.mapM_toArray,Sem.run_map,hrs,hu1];simp only[Result.andThen_ok,Sem.run_pure]
    match us with
    | []=>simp[pF]
    | [u]=>simp[pF]
    | u :: u' :: l=>simp[pF]
   have hleave:Frame.leaving P { (bF f none).atR ⟨a.tmps,[]⟩ todo with mode:=.returning } w1 (.returned (pF us)):=⟨rfl,rfl,rfl,fn,hfn,hres⟩
   cases gcs with
   | nil=>
    have hcs:frs=[]:=hcs;subst hcs;simp only at h;obtain⟨hok,h⟩:=aA hb h;exact .inl ⟨pF us,w1,_,oL dl,h1,c,O1,hst.trans hst1,hbot,hleave,hfin _ _ h,hu3,hp1,hold1,hok⟩
   | cons c1 cs1=>
    simp only at h;obtain⟨fr1,frs1,rfl,hfm,hcs1⟩:=hcs;refine nK hb hK h hfm hu3 hcs1 hp1 hold1 hbot (hst.trans (hst1.trans (.one ?_)));exact step_leave_returned hleave
  ·exact(hb.bot h).elim
 ·exact(hb.bot h).elim
end
end
section
variable {P:Program} {X:Tx} (hX:j5 P X) {W:Bs} {cs0:List Frame} {f0:Nat} {r:sQ} (hΓ:GOk X.Γ W.c)
variable {R:Type} {al:Al R} {T:R→Prop} (hb:ux al T) {K:Cfg→R} (hK:∀g,T (K g)→Snd P W cs0 f0 r g)
 {O:Orc R} (hO:vz P X T O) {fin:D→List (Nat×B)→R} (hfin:∀d h,T (fin d h)→r d h)
section
variable {c:Cf} {Ow:Nat→Nat→Prop} {w:World} {f N nx:Nat} {s:List (Nat×D)} {k:List KI} {ds:List (Nat×Nat)} {gro:Option (Nat×Nat)} {gcs:List Fm} {gh:List (Nat×B)}
 {a:Act} {todo:List Item} {ro:Option Nat} {frs:List Frame}
include hX hb hK hfin in
theorem lM {j:Option Code} (h:T (kZ al X fin K ⟨⟨f,N,s,k,ds,gro⟩,gcs,gh,nx⟩ j)) (hs:bq c N s a.tmps) (hm:bx c ds a.defers) (hro:jE c gro ro) (hcs:Fms c gcs frs) (hp:Hp c Ow (lk gh) w) (hold:Old W c Ow w) (hbot:eE ⟨f,N,s,k,ds,gro⟩ gcs=f0)
  (hret:(j=none∨j=some .ret)→step P (lone ((bF f none).atR a todo) (frs++cs0) w)=.next (lone { (bF f none).atR a todo with mode:=.returning } (frs++cs0) w))
  (hround:∀l v w' c1 cs,(Instr.endRound l j).run P w=.ok v w'→step P (lone ((bF f (some l)).atR a todo) (c1 :: cs) w)=.next (lone (c1.finish v) cs w')) :
  eY P W cs0 f0 r (lone ((bF f ro).atR a todo) (frs++cs0) w):=by
 unfold kZ at h
 cases gro with
 | none=>
  have hro:ro=none:=hro;subst hro;simp only at h
  split at h
  ·exact C0 hX hb hK hfin h hs hm hcs hp hold hbot (.one (hret (.inl rfl)))
  ·exact C0 hX hb hK hfin h hs hm hcs hp hold hbot (.one (hret (.inr rfl)))
  ·exact(hb.bot h).elim
 | some p=>
  obtain⟨b,v⟩:=p;obtain⟨g,rfl,hg⟩:=hro;simp only at h
  split at h
  ·rename_i v' L c1 cs1 hlp;obtain⟨h1,hx⟩:=aA hb h;clear h;have h1:=Nat.eq_of_beq_eq_true h1;subst h1;obtain⟨g',L',gd,e1,e2,e3,e4,e5,e6,e7,e8,e9,e10,e11,e12⟩:=hp.pc b _ hlp;have hg:c.ι b v=some (some ⟨g,0,none⟩,0,0):=hg;rw[hg] at e1
   cases e1;obtain⟨fr1,frs1,rfl,hfm,hcs1⟩:=hcs;have hr:=run_endRound (P:=P) j e3;obtain⟨O',hp',hold'⟩:=rk (o':=.loop { L' with state:=if j.isNone then .ready else .done,pending:=j }) (x':=.lp v { L with st:=bif j.isNone then 0 else 2,gI:=j }) hp hold hlp rfl e2 e3
    (fun w' hw'=>⟨g,_,gd,hg,e2,hw',by cases j<;>rfl,rfl,e6,e7,e8,e9,e10,e11,e12⟩)
   exact nK hb hK hx hfm (aV _) hcs1 hp' hold' hbot (.one (hround _ _ _ _ _ hr))
  ·rename_i v' L hlp;obtain⟨h1,hx⟩:=aA hb h;clear h;have h1:=Nat.eq_of_beq_eq_true h1;subst h1;obtain⟨g',L',gd,e1,e2,e3,e4,e5,e6,e7,e8,e9,e10,e11,e12⟩:=hp.pc b _ hlp;have hg:c.ι b v=some (some ⟨g,0,none⟩,0,0):=hg;rw[hg] at e1
   cases e1;have hcs:frs=[]:=hcs;subst hcs;have hr:=run_endRound (P:=P) j e3;obtain⟨O',hp',hold'⟩:=rk (o':=.loop { L' with state:=if j.isNone then .ready else .done,pending:=j }) (x':=.lp v { L with st:=bif j.isNone then 0 else 2,gI:=j }) hp hold hlp rfl e2 e3
    (fun w' hw'=>⟨g,_,gd,hg,e2,hw',by cases j<;>rfl,rfl,e6,e7,e8,e9,e10,e11,e12⟩)
   exact .inr ⟨j.isNone,_,_,c,O',fun fr1 cs1 e=>by subst e;exact .one (hround _ _ _ _ _ hr),hfin _ _ hx,hp',hold'⟩
  ·exact(hb.bot h).elim
theorem Da{s:List (Nat×D)}{j:Nat}{d:D}(h:lk s j=some d):lk ((j,d) :: s)=lk s:=by
 funext i
 rw[bW]
 by_cases e:j=i
 ·subst e;rw[bj,h]
 ·rw[aF e]
include hb hO in
theorem vx{ops:Array Oper}{Kf:List (Nat×D)→List (Nat×B)→R}(G:CG):∀(l:List Oper) (i:Nat) (acc:List Ac) (s:List (Nat×D)) (h:List (Nat×B)) (σ:Sl'),(∀j,l[j]?=ops[i+j]?)→acc.length=i→lk s=σ→T (oJ al X O N nx ops Kf acc l s h)→
  ∃acs:List Ac,okD ops (acc.reverse++acs)=true∧uu ⟨X.Q,nx,X.E,X.Γ,G,GD2 P X,N⟩ ops (acc.reverse++acs) (fun σ η=>∃s' h',lk s'=σ∧lk h'=η∧T (Kf s' h')) (List.range' i l.length) σ (lk h)
 | [],i,acc,s,h,σ,hl,hi,es,ht=>by
  simp only[oJ] at ht;obtain⟨h1,ht⟩:=aA hb ht;exact⟨[],by simpa using h1,⟨s,h,es,rfl,ht⟩⟩
 | o :: l,i,acc,s,h,σ,hl,hi,es,ht=>by
  have h0:ops[i]?=some o:=by simpa using (hl 0).symm
  have hl':∀j,l[j]?=ops[(i+1)+j]?:=fun j=>by have:=hl (j+1);simpa [Nat.add_assoc,Nat.add_comm 1 j] using this
  simp only[oJ] at ht;obtain⟨hd,ht⟩:=aA hb ht;have hd':yv ⟨X.Q,nx,X.E,X.Γ,G,GD2 P X,N⟩ o.dst=true:=by cases hdst:o.dst<;>simp only[yv]<;>(rw[hdst] at hd;exact hd)
  have fin:∀(ac:Ac) (d:D) (e:List (Nat×B)) (s:List (Nat×D)),ac.d=d→ac.e=e→lk s=σ→VA ⟨X.Q,nx,X.E,X.Γ,G,GD2 P X,N⟩ ops o ac σ (lk h)→T (oJ al X O N nx ops Kf (ac :: acc) l (my s o.dst d) (e++h))→
    ∃acs:List Ac,okD ops (acc.reverse++acs)=true∧uu ⟨X.Q,nx,X.E,X.Γ,G,GD2 P X,N⟩ ops (acc.reverse++acs) (fun σ η=>∃s' h',lk s'=σ∧lk h'=η∧T (Kf s' h')) (List.range' i (l.length+1)) σ (lk h):=by
   intro ac d e s e1 e2 es hv hw;subst e1;subst e2;obtain⟨acs,g1,g2⟩:=vx G l (i+1) (ac :: acc) _ _ (apS o ac σ) hl' (by simp[hi]) (by
    unfold apS
    cases hdst:o.dst with
    | none=>exact es
    | some t=>show lk ((t,ac.d) :: s)=up σ t ac.d;rw[bW,es]) hw
   have e3:(ac :: acc).reverse++acs=acc.reverse++ac :: acs:=by simp
   rw[e3] at g1 g2;refine⟨ac :: acs,g1,?_⟩;rw[List.range'_succ];refine⟨o,ac,h0,?_,hv,?_⟩
   ·rw[List.getElem?_append_right (by simp[hi])];simp[hi]
   ·rw[p7] at g2;exact g2
  have yes:∀{s:List (Nat×D)},lk s=σ→zA ⟨X.Q,nx,X.E,X.Γ,G,GD2 P X,N⟩ ops o σ→T (opG al X.E (lk h) (nx+o.dst.getD 0) X.Q (kh al X O true) (evD X.Γ s) o.op fun d rd e=>oJ al X O N nx ops Kf (.ex d rd e :: acc) l (my s o.dst d) (e++h))→
    ∃acs:List Ac,okD ops (acc.reverse++acs)=true∧uu ⟨X.Q,nx,X.E,X.Γ,G,GD2 P X,N⟩ ops (acc.reverse++acs) (fun σ η=>∃s' h',lk s'=σ∧lk h'=η∧T (Kf s' h')) (List.range' i (l.length+1)) σ (lk h):=by
   intro s es hg ht;have h2:=J8 (T:=T) (G:=GD2 P X) hb (fun t η f l k h=>Gk hb hO h) ht;obtain⟨d,rd,e,g1,g2⟩:=ru Dk h2;refine fin (.ex d rd e) d e s rfl rfl es ⟨hd',hg,?_⟩ g1;have:=g2 (lk h) (evF X.Γ σ) (fun x _=>by rw[←es,LH]) (fun _ _=>rfl);exact this
  split at ht
  ·rename_i hg;exact yes es (by simp[zA,hg]) ht
  ·rename_i j want hg
   split at ht
   ·rename_i dj hj;obtain⟨hN,ht⟩:=aA hb ht
    split at ht
    ·rename_i b hbj;obtain⟨h1,h2⟩:=Cd hb ht
     by_cases e:b=want
     ·subst e;have:=h1 (by cases b<;>rfl);refine yes (s:=(dj,.fr (.vl (.bool b))) :: s) (by rw[Da hbj,es]) ?_ this;simp only[zA,hg];exact⟨dj,hj,hN,by rw[←es];exact hbj⟩
     ·have e':b=!want:=by cases b<;>cases want<;>simp_all
      have h2:=h2 (by rw[e'];cases want<;>rfl);rw[←e'] at h2;refine fin .sk Un [] _ rfl rfl (by rw[Da hbj,es]) ⟨hd',?_⟩ h2;simp only[gno,hg];exact⟨dj,hj,hN,.inl (by rw[←es,hbj,e'])⟩
    ·rename_i vs hbj;refine fin .sk Un [] _ rfl rfl es ⟨hd',?_⟩ ht;simp only[gno,hg];exact⟨dj,hj,hN,.inr ⟨vs,by rw[←es];exact hbj⟩⟩
    ·exact(hb.bot ht).elim
   ·exact(hb.bot ht).elim
theorem v7{ops:Array Oper}(h:pj ops=true)(i:Nat)(o:Oper)(ho:ops[i]?=some o)(d:Call):o.op≠.defer d:=by
 unfold pj at h;rw[List.all_eq_true] at h;have:=h o (by
  have:=Array.mem_of_getElem? ho;simpa using this)
 intro e;rw[e] at this
 cases this
include hX hΓ hb hK hO in
theorem Fy {id:Nat} {ops:Array Oper} {t':List Item} (hnd:pj ops=true) (h:T (oJ al X O N nx ops (fun s h=>K ⟨⟨f,N,s,k,ds,gro⟩,gcs,h,nx+N⟩) [] ops.toList s gh))
  (hs:bq c N s a.tmps) (hm:bx c ds a.defers) (hro:jE c gro ro) (hcs:Fms c gcs frs) (hp:Hp c Ow (lk gh) w) (hold:Old W c Ow w) (hbot:eE ⟨f,N,s,k,ds,gro⟩ gcs=f0) (hk:KIs c k t') :
  eY P W cs0 f0 r (lone ((bF f ro).atR a (.code (.region id ops true) :: t')) (frs++cs0) w):=by
 obtain⟨acs,g1,g2⟩:=vx hb hO (fun _ _ _ _ _=>False) ops.toList 0 [] s gh (lk s) (fun j=>by simp) rfl rfl h;simp only[List.reverse_nil,List.nil_append] at g1 g2;have hXc:XOk P ⟨X.Q,nx,X.E,X.Γ,fun _ _ _ _ _=>False,GD2 P X,N⟩:=⟨hX.E,(fun _ _ _ _ _ h=>h.elim),DP hX,Dk,hX.mixed,hX.deep,hX.Q⟩
 have hIs:Is W ⟨N,a.defers⟩ ⟨s,gh⟩ a w c Ow:=⟨hs.sl,hp,hold⟩
 have hany:=Aa (J:=fun c'=>c.le c') (Q:=fun e a' w'=>e=.normal∧∃σ η c' O',(∃s' h',lk s'=σ∧lk h'=η∧T (K ⟨⟨f,N,s',k,ds,gro⟩,gcs,h',nx+N⟩))∧IsF W ⟨N,a.defers⟩ σ η a' w' c' O'∧c.le c') (fun _ _ h1 h2=>h2.trans h1) (Cf.le.refl c) hXc hΓ rfl
  (fun σ η a w c' O' hj hk hf=>⟨rfl,σ,η,c',O',hk,hf,hj⟩) hIs g1 g2
 have hlist:=wpAny_sound ops.size (w.tape w.drawn (.order f id)) _ a _ hany;obtain⟨a',w',⟨σ,η,c',O',⟨s',h',rfl,rfl,hT⟩,hf,hle⟩,hst⟩:=s6 (f:=f) (ro:=ro) (k:=t') (cs:=frs++cs0) (v7 hnd) (N:=fun a' w'=>∃σ η c' O',(∃s' h',lk s'=σ∧lk h'=η∧T (K ⟨⟨f,N,s',k,ds,gro⟩,gcs,h',nx+N⟩))∧IsF W ⟨N,a.defers⟩ σ η a' w' c' O'∧c.le c') (fun e a w h=>h) _ a _ hlist;refine lJ hK hT (.head ?_ hst) ⟨⟨a',t',ro,rfl,⟨hf.size,hf.get⟩,hk.le hle,by rw[hf.defers];exact hm.le hle,hro.le hle⟩,hcs.le hle,hf.hp,hf.old,by rw[←hbot];exact du⟩;rw[stepR_region_draw];simp only[Region.schedule,hX.mixed,Bool.true_or,if_true];rfl
end
end
section
variable {c:Cf} {w:World} {Ow:Nat→Nat→Prop} {W:Bs}
theorem we {h:List (Nat×B)} {b:Nat} {o:Obj} {x:B} (hp:Hp c Ow (lk h) w) (hold:Old W c Ow w) (hv:x.ver=nv (lk h) b)
  (hx:∀c' S w',c.le c'→c'.ι b (nv (lk h) b)=some (some ⟨w.heap.size,0,none⟩,0,0)→S w.heap.size→w'.heap[w.heap.size]?=some o→x.on c' b S w') :
  ∃c' O',c.le c'∧c'.ι b (nv (lk h) b)=some (some ⟨w.heap.size,0,none⟩,0,0)∧Hp c' O' (lk ((b,x) :: h)) (w.alloc o)∧Old W c' O' (w.alloc o):=by
 have hfr:=hp.fresh b;have hle:c.le (c.add b (nv (lk h) b) (some ⟨w.heap.size,0,none⟩,0,0)):=Cf.eT hfr;have hc:Chg w (w.alloc o) (Ow b):=⟨rfl,rfl,rfl,by simp,fun j hj _=>Below.heap_alloc w o j hj⟩
 have hnew:∀g,(g=w.heap.size)→Ow b g∨(w.heap.size≤g∧g<(w.alloc o).heap.size):=fun g hg=>.inr ⟨by omega,by subst hg;simp⟩
 exact⟨_,_,hle,Cf.cY,hp.upd hc (S':=fun g=>g=w.heap.size) hnew hle rfl rfl (hp.cF hv) (hx _ _ _ hle Cf.cY rfl (World.alloc_heap_new w o)),hold.upd hc hnew rfl rfl⟩
end
section
variable {P:Program} {X:Tx} (hX:j5 P X) {W:Bs} {cs0:List Frame} {f0:Nat} {r:sQ} (hΓ:GOk X.Γ W.c)
variable {R:Type} {al:Al R} {T:R→Prop} (hb:ux al T) {K:Cfg→R} (hK:∀g,T (K g)→Snd P W cs0 f0 r g)
 {O:Orc R} (hO:vz P X T O) {fin:D→List (Nat×B)→R} (hfin:∀d h,T (fin d h)→r d h)
section
variable {c:Cf} {Ow:Nat→Nat→Prop} {w:World} {f N nx:Nat} {s:List (Nat×D)} {k:List KI} {ds:List (Nat×Nat)} {gro:Option (Nat×Nat)} {gcs:List Fm} {gh:List (Nat×B)}
 {a:Act} {todo:List Item} {ro:Option Nat} {frs:List Frame}
theorem Ah{f:Nat}{d:D}{u:Value}{g:FuncId}{l:Nat}{cs1:List D}(hd:D.rep c d u)(hc:d=.cl g cs1∨∃fs,d=.fr (.cl g fs)∧cs1=fs.map F.toD)(hcf:∀{P:Program},CF P g→CF P g) :
  ∃vs,u=.func (.func g) #[] vs.toArray∧D.ah c cs1 vs:=by
 rcases hc with rfl|⟨fs,rfl,rfl⟩
 ·unfold D.rep at hd;obtain⟨vs,h1,h2⟩:=hd;exact⟨vs,h1,h2⟩
 ·unfold D.rep F.rep at hd;obtain⟨vs,h1,h2⟩:=hd;exact⟨vs,h1,jt h2⟩
include hX hΓ hb hK hO in
theorem Ed {x:Operand} {ps:Array Tmp} {asg body:Code} {t':List Item}
  (h:T (stepG al X O fin K ⟨⟨f,N,s,.code (.rangeFunc x ps asg body) :: k,ds,gro⟩,gcs,gh,nx⟩))
  (hs:bq c N s a.tmps) (hm:bx c ds a.defers) (hro:jE c gro ro) (hcs:Fms c gcs frs) (hp:Hp c Ow (lk gh) w) (hold:Old W c Ow w) (hbot:eE ⟨f,N,s,k,ds,gro⟩ gcs=f0) (hk:KIs c k t') :
  eY P W cs0 f0 r (lone ((bF f ro).atR a (.code (.rangeFunc x ps asg body) :: t')) (frs++cs0) w):=by
 have hg:GOk X.Γ c:=gok hΓ hold;simp only[stepG] at h
 split at h
 ·rename_i d hx;have hfv:D.rep c d (a.eval x):=mm hs.sl hg hx;have fin_:∀{g:FuncId} {cs1:List D} {c2:Cf} {O2:Nat→Nat→Prop} {w2:World} {l:Nat} {b v:Nat} {h2:List (Nat×B)} {nx2:Nat} {mark:List Deferred} {fm2:Fm},(d=.cl g cs1∨∃fs,d=.fr (.cl g fs)∧cs1=fs.map F.toD)→
    T (eP al X O K g (.yl b v :: cs1) (fm2 :: gcs) h2 nx2)→c.le c2→At0 c2 b v l→Hp c2 O2 (lk h2) w2→Old W c2 O2 w2→tC c2 fm2 ((bF f ro).atR { a with defers:=mark++a.defers } (.inRangeFunc l :: t'))→eE fm2 gcs=f0→
    (Instr.enterLoop f a.tmps ps asg body ro).run P w=.ok (l,mark) w2→eY P W cs0 f0 r (lone ((bF f ro).atR a (.code (.rangeFunc x ps asg body) :: t')) (frs++cs0) w):=by
   intro g cs1 c2 O2 w2 l b v h2 nx2 mark fm2 hd hT hle hat hp2 hold2 hfm hbot2 hent;obtain⟨vs,hv1,hv2⟩:=Ah (f:=f) (l:=l) hfv hd (fun h=>h);refine pn hX hΓ hb hK hO (vs:=.func (.yield l) #[] #[] :: vs) hT ⟨_,vs,rfl,?_,D.ah.le hle _ _ hv2⟩ hfm (hcs.le hle) hp2 hold2 hbot2 fun hcf=>.one ?_
   ·unfold D.rep;exact⟨l,hat,rfl⟩
   ·refine stepR_rangeFunc (b:=bF f ro) (d:={ target:=.fn (.func g) vs.toArray,args:=#[.func (.yield l) #[] #[]] }) (w₁':=w2) hent ?_ ?_
    ·simp only[resolve,rangeCall];rw[hv1];simp[Deferred.ofValue,Act.eval]
    ·have:=hcf.run (#[.func (.yield l) #[] #[]]++vs.toArray) w2;simpa [invoke] using this
  cases gro with
  | none=>
   have hro:ro=none:=hro;subst hro;simp only at h;obtain⟨c1,O1,l1,a1,p1,o1⟩:=we (o:=.deferred (some [])) (b:=nx) (x:=.df (nv (lk gh) nx)) hp hold rfl (fun c' S w' _ h1 h2 h3=>⟨[w.heap.size],.inl ⟨_,rfl,h1⟩,by simp,fun g hg=>by simp at hg;subst hg;exact⟨h2,h3⟩⟩);obtain⟨c2,O2,l2,a2,p2,o2⟩:=we (o:=.loop { state:=.ready,pending:=none,fn:=f,tmps:=a.tmps,params:=ps,assign:=asg,body,defers:=w.heap.size }) (b:=nx+1)
    (x:=.lp (nv (lk ((nx,.df (nv (lk gh) nx)) :: gh)) (nx+1)) ⟨0,none,f,N,s,ps.toList,asg,body,nx,nv (lk gh) nx⟩) p1 o1 rfl
    (fun c' S w' hle h1 h2 h3=>⟨_,_,w.heap.size,h1,h2,h3,rfl,rfl,rfl,by simp,rfl,rfl,(hs.le l1).le hle,hle.ι _ _ _ a1,rfl⟩)
   have hent:=run_enterLoop_outer (P:=P) (w:=w) f a.tmps ps asg body;have hle:=l1.trans l2;rw[World.size_alloc] at a2;have key:∀{g:FuncId} {cs1:List D},(d=.cl g cs1∨∃fs,d=.fr (.cl g fs)∧cs1=fs.map F.toD)→T (eP al X O K g (.yl (nx+1) (nv (up (lk gh) nx (.df (nv (lk gh) nx))) (nx+1)) :: cs1)
     (⟨f,N,s,.rf (nx+1) (nv (up (lk gh) nx (.df (nv (lk gh) nx))) (nx+1)) :: k,(nx,nv (lk gh) nx) :: ds,none⟩ :: gcs)
     ((nx+1,.lp (nv (up (lk gh) nx (.df (nv (lk gh) nx))) (nx+1)) ⟨0,none,f,N,s,ps.toList,asg,body,nx,nv (lk gh) nx⟩) :: (nx,.df (nv (lk gh) nx)) :: gh) (nx+2))→
     eY P W cs0 f0 r (lone ((bF f none).atR a (.code (.rangeFunc x ps asg body) :: t')) (frs++cs0) w):=fun hd hT=>
    fin_ (l:=w.heap.size+1) hd hT hle a2 p2 o2 ⟨_,_,none,rfl,hs.le hle,⟨_,t',rfl,⟨_,rfl,a2⟩,hk.le hle⟩,⟨[w.heap.size],_,rfl,.inl ⟨_,rfl,l2.ι _ _ _ a1⟩,hm.le hle⟩,rfl⟩ (by rw[←hbot];exact du) hent
   split at h
   ·exact key (.inl rfl) h
   ·exact key (.inr ⟨_,rfl,rfl⟩) h
   ·exact(hb.bot h).elim
  | some p=>
   obtain⟨b0,v0⟩:=p;obtain⟨g0,rfl,hg0⟩:=hro;simp only at h
   split at h
   ·rename_i v' L hlp;obtain⟨h1,hx1⟩:=aA hb h;clear h;have h1:=Nat.eq_of_beq_eq_true h1;subst h1;obtain⟨g',L',gd,e1,e2,e3,e4,e5,e6,e7,e8,e9,e10,e11,e12⟩:=hp.pc b0 _ hlp;have hg0:c.ι b0 v0=some (some ⟨g0,0,none⟩,0,0):=hg0;rw[hg0] at e1
    cases e1;obtain⟨c2,O2,l2,a2,p2,o2⟩:=we (o:=.loop { state:=.ready,pending:=none,fn:=f,tmps:=a.tmps,params:=ps,assign:=asg,body,defers:=L'.defers }) (b:=nx)
     (x:=.lp (nv (lk gh) nx) ⟨0,none,f,N,s,ps.toList,asg,body,L.db,L.dv⟩) hp hold rfl
     (fun c' S w' hle h1 h2 h3=>⟨_,_,gd,h1,h2,h3,rfl,rfl,rfl,by simp,rfl,rfl,hs.le hle,hle.ι _ _ _ e11,e12⟩)
    have hent:=run_enterLoop_inner (P:=P) (w:=w) e3 f a.tmps ps asg body;have key:∀{g:FuncId} {cs1:List D},(d=.cl g cs1∨∃fs,d=.fr (.cl g fs)∧cs1=fs.map F.toD)→T (eP al X O K g (.yl nx (nv (lk gh) nx) :: cs1)
      (⟨f,N,s,.rf nx (nv (lk gh) nx) :: k,ds,some (b0,v0)⟩ :: gcs) ((nx,.lp (nv (lk gh) nx) ⟨0,none,f,N,s,ps.toList,asg,body,L.db,L.dv⟩) :: gh) (nx+1))→
      eY P W cs0 f0 r (lone ((bF f (some g0)).atR a (.code (.rangeFunc x ps asg body) :: t')) (frs++cs0) w):=fun hd hT=>
     fin_ (l:=w.heap.size) (mark:=[]) hd hT l2 a2 p2 o2 ⟨_,_,some g0,rfl,hs.le l2,⟨_,t',rfl,⟨_,rfl,a2⟩,hk.le l2⟩,hm.le l2,⟨g0,rfl,l2.ι _ _ _ hg0⟩⟩ (by rw[←hbot];exact du) hent
    split at hx1
    ·exact key (.inl rfl) hx1
    ·exact key (.inr ⟨_,rfl,rfl⟩) hx1
    ·exact(hb.bot hx1).elim
   ·exact(hb.bot h).elim
 ·exact(hb.bot h).elim
theorem Ew{cd:Code}{t':List Item}{m':Machine}(h:eY P W cs0 f0 r (lone ((bF f ro).atR a (.inLoop cd :: t')) (frs++cs0) w)):eY P W cs0 f0 r (lone ((bF f ro).atR a (.code (.loop cd) :: t')) (frs++cs0) w):=by
 have key:∀{fr:Frame} {cs:List Frame} {w':World},Steps P (lone ((bF f ro).atR a (.inLoop cd :: t')) (frs++cs0) w) (lone fr cs w')→(fr.mode=.returning∨cs.length<(frs++cs0).length)→Steps P (lone ((bF f ro).atR a (.code (.loop cd) :: t')) (frs++cs0) w) (lone fr cs w'):=by
  rintro fr cs w' ⟨n,hn⟩ hm
  cases n with
  | zero=>
   simp only[runN] at hn;have e:=congrArg (fun m:Stepped=>match m with | .next m=>(m.gs[0]?).map (fun g:Goroutine=>(g.frame.mode,g.callers.length))|_=>none) hn;simp[lone,Frame.atR] at e;rcases hm with hm|hm
   ·rw[hm] at e
    cases e.1
   ·simp only[List.length_append] at hm;omega
  | succ n=>
   simp only[runN] at hn;rw[stepR_inLoop] at hn;exact .head stepR_loop ⟨n,hn⟩
 rcases h with ⟨v,w',fr,d,hh,c',O',h1,h2,h3,h4⟩|⟨q,w',hh,c',O',h1,h2⟩
 ·exact .inl ⟨v,w',fr,d,hh,c',O',key h1 (.inl h3.1),h2,h3,h4⟩
 ·exact .inr ⟨q,w',hh,c',O',fun fr1 cs1 e=>key (h1 fr1 cs1 e) (.inr (by rw[e];simp;omega)),h2⟩
include hX hΓ hb hK hO hfin in
theorem F9{g:Cfg}(h:T (stepG al X O fin K g)):Snd P W cs0 f0 r g:=by
 intro c Ow fr frs w ⟨⟨a,todo,ro,hfr,hs,hk,hm,hro⟩,hcs,hp,hold,hbot⟩;subst hfr;obtain⟨⟨f,N,s,k,ds,gro⟩,gcs,gh,nx⟩:=g;simp only at hs hk hm hro hcs hp hbot ⊢;have hg:GOk X.Γ c:=gok hΓ hold
 cases k with
 | nil=>
  have hk:todo=[]:=hk;subst hk;exact lM hX hb hK hfin (j:=none) h hs hm hro hcs hp hold hbot (fun _=>stepR_end rfl) (fun l v w' c1 cs hr=>stepR_round_end rfl rfl hr)
 | cons x k=>
  obtain⟨it,t',rfl,hit,hk⟩:=hk;have hbt:∀(k:List KI),eE ⟨f,N,s,k,ds,gro⟩ gcs=f0:=fun k=>by rw[←hbot];exact du
  cases x with
  | code cd=>
   have hit:it=.code cd:=hit;subst hit
   cases cd with
   | skip=>simp only[stepG] at h;exact n9 hK h hs hm hro hcs hp hold (hbt []) hk stepR_skip
   | label l=>simp only[stepG] at h;exact n9 hK h hs hm hro hcs hp hold (hbt []) hk stepR_label
   | seq x y=>simp only[stepG] at h;exact n9 hK h hs hm hro hcs hp hold (hbt []) ⟨_,_,rfl,rfl,_,_,rfl,rfl,hk⟩ stepR_seq
   | cond x y z=>
    simp only[stepG] at h;unfold Gp at h
    split at h
    ·rename_i q hq;have hx:evD X.Γ s x=some (.fr (.vl (.bool q))):=by
      cases he:evD X.Γ s x with
      | none=>rw[he] at hq;cases hq
      | some d=>rw[he] at hq;simp at hq;rw[hq]
     have hv:=aH (mm hs.sl hg hx);have h:=Cd hb h
     cases q with
     | true=>exact n9 hK (h.1 rfl) hs hm hro hcs hp hold (hbt []) ⟨_,_,rfl,rfl,hk⟩ (by rw[stepR_cond hv];rfl)
     | false=>exact n9 hK (h.2 rfl) hs hm hro hcs hp hold (hbt []) ⟨_,_,rfl,rfl,hk⟩ (by rw[stepR_cond hv];rfl)
    ·exact(hb.bot h).elim
   | block id b=>simp only[stepG] at h;exact n9 hK h hs hm hro hcs hp hold (hbt []) ⟨_,_,rfl,rfl,_,_,rfl,rfl,hk⟩ stepR_block
   | loop b=>
    simp only[stepG] at h;exact Ew (m':=lone ((bF f ro).atR a []) [] w) (hK _ h c Ow _ frs w ⟨⟨a,.inLoop b :: t',ro,rfl,hs,⟨_,_,rfl,rfl,hk⟩,hm,hro⟩,hcs,hp,hold,hbt _⟩)
   | scope b=>simp only[stepG] at h;exact n9 hK h hs hm hro hcs hp hold (hbt []) ⟨_,_,rfl,rfl,_,_,rfl,rfl,hk⟩ (step_lone_go (by simp[Go.stepG,Go.stepG.exec,Frame.atR]))
   | exit id=>
    simp only[stepG] at h
    split at h
    ·rename_i k' hk';obtain⟨t2,h1,h2⟩:=eS hk' hk;exact n9 hK h hs hm hro hcs hp hold (hbt []) h2 (stepR_exit h1)
    ·rename_i hk';have h1:=bL hk' hk;exact lM hX hb hK hfin (j:=some (.exit id)) h hs hm hro hcs hp hold (hbt _) (fun e=>by rcases e with e|e<;>cases e) (fun l v w' c1 cs hr=>stepR_round_exit rfl rfl h1 hr)
   | goto l=>
    simp only[stepG] at h
    split at h
    ·rename_i k' hk';obtain⟨t2,h1,h2⟩:=eN hk' hk;exact n9 hK h hs hm hro hcs hp hold (hbt []) h2 (stepR_goto h1)
    ·rename_i hk';have h1:=bM hk' hk;exact lM hX hb hK hfin (j:=some (.goto l)) h hs hm hro hcs hp hold (hbt _) (fun e=>by rcases e with e|e<;>cases e) (fun l v w' c1 cs hr=>stepR_round_goto rfl rfl h1 hr)
   | ret=>simp only[stepG] at h;exact lM hX hb hK hfin (j:=some .ret) h hs hm hro hcs hp hold (hbt _) (fun _=>stepR_ret rfl) (fun l v w' c1 cs hr=>stepR_round_ret rfl rfl hr)
   | region id ops draw=>
    cases draw with
    | false=>simp only[stepG] at h;exact n9 hK h hs hm hro hcs hp hold (hbt []) ⟨_,_,rfl,Je ops,hk⟩ stepR_region
    | true=>
     simp only[stepG] at h;obtain⟨h1,h⟩:=aA hb h;exact Fy hX hΓ hb hK hO h1 h hs hm hro hcs hp hold (hbt _) hk
   | rangeFunc x ps asg body=>exact Ed (fin:=fin) hX hΓ hb hK hO h hs hm hro hcs hp hold (hbt _) hk
   | refuse _=>simp only[stepG] at h;exact(hb.bot h).elim
  | blk id=>have hit:it=.inBlock id:=hit;subst hit;simp only[stepG] at h;exact n9 hK h hs hm hro hcs hp hold (hbt []) hk stepR_inBlock
  | scope cd=>have hit:it=.inScope cd:=hit;subst hit;simp only[stepG] at h;exact n9 hK h hs hm hro hcs hp hold (hbt []) hk (step_lone_go (by simp[Go.stepG,Go.stepG.exec,Frame.atR]))
  | loop cd=>have hit:it=.inLoop cd:=hit;subst hit;simp only[stepG] at h;exact n9 hK h hs hm hro hcs hp hold (hbt []) ⟨_,_,rfl,rfl,_,_,rfl,rfl,hk⟩ stepR_inLoop
  | reg ops l=>
   cases l with
   | nil=>
    obtain⟨il,rfl,hil⟩:=hit;have:il=[]:=by simpa using hil
    subst this;simp only[stepG] at h;exact n9 hK h hs hm hro hcs hp hold (hbt []) hk stepR_region_end
   | cons o l=>
    obtain⟨i,il,rfl,ho,hil⟩:=yk hit;simp only[stepG] at h;have skip:∀{s:List (Nat×D)},bq c N s a.tmps→¬Region.wanted o (yielded ops a.tmps)=true→T (al.ak (dOk N o.dst) (K ⟨⟨f,N,my s o.dst Un,.reg ops l :: k,ds,gro⟩,gcs,gh,nx⟩))→eY P W cs0 f0 r (lone ((bF f ro).atR a (.inRegion ops (i :: il) :: t')) (frs++cs0) w):=by
     intro s hs hw hT;obtain⟨hd,hT⟩:=aA hb hT;have hw':Region.wanted o (yielded ops a.tmps)=false:=by simpa using hw
     have hst:=stepR_op_skip (P:=P) (b:=bF f ro) (a:=a) (k:=t') (cs:=frs++cs0) (w:=w) (ops:=ops) (i:=i) (rest:=il) (by simp[ho,hw']);simp only[ho,Option.bind_some] at hst;refine lJ hK hT (.one hst) ⟨⟨a.put o.dst undef,_,ro,rfl,hs.put hd (aV _),⟨_,t',rfl,hil,hk⟩,?_,hro⟩,hcs,hp,hold,by rw[←hbt []];exact du⟩;have:(a.put o.dst undef).defers=a.defers:=by cases o.dst<;>rfl
     rw[this];exact hm
    split at h
    ·rename_i hgd;exact z6 hX hΓ hb hK hO h hs hm hro hcs hp hold (hbt _) ho hil hk (by simp[Region.wanted,hgd])
    ·rename_i j want hgd
     split at h
     ·rename_i dj hj;obtain⟨hN,h⟩:=aA hb h
      split at h
      ·rename_i b hbj;have hv:=aH (hs.get dj _ hbj);have hy:=cv (ops:=ops) hj (Hu hs.sl) (by rw[CE _ _ _ hbj,hv]) (by exact hN);simp only at hy;obtain⟨h1,h2⟩:=Cd hb h
       by_cases e:b=want
       ·subst e;have h1:=h1 (by cases b<;>rfl);refine z6 hX hΓ hb hK hO h1 (hs.ME hbj) hm hro hcs hp hold (by rw[←hbt []];exact du) ho hil hk ?_;simp only[Region.wanted,hgd,hy];simp
       ·have e':b=!want:=by cases b<;>cases want<;>simp_all
        have h2:=h2 (by rw[e'];cases want<;>rfl);rw[←e'] at h2;refine skip (hs.ME hbj) ?_ h2;simp only[Region.wanted,hgd,hy,e']
        cases want<;>simp
      ·rename_i vs hbj;have hv:=aH (hs.get dj _ hbj);have hy:=cv (ops:=ops) hj (Hu hs.sl) (by rw[CE _ _ _ hbj,hv]) (by exact hN);simp only at hy;refine skip hs ?_ h;simp only[Region.wanted,hgd,hy];simp
      ·exact(hb.bot h).elim
     ·exact(hb.bot h).elim
  | rf b v=>simp only[stepG] at h;exact(hb.bot h).elim
  | erf b v=>
   obtain⟨g,rfl,hgι⟩:=hit;simp only[stepG] at h
   split at h
   ·rename_i v' L hlp;obtain⟨h1,hx1⟩:=aA hb h;clear h;rw[Bool.and_eq_true] at h1;obtain⟨h1,hst⟩:=h1;have h1:=Nat.eq_of_beq_eq_true h1;subst h1;obtain⟨g',L',gd,e1,e2,e3,e4,e5,e6,e7,e8,e9,e10,e11,e12⟩:=hp.pc b _ hlp;have hgι:c.ι b v=some (some ⟨g,0,none⟩,0,0):=hgι;rw[hgι] at e1
    cases e1;have hbusy:L'.state≠.busy:=by
     rw[e4]
     match hl:L.st with
     | 0=>simp[IA]
     | 1=>rw[hl] at hst;simp at hst
     | 2=>simp[IA]
     | n+3=>simp[IA]
    have hr:=run_endLoop (P:=P) e3 hbusy;obtain⟨O',hp',hold'⟩:=rk (o':=.loop { L' with state:=.exhausted }) (x':=.lp v { L with st:=3 }) hp hold hlp rfl e2 e3
     (fun w' hw'=>⟨g,_,gd,hgι,e2,hw',rfl,e5,e6,e7,e8,e9,e10,e11,e12⟩)
    refine lJ hK hx1 (.one (stepR_endRangeFunc hr)) ⟨⟨a,_,ro,rfl,hs,?_,hm,hro⟩,hcs,hp',hold',by rw[←hbt []];exact du⟩;rw[e5]
    cases L.gI with
    | none=>exact hk
    | some j=>exact⟨_,_,rfl,rfl,hk⟩
   ·exact(hb.bot h).elim
  | br=>
   have hit:it=.beginRound:=hit;subst hit;simp only[stepG] at h
   split at h
   ·rename_i b v;obtain⟨g,rfl,hgι⟩:=hro
    split at h
    ·rename_i v' L hlp;obtain⟨h1,hx1⟩:=aA hb h;clear h;rw[Bool.and_eq_true] at h1;obtain⟨h1,hst⟩:=h1;have h1:=Nat.eq_of_beq_eq_true h1;have hst:=Nat.eq_of_beq_eq_true hst;subst h1;obtain⟨g',L',gd,e1,e2,e3,e4,e5,e6,e7,e8,e9,e10,e11,e12⟩:=hp.pc b _ hlp;have hgι:c.ι b v=some (some ⟨g,0,none⟩,0,0):=hgι;rw[hgι] at e1
     cases e1;have hr:=run_beginRound (P:=P) e3 (by rw[e4,hst];rfl);obtain⟨O',hp',hold'⟩:=rk (o':=.loop { L' with state:=.busy }) (x':=.lp v { L with st:=1 }) hp hold hlp rfl e2 e3
      (fun w' hw'=>⟨g,_,gd,hgι,e2,hw',rfl,e5,e6,e7,e8,e9,e10,e11,e12⟩)
     exact lJ hK hx1 (.one (stepR_beginRound rfl hr)) ⟨⟨a,t',some g,rfl,hs,hk,hm,g,rfl,hgι⟩,hcs,hp',hold',by rw[←hbt []];exact du⟩
    ·exact(hb.bot h).elim
   ·exact(hb.bot h).elim
end
end
end Go.Km
end
