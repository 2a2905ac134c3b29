/- The texts that the card needs, part 3. -/
import Derived.Test.YtpbichnnflabdaaGreatDoorPC1
set_option linter.all false
section
namespace Go.Vc
open Go Go.RowKit Go.Sl
def wR(G:CG):Prop:=∀t η f l k,G t η f l k→Loc (fun η k=>G t η f l k) η k
section
variable {η:Env}{k:Ks}{E:TE}{t:Nat}{ρ:Operand→Option D}{G:CG}
abbrev Is3(d:D)(rd:List Nat)(e:List (Nat×B)):Ks:=fun x y z=>x=d∧y=rd∧z=e
theorem fC{ρ':Operand→Option D}:∀{xs:List Operand},(∀x∈xs,ρ' x=ρ x)→xs.map ρ'=xs.map ρ
 |[],_=>rfl
 |x::l,h=>by simp[h x (by simp),fC (xs:=l) (fun y hy=>h y (by simp[hy]))]
theorem kQ{ρ':Operand→Option D}:∀{ps:List (Nat×Operand)},(∀p∈ps,ρ' p.2=ρ p.2)→(ps.map fun p=>(p.1,ρ' p.2))=(ps.map fun p=>(p.1,ρ p.2))
 |[],_=>rfl
 |p::l,h=>by simp[h p (by simp),kQ (ps:=l) (fun y hy=>h y (by simp[hy]))]
theorem Gp(hG:wR G){c:Call}(h:dY E η t G ρ c k):∃d rd e,k d rd e∧∀η' ρ',(∀x∈c.operands.toList,ρ' x=ρ x)→(∀b∈rd,η' b=η b)→dY E η' t G ρ' c (Is3 d rd e):=by
 obtain⟨cal,args,tys⟩:=c;unfold dY at h;simp only at h;have key:∀{x:Operand}{ρ':Operand→Option D},(∀x∈(Call.operands ⟨cal,args,tys⟩).toList,ρ' x=ρ x)→x∈args.toList→ρ' x=ρ x:=by
  intro x ρ' h hx;refine h x ?_;simp only[Call.operands,Array.toList_append,List.mem_append];exact .inr hx
 split at h
 ·split at h
  ·rename_i x t' e1 e2
   split at h
   ·rename_i d hx;obtain⟨d,rd,e,h1,h2⟩:=Ju h;exact⟨d,rd,e,h1,fun η' ρ' hρ hη=>by simp only[dY,e1,e2,key hρ (x:=x) (by rw[e1];simp),hx];exact h2 η' hη⟩
   ·exact h.elim
  ·exact h.elim
 ·split at h
  ·rename_i x y t' t'' e1 e2
   split at h
   ·rename_i d d' hx hy
    replace h:=bB h
    obtain⟨hb,h⟩:=h;obtain⟨d,rd,e,h1,h2⟩:=AL h;exact⟨d,rd,e,h1,fun η' ρ' hρ hη=>by simp only[dY,e1,e2,key hρ (x:=x) (by rw[e1];simp),key hρ (x:=y) (by rw[e1];simp),hx,hy,hb,cond_true];exact h2 η' hη⟩
   ·exact h.elim
  ·exact h.elim
 ·split at h
  ·rename_i x y e1
   split at h
   ·rename_i a1 b1 hx hy;exact⟨_,_,_,h,fun η' ρ' hρ hη=>by simp only[dY,e1,key hρ (x:=x) (by rw[e1];simp),key hρ (x:=y) (by rw[e1];simp),hx,hy];exact⟨by trivial,by trivial,by trivial⟩⟩
   ·exact h.elim
  ·exact h.elim
 ·split at h
  ·rename_i x y e1
   split at h
   ·rename_i a1 b1 hx hy;exact⟨_,_,_,h,fun η' ρ' hρ hη=>by simp only[dY,e1,key hρ (x:=x) (by rw[e1];simp),key hρ (x:=y) (by rw[e1];simp),hx,hy];exact⟨by trivial,by trivial,by trivial⟩⟩
   ·exact h.elim
  ·exact h.elim
 ·rename_i fo;have keyf:∀{ρ':Operand→Option D},(∀x∈(Call.operands ⟨.value fo,args,tys⟩).toList,ρ' x=ρ x)→ρ' fo=ρ fo:=by
   intro ρ' h;exact h fo (by simp[Call.operands])
  split at h
  ·rename_i f cs l hf hl;obtain⟨d,rd,e,h1,h2⟩:=hG _ _ _ _ _ h;exact⟨d,rd,e,h1,fun η' ρ' hρ hη=>by simp only[dY,keyf hρ,hf,fC (xs:=args.toList) (fun x hx=>key hρ hx),hl];exact h2 η' hη⟩
  ·rename_i f cs l hf hl;obtain⟨d,rd,e,h1,h2⟩:=hG _ _ _ _ _ h;exact⟨d,rd,e,h1,fun η' ρ' hρ hη=>by simp only[dY,keyf hρ,hf,fC (xs:=args.toList) (fun x hx=>key hρ hx),hl];exact h2 η' hη⟩
  ·exact h.elim
 ·exact h.elim
theorem K3(hG:wR G){op:Op}(h:wpOp E η t G ρ op k):∃d rd e,k d rd e∧∀η' ρ',(∀x∈op.operands.toList,ρ' x=ρ x)→(∀b∈rd,η' b=η b)→wpOp E η' t G ρ' op (Is3 d rd e):=by
 unfold wpOp at h
 split at h
 ·rename_i x
  split at h
  ·rename_i d hx;exact⟨_,_,_,h,fun η' ρ' hρ hη=>by simp only[wpOp,hρ x (by simp[Op.operands]),hx];exact⟨by trivial,by trivial,by trivial⟩⟩
  ·exact h.elim
 ·rename_i x
  split at h
  ·rename_i d hx;exact⟨_,_,_,h,fun η' ρ' hρ hη=>by simp only[wpOp,hρ x (by simp[Op.operands]),hx];exact⟨by trivial,by trivial,by trivial⟩⟩
  ·exact h.elim
 ·rename_i x y z
  split at h
  ·rename_i q d d' hx hy hz
   cases q with
   |true=>exact⟨_,_,_,h.1 rfl,fun η' ρ' hρ hη=>by simp only[wpOp,hρ x (by simp[Op.operands]),hρ y (by simp[Op.operands]),hρ z (by simp[Op.operands]),hx,hy,hz];exact⟨fun _=>⟨by trivial,by trivial,by trivial⟩,fun h=>(by cases h)⟩⟩
   |false=>exact⟨_,_,_,h.2 rfl,fun η' ρ' hρ hη=>by simp only[wpOp,hρ x (by simp[Op.operands]),hρ y (by simp[Op.operands]),hρ z (by simp[Op.operands]),hx,hy,hz];exact⟨fun h=>(by cases h),fun _=>⟨by trivial,by trivial,by trivial⟩⟩⟩
  ·exact h.elim
 ·rename_i t'
  split at h
  ·rename_i i hi
   replace h:=bB h
   exact⟨_,_,_,h.2,fun η' ρ' hρ hη=>by simp only[wpOp,hi,h.1,cond_true,cM (hη t (by simp))];exact⟨by trivial,by trivial,by trivial⟩⟩
  ·exact h.elim
 ·rename_i t' x
  split at h
  ·rename_i d hx;exact⟨_,_,_,h.2,fun η' ρ' hρ hη=>by simp only[wpOp,hρ x (by simp[Op.operands]),hx,cM (hη t (by simp))];exact⟨h.1,by trivial,by trivial,by trivial⟩⟩
  ·exact h.elim
 ·rename_i t' ps;obtain⟨d,rd,e,h1,h2⟩:=Ej (η:=η) h;exact⟨d,rd,e,h1,fun η' ρ' hρ hη=>by
   have e1:(ps.toList.map fun p=>(p.1,ρ' p.2))=(ps.toList.map fun p=>(p.1,ρ p.2)):=kQ (fun p hp=>hρ p.2 (by simp only[Op.operands,List.mem_map];exact⟨p,hp,rfl⟩));simp only[wpOp,e1];exact h2 η' hη⟩
 ·rename_i t' m ps;obtain⟨d,rd,e,h1,h2⟩:=I7 h;exact⟨d,rd,e,h1,fun η' ρ' hρ hη=>by
   have e1:(ps.toList.map fun p=>(p.1,ρ' p.2))=(ps.toList.map fun p=>(p.1,ρ p.2)):=kQ (fun p hp=>hρ p.2 (by simp only[Op.operands,List.mem_map];exact⟨p,hp,rfl⟩));simp only[wpOp,e1];exact h2 η' hη⟩
 ·rename_i t' x
  split at h
  ·rename_i d0 hx;obtain⟨d,rd,e,h1,h2⟩:=E6 h;exact⟨d,rd,e,h1,fun η' ρ' hρ hη=>by simp only[wpOp,hρ x (by simp[Op.operands]),hx];exact h2 η' hη⟩
  ·exact h.elim
 ·rename_i t' x y
  split at h
  ·rename_i d0 d1 hx hy;obtain⟨d,rd,e,h1,h2⟩:=EL h;exact⟨d,rd,e,h1,fun η' ρ' hρ hη=>by simp only[wpOp,hρ x (by simp[Op.operands]),hρ y (by simp[Op.operands]),hx,hy];exact h2 η' hη⟩
  ·exact h.elim
 ·rename_i x
  split at h
  ·rename_i hx;exact⟨_,_,_,h,fun η' ρ' hρ hη=>by simp only[wpOp,hρ x (by simp[Op.operands]),hx];exact⟨by trivial,by trivial,by trivial⟩⟩
  ·rename_i hx;exact⟨_,_,_,h,fun η' ρ' hρ hη=>by simp only[wpOp,hρ x (by simp[Op.operands]),hx];exact⟨by trivial,by trivial,by trivial⟩⟩
  ·rename_i hx;exact⟨_,_,_,h,fun η' ρ' hρ hη=>by simp only[wpOp,hρ x (by simp[Op.operands]),hx];exact⟨by trivial,by trivial,by trivial⟩⟩
  ·rename_i hx;exact⟨_,_,_,h,fun η' ρ' hρ hη=>by simp only[wpOp,hρ x (by simp[Op.operands]),hx];exact⟨by trivial,by trivial,by trivial⟩⟩
  ·rename_i hx;exact⟨_,_,_,h,fun η' ρ' hρ hη=>by simp only[wpOp,hρ x (by simp[Op.operands]),hx];exact⟨by trivial,by trivial,by trivial⟩⟩
  ·exact h.elim
 ·rename_i op ty x y ty2
  split at h
  ·rename_i d0 d1 hx hy
   split at h
   ·rename_i hi;obtain⟨d,h1,h2⟩:=HI (K:=fun r=>k r [] []) h;refine⟨d,[],[],h1,fun η' ρ' hρ hη=>?_⟩;simp only[wpOp,hρ x (by simp[Op.operands]),hρ y (by simp[Op.operands]),hx,hy,hi];have e1:(fun z=>z=d)=(fun r=>Is3 d [] [] r [] []):=by funext z;simp[Is3]
    rwa [e1]at h2
   ·rename_i sz0 z0 len e esz hi
    split at h
    ·rename_i sz1 z1 ik hie;obtain⟨d,h1,h2⟩:=oD (K:=fun r=>k r [] []) (f:=fun K=>rA ik op d0 d1 K) JE h;refine⟨d,[],[],h1,fun η' ρ' hρ hη=>?_⟩;simp only[wpOp,hρ x (by simp[Op.operands]),hρ y (by simp[Op.operands]),hx,hy,hi,hie];have e1:(fun z=>z=d)=(fun r=>Is3 d [] [] r [] []):=by funext z;simp[Is3]
     rwa [e1]at h2
    ·exact h.elim
   ·rename_i hi hi';obtain⟨d,h1,h2⟩:=JA (K:=fun r=>k r [] []) h;refine⟨d,[],[],h1,fun η' ρ' hρ hη=>?_⟩;simp only[wpOp,hρ x (by simp[Op.operands]),hρ y (by simp[Op.operands]),hx,hy];have e1:(fun z=>z=d)=(fun r=>Is3 d [] [] r [] []):=by funext z;simp[Is3]
    rw[e1]at h2;exact h2
  ·exact h.elim
 ·rename_i op ty x
  split at h
  ·rename_i d0 hx;obtain⟨d,h1,h2⟩:=Le (K:=fun r=>k r [] []) h;refine⟨d,[],[],h1,fun η' ρ' hρ hη=>?_⟩;simp only[wpOp,hρ x (by simp[Op.operands]),hx];have e1:(fun z=>z=d)=(fun r=>Is3 d [] [] r [] []):=by funext z;simp[Is3]
   rwa [e1]at h2
  ·exact h.elim
 ·rename_i t1 t2 x
  split at h
  ·rename_i d0 hx;obtain⟨d,rd,e,h1,h2⟩:=G9 h;exact⟨d,rd,e,h1,fun η' ρ' hρ hη=>by simp only[wpOp,hρ x (by simp[Op.operands]),hx];exact h2 η' hη⟩
  ·exact h.elim
 ·rename_i f fst cap
  split at h
  ·rename_i l hf hl;refine⟨_,_,_,h,fun η' ρ' hρ hη=>?_⟩;have e1:=fC (ρ:=ρ) (ρ':=ρ') (xs:=cap.toList) (fun x hx=>hρ x (by simp only[Op.operands,Array.toList_append,List.mem_append];exact .inr hx));simp only[wpOp,hf,e1,hl];exact⟨by trivial,by trivial,by trivial⟩
  ·exact h.elim
 ·rename_i t' x y
  split at h
  ·rename_i d0 d1 hx hy;obtain⟨d,rd,e,h1,h2⟩:=Iu h;exact⟨d,rd,e,h1,fun η' ρ' hρ hη=>by simp only[wpOp,hρ x (by simp[Op.operands]),hρ y (by simp[Op.operands]),hx,hy];exact h2 η' hη⟩
  ·exact h.elim
 ·rename_i t' x lo hi mx
  split at h
  ·rename_i d0 hx;obtain⟨d,rd,e,h1,h2⟩:=DF (η:=η) h;refine⟨d,rd,e,h1,fun η' ρ' hρ hη=>?_⟩;have e1:dW ρ' lo=dW ρ lo:=by
    cases lo with
    |none=>rfl
    |some y=>simp only[dW,hρ y (by simp[Op.operands])]
   have e2:dW ρ' hi=dW ρ hi:=by
    cases hi with
    |none=>rfl
    |some y=>simp only[dW,hρ y (by simp[Op.operands])]
   simp only[wpOp,hρ x (by simp[Op.operands]),hx,e1,e2];exact h2 η' hη
  ·exact h.elim
 ·rename_i t' x j
  split at h
  ·rename_i d0 hx;obtain⟨d,rd,e,h1,h2⟩:=uE (η:=η) h;exact⟨d,rd,e,h1,fun η' ρ' hρ hη=>by simp only[wpOp,hρ x (by simp[Op.operands]),hx];exact h2 η' hη⟩
  ·exact h.elim
 ·rename_i t' x j
  split at h
  ·rename_i d0 hx;obtain⟨d,rd,e,h1,h2⟩:=EP (η:=η) h;exact⟨d,rd,e,h1,fun η' ρ' hρ hη=>by simp only[wpOp,hρ x (by simp[Op.operands]),hx];exact h2 η' hη⟩
  ·exact h.elim
 ·rename_i t' x y
  split at h
  ·rename_i d0 d1 hx hy;obtain⟨d,rd,e,h1,h2⟩:=uC h;exact⟨d,rd,e,h1,fun η' ρ' hρ hη=>by simp only[wpOp,hρ x (by simp[Op.operands]),hρ y (by simp[Op.operands]),hx,hy];exact h2 η' hη⟩
  ·exact h.elim
 ·rename_i t' x y
  split at h
  ·rename_i d0 d1 hx hy;obtain⟨d,rd,e,h1,h2⟩:=E4 (η:=η) h;exact⟨d,rd,e,h1,fun η' ρ' hρ hη=>by simp only[wpOp,hρ x (by simp[Op.operands]),hρ y (by simp[Op.operands]),hx,hy];exact h2 η' hη⟩
  ·exact h.elim
 ·rename_i x j
  split at h
  ·rename_i d0 hx;obtain⟨d,rd,e,h1,h2⟩:=x7 (η:=η) h;exact⟨d,rd,e,h1,fun η' ρ' hρ hη=>by simp only[wpOp,hρ x (by simp[Op.operands]),hx];exact h2 η' hη⟩
  ·exact h.elim
 ·rename_i c;obtain⟨d,rd,e,h1,h2⟩:=Gp hG h;exact⟨d,rd,e,h1,fun η' ρ' hρ hη=>h2 η' ρ' hρ hη⟩
 ·exact h.elim
end
structure Al (R:Type) where
 bot:R
 ak:Bool→R→R
 ni:Bool→R→R→R
 bm:{α:Type}→List α→Nat→(α→R)→R
 cF:Int→(Nat→R)→R
 iS:Int→(Int→R)→R
structure uR{R:Type}(al:Al R)(T:R→Prop):Prop where
 bot:¬T al.bot
 ak:∀{c:Bool}{k:R},T (al.ak c k)→c=true∧T k
 ni:∀{c:Bool}{a b:R},T (al.ni c a b)→(c=true→T a)∧(c=false→T b)
 bm:∀{α:Type}{xs:List α}{i:Nat}{k:α→R},T (al.bm xs i k)→∃x,xs[i]?=some x∧T (k x)
 cF:∀{n:Int}{k:Nat→R},T (al.cF n k)→∃i:Nat,n=(i:Int)∧T (k i)
 iS:∀{n:Int}{k:Int→R},T (al.iS n k)→T (k n)
def alO(β:Type):Al (Option β) where
 bot:=none
 ak c k:=bif c then k else none
 ni c a b:=bif c then a else b
 bm xs i k:=match xs[i]? with
  |some x=>k x
  |none=>none
 cF n k:=match n with
  |.ofNat i=>k i
  |.negSucc _=>none
 iS n k:=k n
theorem pG{β:Type}{r:β}:uR (alO β) (fun o=>o=some r) where
 bot h:=by cases h
 ak {c k} h:=by cases c with
  |true=>exact⟨rfl,h⟩
  |false=>cases h
 ni {c a b} h:=by cases c with
  |true=>exact⟨fun _=>h,fun e=>(by cases e)⟩
  |false=>exact⟨fun e=>(by cases e),fun _=>h⟩
 bm {α xs i k} h:=by
  simp only[alO]at h
  split at h
  ·rename_i x hx;exact⟨x,hx,h⟩
  ·cases h
 cF {n k} h:=by
  simp only[alO]at h
  split at h
  ·rename_i i;exact⟨i,rfl,h⟩
  ·cases h
 iS h:=h
abbrev Kr(R:Type):=D→List Nat→List (Nat×B)→R
abbrev Ot:=Option (D×List Nat×List (Nat×B))
def vh{α:Type}(b:Bool)(x:Option α):Option α:=bif b then x else none
def pZ(η:Env):D→Option (List (List F)×List Nat)
 |.sub b v sz lo hi _=>match η b with
  |some (.ro v' _ sz' rows)=>bif Nat.beq v v'&&Nat.beq sz sz' then some ((rows.take hi).drop lo,[b])else none
  |_=>none
 |.fx rows=>some (rows,[])
 |d=>fI η d
def B3:D→Bool
 |.sub _ _ _ _ _ _=>true
 |.fx _=>true
 |_=>false
def pA(sz:Nat)(rows:List (List F)):Bool:=rows.all fun r=>Nat.beq r.length sz
def Dw:D→Option F
 |.fr (.vl (.int k n))=>some (.vl (.int k n))
 |.fr (.vl (.string s))=>some (.vl (.string s))
 |_=>none
def eqN(a b:Int):Bool:=match a,b with
 |.ofNat m,.ofNat n=>Nat.beq m n
 |.negSucc m,.negSucc n=>Nat.beq m n
 |_,_=>false
def eqL:List UInt8→List UInt8→Bool
 |[],[]=>true
 |a::l,b::m=>Nat.beq a.toNat b.toNat&&eqL l m
 |_,_=>false
def xR(a b:IntKind):Bool:=match a,b with
 |.i8,.i8=>true | .i16,.i16=>true | .i32,.i32=>true | .i64,.i64=>true
 |.u8,.u8=>true | .u16,.u16=>true | .u32,.u32=>true | .u64,.u64=>true
 |_,_=>false
def yg:F→F→Option Bool
 |.vl (.int k a),.vl (.int k' b)=>bif xR k k' then some (eqN a b)else none
 |.vl (.string a),.vl (.string b)=>some (eqL a.data.toList b.data.toList)
 |_,_=>none
def gY(k:F):List (List F)→Nat→Option (Option (Nat×F))
 |[],_=>some none
 |r::l,i=>match r with
  |[k',v]=>(match yg k k' with
   |some true=>some (some (i,v))
   |some false=>gY k l (i+1)
   |none=>none)
  |_=>none
def vZ(i:TI):D:=match i.k.agg,i.z with
 |false,[v]=>.fr (.vl v)
 |_,z=>.ag (z.map fun v=>.fr (.vl v))
def Bv(i:TI):Bool:=match i.k.agg,i.z with
 |false,[_]=>true
 |true,_::_=>true
 |_,_=>false
def Dd(i:TI)(k:D):Bool:=match i.k,k with
 |.int k',.fr (.vl (.int k'' _))=>xR k' k''
 |.str,.fr (.vl (.string _))=>true
 |_,_=>false
def byR(u:UInt8):List F:=[.vl (.int .u8 (u.toNat:Int))]
def HF(i:TI):Bool:=match i.z,i.k with
 |[.int .u8 (.ofNat 0)],.int .u8=>true
 |_,_=>false
def IW:D→Option ByteArray
 |.fr (.vl (.string s))=>some s
 |_=>none
def isStr(E:TE)(t:Nat):Bool:=match E t with
 |some ⟨_,_,.str⟩=>true
 |_=>false
def xq:D→Option Bool
 |.fr (.vl .nilFunc)=>some true
 |.cl _ _=>some false
 |.fr (.cl _ _)=>some false
 |.mcl _ _ _=>some false
 |.yl _ _=>some false
 |_=>none
def wX:D→Option Bool
 |.fr (.vl (.pointer none))=>some true
 |.ptr _ _ _=>some false
 |.rp _ _ _ _ _=>some false
 |.fr (.pt _ _ _ _)=>some false
 |_=>none
def isT:Option Bool→Bool
 |some true=>true
 |_=>false
def Kk(f:D→Option Bool)(x y:D):Option Bool:=bif isT (f y)then f x else bif isT (f x)then f y else none
def eqB(x y:Bool):Bool:=bif x then y else !y
def iq:List D→List D→Option Bool
 |[],[]=>some true
 |a::l,b::m=>match a,b,iq l m with
  |.fr (.vl (.bool x)),.fr (.vl (.bool y)),some r=>some (eqB x y&&r)
  |_,_,_=>none
 |_,_=>none
section
variable {R:Type} (al:Al R) (Q:Nat→Bool) (E:TE) (η:Env) (t:Nat) (ρ:Operand→Option D)
def fp(d:D)(k:Nat→R):R:=match d with
 |.fr (.vl (.int _ n))=>al.cF n k
 |_=>al.bot
def uW(d:Nat)(x:Option (Option D))(k:Nat→R):R:=match x with
 |some none=>k d
 |some (some x)=>fp al x k
 |none=>al.bot
def rP(n:Nat)(lo hi mx:Option (Option D))(k:Nat→Nat→Bool→R):R:=uW al 0 lo fun l=>uW al n hi fun h=>al.ak (Nat.ble l h&&Nat.ble h n) (match mx with
 |some none=>k l h false
 |some (some m)=>(match hi with
  |some none=>al.bot
  |_=>fp al m fun m=>al.ak (Nat.beq m h) (k l h true))
 |none=>al.bot)
def gx(t':Nat)(x:D)(lo hi mx:Option (Option D))(k:Kr R):R:=match E t' with
 |some ⟨_,_,.sl e sz _⟩=>match x with
  |.own b v=>(match η b with
   |some (.ro v' _ sz' rows)=>al.ak (Nat.beq v v'&&Nat.beq sz sz') (rP al rows.length lo hi mx fun l h ex=>k (.sub b v sz l h ex) [b] [])
   |_=>al.bot)
  |.sub b v sz' lo0 hi0 ex0=>al.ak (Nat.beq sz sz') (rP al (hi0-lo0) lo hi mx fun l h ex=>al.ak (ex || !ex0||Nat.beq h (hi0-lo0)) (k (.sub b v sz (lo0+l) (lo0+h) (ex||ex0)) [] []))
  |.fx rows=>rP al rows.length lo hi mx fun l h ex=>al.ak ((ex||Nat.beq h rows.length)&&pA sz rows) (k (.fx ((rows.take h).drop l)) [] [])
  |.fr (.sl rows)=>rP al rows.length lo hi mx fun l h ex=>al.ak (ex&&pA sz rows) (k (.fx ((rows.take h).drop l)) [] [])
  |.fr (.vl (.slice none 0 0))=>rP al 0 lo hi mx fun l h ex=>k (.fr (.vl (.slice none 0 0))) [] []
  |_=>al.bot
 |_=>al.bot
def eQ(t':Nat)(x y:D)(k:Kr R):R:=match E t',pZ η y with
 |some ⟨_,_,.sl e sz by_⟩,some (news,rd)=>al.ak (pA sz news) (match x with
  |.own b v=>(match η b with
   |some (.ro v' e' sz' rows)=>al.ak (Nat.beq v v'&&Nat.beq e e'&&Nat.beq sz sz'&&Nat.ble (rows.length+news.length) maxLen&&Nat.ble ((rows.length+news.length)*by_) 140737488355328)
     (k (.own b (v+1)) (b::rd) [(b,.ro (v+1) e sz (rows++news))])
   |_=>al.bot)
  |.fr (.vl (.slice none 0 0))=>al.ak (Nat.ble news.length maxLen&&Nat.ble (news.length*by_) 140737488355328) (k (.own t (nv η t)) (t::rd) [(t,.ro (nv η t) e sz news)])
  |.sub b v sz1 lo hi ex=>(match η b with
   |some (.ro v' e' sz' rows)=>al.ak (Nat.beq v v'&&Nat.beq e e'&&Nat.beq sz sz'&&Nat.beq sz sz1&&Nat.ble lo hi&&Nat.ble hi rows.length) (match ex with
    |false=>al.ak (Nat.beq lo 0&&Nat.ble (hi+news.length) maxLen&&Nat.ble ((hi+news.length)*by_) 140737488355328)
      (k (.own b (v+1)) (b::rd) [(b,.ro (v+1) e sz (rows.take hi++news))])
    |true=>match news with
     |[]=>k (.sub b v sz1 lo hi true) (b::rd) []
     |n0::ns=>al.ak (Nat.blt lo hi&&Nat.ble ((hi-lo)+(ns.length+1)) maxLen&&Nat.ble (((hi-lo)+(ns.length+1))*by_) 140737488355328)
      (k (.own t (nv η t)) (t::b::rd) [(t,.ro (nv η t) e sz ((rows.take hi).drop lo++n0::ns))]))
   |_=>al.bot)
  |.fx rows=>(match news with
   |[]=>k (.fx rows) rd []
   |n0::ns=>al.ak (pA sz rows&&Nat.ble (rows.length+(ns.length+1)) maxLen&&Nat.ble ((rows.length+(ns.length+1))*by_) 140737488355328)
    (k (.own t (nv η t)) (t::rd) [(t,.ro (nv η t) e sz (rows++n0::ns))]))
  |_=>al.bot)
 |_,_=>al.bot
def gD(t':Nat)(x:D)(s:ByteArray)(k:Kr R):R:=match E t' with
 |some ⟨_,_,.sl e sz by_⟩=>(match E e with
  |some ie=>al.ak (HF ie&&Nat.beq sz 1&&Nat.beq by_ 1) (match x with
   |.own b v=>(match η b with
    |some (.ro v' e' sz' rows)=>al.ak (Nat.beq v v'&&Nat.beq e e'&&Nat.beq sz sz') (al.ak (Nat.ble (rows.length+s.size) 140737488355328)
      (k (.own b (v+1)) [b] [(b,.ro (v+1) e 1 (rows++s.data.toList.map byR))]))
    |_=>al.bot)
   |.fr (.vl (.slice none 0 0))=>al.ak (Nat.ble s.size 140737488355328) (k (.own t (nv η t)) [t] [(t,.ro (nv η t) e 1 (s.data.toList.map byR))])
   |_=>al.bot)
  |none=>al.bot)
 |_=>al.bot
def oU(t':Nat)(x:D)(k:Kr R):R:=match E t' with
 |some ⟨_,_,.sl _ sz _⟩=>(match x with
  |.sub b v sz' lo hi _=>k (.fr (.vl (.int .i64 ((hi-lo:Nat):Int)))) [] []
  |.fx rows=>k (.fr (.vl (.int .i64 (rows.length:Int)))) [] []
  |_=>al.bot)
 |some ⟨_,_,.mp _ _⟩=>(match x with
  |.mv b v=>(match η b with
   |some (.mp v' rows)=>al.ak (Nat.beq v v') (k (.fr (.vl (.int .i64 (rows.length:Int)))) [b] [])
   |_=>al.bot)
  |.fr (.mp rows)=>k (.fr (.vl (.int .i64 (rows.length:Int)))) [] []
  |_=>al.bot)
 |_=>al.bot
def jQ(t':Nat)(x y:D)(k:Kr R):R:=match E t',pZ η y with
 |some ⟨_,_,.sl e sz by_⟩,some (src,rd)=>al.ak (pA sz src) (match x with
  |.own b v=>(match η b with
   |some (.ro v' e' sz' rows)=>al.ak (Nat.beq v v'&&Nat.beq e e'&&Nat.beq sz sz')
     (k (.fr (.vl (.int .i64 ((min rows.length src.length:Nat):Int)))) (b::rd) [(b,.ro v e sz (src.take rows.length++rows.drop src.length))])
   |_=>al.bot)
  |_=>al.bot)
 |_,_=>al.bot
def cJ(t':Nat)(x y:D)(k:Kr R):R:=match E t' with
 |some ⟨_,_,.sl e sz _⟩=>fp al y fun i=>(match x with
  |.sub b v sz' lo hi _=>(match η b with
   |some (.ro v' _ sz1 rows)=>al.ak (Nat.beq v v'&&Nat.beq sz sz'&&Nat.beq sz sz1&&Nat.blt i (hi-lo)) (k (.rp b v sz (lo+i) 0) [b] [])
   |_=>al.bot)
  |.fx rows=>al.bm rows i fun r=>al.ak (Nat.beq r.length sz) (k (.fr (.pt sz rows i 0)) [] [])
  |_=>al.bot)
 |_=>al.bot
def Ha:TK→Bool
 |.int _=>true
 |.bool=>true
 |.str=>true
 |.fn=>true
 |.mp _ _=>true
 |_=>false
def rQ:TK→Bool
 |.st _=>true
 |_=>false
def lZ(t':Nat)(x y:D)(k:Kr R):R:=match E t' with
 |some ⟨_,_,.ar len e sz⟩=>fp al y fun i=>(match E e with
  |some ie=>(match rQ ie.k with
   |false=>al.ak (jF x&&Nat.blt i len&&Ha ie.k) (al.bm x.cells (i*sz) fun d=>k d [] [])
   |true=>al.ak (jF x&&Nat.blt i len&&Nat.beq ie.sz sz&&Nat.blt 0 sz&&Nat.ble (i*sz+sz) x.cells.length) (k (.ag ((x.cells.drop (i*sz)).take sz)) [] []))
  |none=>al.bot)
 |_=>al.bot
def eY(t':Nat)(x key:D)(commaOk:Bool)(k:Kr R):R:=match E t' with
 |some ⟨_,_,.mp kt et⟩=>(match E kt,E et,Dw key with
  |some ki,some ei,some kf=>al.ak (Dd ki key&&Bv ei) (
   let go (rows:List (List F)) (rd:List Nat):R:=al.bm (gY kf rows 0).toList 0 fun r=>match r with
    |some (_,v)=>k (bif commaOk then .tp [v.toD,Bo true]else v.toD) rd []
    |none=>k (bif commaOk then .tp [vZ ei,Bo false]else vZ ei) rd []
   match x with
   |.mv b v=>(match η b with
    |some (.mp v' rows)=>al.ak (Nat.beq v v') (go rows [b])
    |_=>al.bot)
   |.fr (.mp rows)=>go rows []
   |_=>al.bot)
  |_,_,_=>al.bot)
 |_=>al.bot
def eT(t':Nat)(x key y:D)(k:Kr R):R:=match E t' with
 |some ⟨_,_,.mp kt et⟩=>(match E kt,Dw key,D.toF η 4 y with
  |some ki,some kf,some (yf,is)=>(match x with
   |.mv b v=>al.ak (Dd ki key && !is.elem b) (match η b with
    |some (.mp v' rows)=>al.ak (Nat.beq v v') (al.bm (gY kf rows 0).toList 0 fun r=>match r with
     |some (i,_)=>k Un (b::is) ((b,.mp v (rows.set i [kf,yf]))::aU η is)
     |none=>k Un (b::is) ((b,.mp v (rows++[[kf,yf]]))::aU η is))
    |_=>al.bot)
   |_=>al.bot)
  |_,_,_=>al.bot)
 |_=>al.bot
def mL(op:BinOp)(r:Option Bool)(k:Kr R):R:=match op,r with
 |.eql,some b=>k (Bo b) [] []
 |.neq,some b=>k (Bo (!b)) [] []
 |_,_=>al.bot
def wm(op:BinOp)(ty:Nat)(x y:D)(k:Kr R):R:=match E ty with
 |some ⟨_,_,.fn⟩=>mL al op (Kk xq x y) k
 |some ⟨_,_,.ptr⟩=>mL al op (Kk wX x y) k
 |some ⟨_,_,.sl _ _ _⟩=>(match x,y with
  |.fr (.sl rows),.fr (.vl (.slice none 0 0))=>al.ak (Nat.blt 0 rows.length) (mL al op (some false) k)
  |.fr (.vl (.slice none 0 0)),.fr (.vl (.slice none 0 0))=>mL al op (some true) k
  |_,_=>al.bot)
 |some i=>al.ak (Q ty&&jF x&&jF y&&Nat.beq x.cells.length i.sz&&Nat.beq y.cells.length i.sz) (mL al op (iq x.cells y.cells) k)
 |none=>al.bot
def mX(op:Op)(k:Kr R):R:=match op with
 |.slice t' x lo hi mx=>(match ρ x with
  |some d=>gx al E η t' d (dW ρ lo) (dW ρ hi) (dW ρ mx) k
  |none=>al.bot)
 |.indexAddr t' x y=>(match ρ x,ρ y with|some d,some d'=>cJ al E η t' d d' k|_,_=>al.bot)
 |.index t' x y=>(match ρ x,ρ y with|some d,some d'=>lZ al E t' d d' k|_,_=>al.bot)
 |.makeMap t' r=>(match E t' with
  |some ⟨_,_,.mp _ _⟩=>(match r with
   |none=>k (.mv t (nv η t)) [t] [(t,.mp (nv η t) [])]
   |some x=>(match ρ x with
    |some (.fr (.vl (.int _ _)))=>k (.mv t (nv η t)) [t] [(t,.mp (nv η t) [])]
    |_=>al.bot))
  |_=>al.bot)
 |.lookup t' x y c=>(match ρ x,ρ y with|some d,some d'=>eY al E η t' d d' c k|_,_=>al.bot)
 |.mapUpdate t' x y z=>(match ρ x,ρ y,ρ z with|some d,some d',some d''=>eT al E η t' d d' d'' k|_,_,_=>al.bot)
 |.binOp op ty x y _=>(match ρ x,ρ y with|some d,some d'=>wm al Q E op ty d d' k|_,_=>al.bot)
 |.makeFunc (.func f) fst cap=>(match fst.toList with
  |[]=>al.bot
  |f1::fr=>(match jb ((f1::fr).map ρ),jb (cap.toList.map ρ)with|some l,some m=>k (.mcl f l m) [] []|_,_=>al.bot))
 |.call c=>(match c.callee with
  |.builtin .len=>(match c.args.toList,c.argTypes.toList with
   |[x],[t']=>(match ρ x with|some d=>oU al E η t' d k|none=>al.bot)
   |_,_=>al.bot)
  |.builtin .append=>(match c.args.toList,c.argTypes.toList with
   |[x,y],[t',t'']=>(match ρ x,ρ y with
    |some d,some d'=>(match IW d' with
     |some s=>al.ak (isStr E t'') (gD al E η t t' d s k)
     |none=>al.ak (Nat.beq t' t'') (eQ al E η t t' d d' k))
    |_,_=>al.bot)
   |_,_=>al.bot)
  |.builtin .copy=>(match c.args.toList,c.argTypes.toList with
   |[x,y],[t',t'']=>(match ρ x,ρ y with|some d,some d'=>al.ak (Nat.beq t' t'') (jQ al E η t' d d' k)|_,_=>al.bot)
   |_,_=>al.bot)
  |_=>al.bot)
 |_=>al.bot
def Oa:D→Bool
 |.own _ _=>true
 |.sub _ _ _ _ _ _=>true
 |.fx _=>true
 |.fr (.vl (.slice none 0 0))=>true
 |_=>false
def Ol(t':Nat):Bool:=match E t' with
 |some ⟨_,_,.mp _ _⟩=>true
 |_=>false
def Nl(op:Op):Bool:=match op with
 |.slice t' x lo hi mx=>(match ρ x with|some d=>Oa d||mx.isSome|none=>false)
 |.indexAddr t' x y=>(match ρ x with|some d=>B3 d|none=>false)
 |.index t' x y=>(match E t' with|some ⟨_,_,.ar _ _ _⟩=>true|_=>false)
 |.makeMap _ _=>true
 |.lookup _ _ _ _=>true
 |.mapUpdate _ _ _ _=>true
 |.binOp _ ty _ _ _=>Q ty||(match E ty with|some ⟨_,_,.fn⟩=>true|some ⟨_,_,.ptr⟩=>true|some ⟨_,_,.sl _ _ _⟩=>true|_=>false)
 |.makeFunc _ fst _=>!fst.isEmpty
 |.call c=>(match c.callee with
  |.builtin .len=>(match c.args.toList,c.argTypes.toList with
   |[x],[t']=>Ol E t'||(match ρ x with|some d=>B3 d|none=>false)
   |_,_=>false)
  |.builtin .append=>(match c.args.toList with
   |[x,y]=>(match ρ x,ρ y with|some d,some d'=>B3 d||B3 d'||(IW d').isSome|_,_=>false)
   |_=>false)
  |.builtin .copy=>true
  |_=>false)
 |_=>false
end
def opX(Q:Nat→Bool)(E:TE)(η:Env)(t:Nat)(ρ:Operand→Option D)(op:Op):Ot:=mX (alO _) Q E η t ρ op fun d rd e=>some (d,rd,e)
def Cg(η η':Env)(x y:Ot):Prop:=∀d rd e,x=some (d,rd,e)→(∀b∈rd,η' b=η b)→y=some (d,rd,e)
def Rd(b:Nat)(x:Ot):Prop:=∀d rd e,x=some (d,rd,e)→b∈rd
section
variable {η η':Env}{b:Nat}
theorem Rd.ret{d:D}{rd:List Nat}{e:List (Nat×B)}(h:b∈rd):Rd b (some (d,rd,e)):=fun _ _ _ q=>by cases q;exact h
theorem Rd.bot:Rd b (alO (D×List Nat×List (Nat×B))).bot:=fun _ _ _ q=>by cases q
theorem Rd.ak{c:Bool}{x:Ot}(h:Rd b x):Rd b ((alO _).ak c x):=fun d rd e q=>by
 cases c with
 |true=>exact h d rd e q
 |false=>cases q
theorem Rd.cF{n:Int}{x:Nat→Ot}(h:∀i,Rd b (x i)):Rd b ((alO _).cF n x):=fun d rd e q=>by
 simp only[alO]at q
 split at q
 ·exact h _ d rd e q
 ·cases q
theorem Rd.bm{α:Type}{xs:List α}{i:Nat}{x:α→Ot}(h:∀i,Rd b (x i)):Rd b ((alO _).bm xs i x):=fun d rd e q=>by
 simp only[alO]at q
 split at q
 ·exact h _ d rd e q
 ·cases q
theorem Rd.eF{d:D}{x:Nat→Ot}(h:∀i,Rd b (x i)):Rd b (fp (alO _) d x):=by
 unfold fp
 split
 ·exact Rd.cF h
 ·exact Rd.bot
theorem Rd.bnd{n:Nat}{d:Option (Option D)}{x:Nat→Ot}(h:∀i,Rd b (x i)):Rd b (uW (alO _) n d x):=by
 unfold uW
 split
 ·exact h _
 ·exact Rd.eF h
 ·exact Rd.bot
theorem Rd.cut{n:Nat}{lo hi mx:Option (Option D)}{x:Nat→Nat→Bool→Ot}(h:∀i j c,Rd b (x i j c)):Rd b (rP (alO _) n lo hi mx x):=by
 unfold rP;refine Rd.bnd fun i=>Rd.bnd fun j=>Rd.ak ?_
 split
 ·exact h _ _ _
 ·split
  ·exact Rd.bot
  ·exact Rd.eF fun m=>Rd.ak (h _ _ _)
 ·exact Rd.bot
theorem Cg.refl{x:Ot}:Cg η η' x x:=fun _ _ _ h _=>h
theorem Cg.rd{x y:Ot}(b:Nat)(hr:Rd b x)(h:η' b=η b→Cg η η' x y):Cg η η' x y:=fun d rd e hx hη=>h (hη b (hr d rd e hx)) d rd e hx hη
theorem Cg.rds{x y:Ot}(l:List Nat)(hr:∀b∈l,Rd b x)(h:(∀b∈l,η' b=η b)→Cg η η' x y):Cg η η' x y:=fun d rd e hx hη=>h (fun b hb=>hη b (hr b hb d rd e hx)) d rd e hx hη
theorem Cg.bot{y:Ot}:Cg η η' (alO _).bot y:=fun _ _ _ q=>by cases q
theorem Cg.ak{c:Bool}{x y:Ot}(h:Cg η η' x y):Cg η η' ((alO _).ak c x) ((alO _).ak c y):=by
 cases c with
 |true=>exact h
 |false=>exact Cg.bot
theorem CA{d:D}{news:List (List F)}{rd:List Nat}(h:pZ η d=some (news,rd))(hη:∀b∈rd,η' b=η b):pZ η' d=some (news,rd):=by
 unfold pZ at h ⊢
 split at h
 ·rename_i b v sz lo hi ex
  split at h
  ·rename_i v' e sz' rows hb
   cases hv:(Nat.beq v v'&&Nat.beq sz sz')with
   |false=>rw[hv]at h;cases h
   |true=>
    rw[hv]at h;simp only[cond_true]at h
    cases h;rw[hη _ (by simp),hb];simp only[hv,cond_true]
  ·cases h
 ·exact h
 ·exact jx h hη
variable {E:TE}{t:Nat}{Q:Nat→Bool}
theorem EY{t':Nat}{x:D}{lo hi mx:Option (Option D)}:Cg η η' (gx (alO _) E η t' x lo hi mx (fun d rd e=>some (d,rd,e))) (gx (alO _) E η' t' x lo hi mx (fun d rd e=>some (d,rd,e))):=by
 unfold gx
 split
 ·split
  ·rename_i b v;exact Cg.rd b (by repeat' (first|exact Rd.bot|(apply Rd.ret;simp;done)|apply Rd.ak|(apply Rd.bm;intro _)|(apply Rd.cF;intro _)|(apply Rd.eF;intro _)|(apply Rd.cut;intro _ _ _)|split)) fun e=>by rw[e];exact Cg.refl
  all_goals exact Cg.refl
 ·exact Cg.refl
theorem Ba{t':Nat}{x y:D}:Cg η η' (eQ (alO _) E η t t' x y (fun d rd e=>some (d,rd,e))) (eQ (alO _) E η' t t' x y (fun d rd e=>some (d,rd,e))):=by
 unfold eQ
 cases hi:E t' with
 |none=>exact Cg.bot
 |some i=>
  obtain⟨n,z,k⟩:=i
  cases k<;>try exact Cg.bot
  cases hs:pZ η y with
  |none=>exact Cg.bot
  |some p=>
   obtain⟨news,rd0⟩:=p;dsimp only;refine Cg.rds rd0 (fun b hb=>?_) fun hη=>?_
   ·repeat' (first|exact Rd.bot|(apply Rd.ret;simp;done)|apply Rd.ak|(apply Rd.bm;intro _)|(apply Rd.cF;intro _)|(apply Rd.eF;intro _)|(apply Rd.cut;intro _ _ _)|split)
    all_goals(apply Rd.ret;simp[hb])
   ·rw[CA hs hη];dsimp only;apply Cg.ak
    split
    ·rename_i b v;exact Cg.rd b (by repeat' (first|exact Rd.bot|(apply Rd.ret;simp;done)|apply Rd.ak|(apply Rd.bm;intro _)|(apply Rd.cF;intro _)|(apply Rd.eF;intro _)|(apply Rd.cut;intro _ _ _)|split)) fun e=>by rw[e];exact Cg.refl
    ·exact Cg.rd t (by repeat' (first|exact Rd.bot|(apply Rd.ret;simp;done)|apply Rd.ak|(apply Rd.bm;intro _)|(apply Rd.cF;intro _)|(apply Rd.eF;intro _)|(apply Rd.cut;intro _ _ _)|split)) fun e=>by rw[cM e];exact Cg.refl
    ·rename_i b v sz1 lo hi ex;refine Cg.rd b (by repeat' (first|exact Rd.bot|(apply Rd.ret;simp;done)|apply Rd.ak|(apply Rd.bm;intro _)|(apply Rd.cF;intro _)|(apply Rd.eF;intro _)|(apply Rd.cut;intro _ _ _)|split)) fun e=>?_
     rw[e]
     split
     ·apply Cg.ak
      split
      ·exact Cg.refl
      ·split
       ·exact Cg.refl
       ·exact Cg.rd t (by repeat' (first|exact Rd.bot|(apply Rd.ret;simp;done)|apply Rd.ak|(apply Rd.bm;intro _)|(apply Rd.cF;intro _)|(apply Rd.eF;intro _)|(apply Rd.cut;intro _ _ _)|split)) fun e=>by rw[cM e];exact Cg.refl
     ·exact Cg.refl
    ·split
     ·exact Cg.refl
     ·exact Cg.rd t (by repeat' (first|exact Rd.bot|(apply Rd.ret;simp;done)|apply Rd.ak|(apply Rd.bm;intro _)|(apply Rd.cF;intro _)|(apply Rd.eF;intro _)|(apply Rd.cut;intro _ _ _)|split)) fun e=>by rw[cM e];exact Cg.refl
    ·exact Cg.refl
theorem D5{t':Nat}{x:D}{s:ByteArray}:Cg η η' (gD (alO _) E η t t' x s (fun d rd e=>some (d,rd,e))) (gD (alO _) E η' t t' x s (fun d rd e=>some (d,rd,e))):=by
 unfold gD
 split
 ·split
  ·apply Cg.ak
   split
   ·rename_i b v;exact Cg.rd b (by repeat' (first|exact Rd.bot|(apply Rd.ret;simp;done)|apply Rd.ak|(apply Rd.bm;intro _)|(apply Rd.cF;intro _)|(apply Rd.eF;intro _)|(apply Rd.cut;intro _ _ _)|split)) fun e=>by rw[e];exact Cg.refl
   ·exact Cg.rd t (by repeat' (first|exact Rd.bot|(apply Rd.ret;simp;done)|apply Rd.ak|(apply Rd.bm;intro _)|(apply Rd.cF;intro _)|(apply Rd.eF;intro _)|(apply Rd.cut;intro _ _ _)|split)) fun e=>by rw[cM e];exact Cg.refl
   ·exact Cg.refl
  ·exact Cg.refl
 ·exact Cg.refl
theorem JX{t':Nat}{x:D}:Cg η η' (oU (alO _) E η t' x (fun d rd e=>some (d,rd,e))) (oU (alO _) E η' t' x (fun d rd e=>some (d,rd,e))):=by
 unfold oU
 split
 ·exact Cg.refl
 ·split
  ·rename_i b v;exact Cg.rd b (by repeat' (first|exact Rd.bot|(apply Rd.ret;simp;done)|apply Rd.ak|(apply Rd.bm;intro _)|(apply Rd.cF;intro _)|(apply Rd.eF;intro _)|(apply Rd.cut;intro _ _ _)|split)) fun e=>by rw[e];exact Cg.refl
  all_goals exact Cg.refl
 ·exact Cg.refl
theorem Iw{t':Nat}{x y:D}:Cg η η' (jQ (alO _) E η t' x y (fun d rd e=>some (d,rd,e))) (jQ (alO _) E η' t' x y (fun d rd e=>some (d,rd,e))):=by
 unfold jQ
 cases hi:E t' with
 |none=>exact Cg.bot
 |some i=>
  obtain⟨n,z,k⟩:=i
  cases k<;>try exact Cg.bot
  cases hs:pZ η y with
  |none=>exact Cg.bot
  |some p=>
   obtain⟨news,rd0⟩:=p;dsimp only;refine Cg.rds rd0 (fun b hb=>?_) fun hη=>?_
   ·repeat' (first|exact Rd.bot|(apply Rd.ret;simp;done)|apply Rd.ak|(apply Rd.bm;intro _)|(apply Rd.cF;intro _)|(apply Rd.eF;intro _)|(apply Rd.cut;intro _ _ _)|split)
    all_goals(apply Rd.ret;simp[hb])
   ·rw[CA hs hη];dsimp only;apply Cg.ak
    split
    ·rename_i b v;exact Cg.rd b (by repeat' (first|exact Rd.bot|(apply Rd.ret;simp;done)|apply Rd.ak|(apply Rd.bm;intro _)|(apply Rd.cF;intro _)|(apply Rd.eF;intro _)|(apply Rd.cut;intro _ _ _)|split)) fun e=>by rw[e];exact Cg.refl
    ·exact Cg.refl
theorem uL{t':Nat}{x y:D}:Cg η η' (cJ (alO _) E η t' x y (fun d rd e=>some (d,rd,e))) (cJ (alO _) E η' t' x y (fun d rd e=>some (d,rd,e))):=by
 unfold cJ
 split
 ·unfold fp
  split
  ·simp only[alO]
   split
   ·split
    ·rename_i b v sz1 lo hi ex;exact Cg.rd b (by repeat' (first|exact Rd.bot|(apply Rd.ret;simp;done)|apply Rd.ak|(apply Rd.bm;intro _)|(apply Rd.cF;intro _)|(apply Rd.eF;intro _)|(apply Rd.cut;intro _ _ _)|split)) fun e=>by rw[e];exact Cg.refl
    all_goals exact Cg.refl
   ·exact Cg.refl
  ·exact Cg.refl
 ·exact Cg.refl
theorem BR{t':Nat}{x y:D}{c:Bool}:Cg η η' (eY (alO _) E η t' x y c (fun d rd e=>some (d,rd,e))) (eY (alO _) E η' t' x y c (fun d rd e=>some (d,rd,e))):=by
 unfold eY;dsimp only
 split
 ·split
  ·apply Cg.ak
   split
   ·rename_i b v;exact Cg.rd b (by repeat' (first|exact Rd.bot|(apply Rd.ret;simp;done)|apply Rd.ak|(apply Rd.bm;intro _)|(apply Rd.cF;intro _)|(apply Rd.eF;intro _)|(apply Rd.cut;intro _ _ _)|split)) fun e=>by rw[e];exact Cg.refl
   all_goals exact Cg.refl
  ·exact Cg.refl
 ·exact Cg.refl
theorem BW{t':Nat}{x y z:D}:Cg η η' (eT (alO _) E η t' x y z (fun d rd e=>some (d,rd,e))) (eT (alO _) E η' t' x y z (fun d rd e=>some (d,rd,e))):=by
 unfold eT
 split
 ·rename_i kt et hi
  cases hk:E kt with
  |none=>exact Cg.bot
  |some ki=>
   cases hf:Dw y with
   |none=>exact Cg.bot
   |some kf=>
    cases hz:D.toF η 4 z with
    |none=>exact Cg.bot
    |some p=>
     obtain⟨yf,is⟩:=p;dsimp only;refine Cg.rds is (fun b hb=>?_) fun hη=>?_
     ·repeat' (first|exact Rd.bot|(apply Rd.ret;simp;done)|apply Rd.ak|(apply Rd.bm;intro _)|(apply Rd.cF;intro _)|(apply Rd.eF;intro _)|(apply Rd.cut;intro _ _ _)|split)
      all_goals(apply Rd.ret;simp[hb])
     ·rw[fG 4 z yf is hz hη];dsimp only
      split
      ·rename_i b v;exact Cg.rd b (by repeat' (first|exact Rd.bot|(apply Rd.ret;simp;done)|apply Rd.ak|(apply Rd.bm;intro _)|(apply Rd.cF;intro _)|(apply Rd.eF;intro _)|(apply Rd.cut;intro _ _ _)|split)) fun e=>by rw[e,dd hη];exact Cg.refl
      ·exact Cg.bot
 ·exact Cg.bot
theorem wL{ρ ρ':Operand→Option D}{x:Option Operand}(h:∀y,x=some y→ρ' y=ρ y):dW ρ' x=dW ρ x:=by
 cases x with
 |none=>rfl
 |some y=>simp only[dW,h y rfl]
theorem LG{ρ ρ':Operand→Option D}{op:Op}(hρ:∀x∈op.operands.toList,ρ' x=ρ x):Cg η η' (opX Q E η t ρ op) (opX Q E η' t ρ' op):=by
 unfold opX mX
 cases op<;>try exact Cg.bot
 case slice t' x lo hi mx=>
  dsimp only;rw[hρ x (by simp[Op.operands]),wL (fun y e=>hρ y (by simp[Op.operands,e])),wL (x:=hi) (fun y e=>hρ y (by simp[Op.operands,e])),wL (x:=mx) (fun y e=>hρ y (by simp[Op.operands,e]))]
  split
  ·exact EY
  ·exact Cg.bot
 case indexAddr t' x y=>
  dsimp only;rw[hρ x (by simp[Op.operands]),hρ y (by simp[Op.operands])]
  split
  ·exact uL
  ·exact Cg.bot
 case index t' x y=>
  dsimp only;rw[hρ x (by simp[Op.operands]),hρ y (by simp[Op.operands])];exact Cg.refl
 case makeMap t' r=>
  dsimp only
  split
  ·split
   ·exact Cg.rd t (by repeat' (first|exact Rd.bot|(apply Rd.ret;simp;done)|apply Rd.ak|(apply Rd.bm;intro _)|(apply Rd.cF;intro _)|(apply Rd.eF;intro _)|(apply Rd.cut;intro _ _ _)|split)) fun e=>by rw[cM e];exact Cg.refl
   ·rename_i x;rw[hρ x (by simp[Op.operands])];exact Cg.rd t (by repeat' (first|exact Rd.bot|(apply Rd.ret;simp;done)|apply Rd.ak|(apply Rd.bm;intro _)|(apply Rd.cF;intro _)|(apply Rd.eF;intro _)|(apply Rd.cut;intro _ _ _)|split)) fun e=>by rw[cM e];exact Cg.refl
  ·exact Cg.bot
 case lookup t' x y c=>
  dsimp only;rw[hρ x (by simp[Op.operands]),hρ y (by simp[Op.operands])]
  split
  ·exact BR
  ·exact Cg.bot
 case mapUpdate t' x y z=>
  dsimp only;rw[hρ x (by simp[Op.operands]),hρ y (by simp[Op.operands]),hρ z (by simp[Op.operands])]
  split
  ·exact BW
  ·exact Cg.bot
 case binOp op ty x y ty2=>
  dsimp only;rw[hρ x (by simp[Op.operands]),hρ y (by simp[Op.operands])];exact Cg.refl
 case makeFunc f fst cap=>
  cases f with
  |func f=>
   dsimp only;have e2:=fC (ρ:=ρ) (ρ':=ρ') (xs:=cap.toList) (fun x hx=>hρ x (by simp only[Op.operands,Array.toList_append,List.mem_append];exact .inr hx));have e1:=fC (ρ:=ρ) (ρ':=ρ') (xs:=fst.toList) (fun x hx=>hρ x (by simp only[Op.operands,Array.toList_append,List.mem_append];exact .inl hx))
   cases hf:fst.toList with
   |nil=>exact Cg.refl
   |cons f1 fr=>
    rw[hf]at e1;dsimp only;rw[e1,e2];exact Cg.refl
  |_=>exact Cg.bot
 case call c=>
  obtain⟨cal,args,tys⟩:=c;have key:∀{x:Operand},x∈args.toList→ρ' x=ρ x:=by
   intro x hx;refine hρ x ?_;simp only[Op.operands,Call.operands,Array.toList_append,List.mem_append];exact .inr hx
  dsimp only
  split
  ·split
   ·rename_i x t' e1 e2;rw[key (x:=x) (by rw[e1];simp)]
    split
    ·exact JX
    ·exact Cg.bot
   ·exact Cg.bot
  ·split
   ·rename_i x y t' t'' e1 e2;rw[key (x:=x) (by rw[e1];simp),key (x:=y) (by rw[e1];simp)]
    split
    ·split
     ·exact Cg.ak D5
     ·exact Cg.ak Ba
    ·exact Cg.bot
   ·exact Cg.bot
  ·split
   ·rename_i x y t' t'' e1 e2;rw[key (x:=x) (by rw[e1];simp),key (x:=y) (by rw[e1];simp)]
    split
    ·exact Cg.ak Iw
    ·exact Cg.bot
   ·exact Cg.bot
  ·exact Cg.bot
theorem DV{ρ:Operand→Option D}{op:Op}{d:D}{rd:List Nat}{e:List (Nat×B)}(h:opX Q E η t ρ op=some (d,rd,e)){ρ':Operand→Option D}(hρ:∀x∈op.operands.toList,ρ' x=ρ x)(hη:∀b∈rd,η' b=η b):opX Q E η' t ρ' op=some (d,rd,e):=LG hρ d rd e h hη
end
def yW(Q:Nat→Bool)(E:TE)(η:Env)(t:Nat)(G:CG)(ρ:Operand→Option D)(op:Op)(k:Ks):Prop:=wpOp E η t G ρ op k∨∃d rd e,opX Q E η t ρ op=some (d,rd,e)∧k d rd e
section
variable {P:Program}{n:FD}{s:List (Nat×D)}{Γ:Nat→Option (List F)}{c:Cf}{a:Act}{w:World}{W:Bs}{O:Nat→Nat→Prop}{η:Env}{k:Ks}{E:TE}{t:Nat}{o:Oper}{ρ:Operand→Option D}{G:CG}{Q:Nat→Bool}
def FEq(P:Program)(t:Nat):Prop:=∀inf,P.info? t=some inf→∀(w:World) (xs ys:List D) (vs us:List Value) (c:Cf) (b:Bool),xs.length=inf.size→iq xs ys=some b→D.ah c xs vs→D.ah c ys us→(Op.equal t (.agg vs.toArray) (.agg us.toArray)).run P w=.ok b w∧P.eqGuardType P.depth t=false
theorem yw{k:TK}(h:rQ k=true):k.agg=true:=by
 cases k<;>simp[rQ,TK.agg]at h ⊢
theorem FT{P:Program}{t n:Nat}(h:LN P t n)(hn:0<n)(w:World):(isAgg t).run P w=.ok true w:=by
 have h0:=h.run ⟨0,0,none⟩ { w with heap:=#[.cells (Array.replicate n (Value.int .i64 0)) t] } (List.replicate n (Value.int .i64 0)) (by simp) (fun j v hj=>by
  obtain⟨h1,h2⟩:=List.getElem?_eq_some_iff.1 hj;simp at h1 h2;subst h2
  cases j<;>simp[World.cell?,Addr.add,h1])
 have hc:World.cell? { w with heap:=#[.cells (Array.replicate n (Value.int .i64 0)) t] } ⟨0,0,none⟩=some (.int .i64 0):=by simp[World.cell?,hn]
 cases hu:P.underlying t with
 |none=>
  exfalso
  revert h0
  simp[loadVar,isAgg,underlying,hu]
 |some d=>
  cases d<;>first
   |(simp[isAgg,run_underlying hu];done)
   |(exfalso;revert h0;simp[loadVar,isAgg,run_underlying hu,hc];done)
theorem b7{c:Bool}{x:Ot}{y}(h:(alO _).ak c x=some y):c=true∧x=some y:=pG.ak h
theorem wC{d:D}{f:Nat→Ot}{y}(h:fp (alO _) d f=some y):∃(ik:IntKind) (i:Nat),d=.fr (.vl (.int ik (i:Int)))∧f i=some y:=by
 unfold fp at h
 split at h
 ·rename_i ik m;obtain⟨i,rfl,h⟩:=pG.cF h;exact⟨ik,i,rfl,h⟩
 ·exact(pG.bot h).elim
theorem MY{α:Type}{xs:List α}{i:Nat}{f:α→Ot}{y}(h:(alO _).bm xs i f=some y):∃x,xs[i]?=some x∧f x=some y:=pG.bm h
theorem Nb{α:Type}{o:Option α}{f:α→Ot}{y}(h:(alO _).bm o.toList 0 f=some y):∃x,o=some x∧f x=some y:=by
 obtain⟨x,hx,h⟩:=pG.bm h
 cases o with
 |none=>cases hx
 |some x'=>cases hx;exact⟨_,rfl,h⟩
theorem bO{y}(h:(alO (D×List Nat×List (Nat×B))).bot=some y):False:=pG.bot h
theorem eg{d d':D}{rd rd':List Nat}{e e':List (Nat×B)}(h:(some (d,rd,e):Ot)=some (d',rd',e')):d=d'∧rd=rd'∧e=e':=by cases h;exact⟨rfl,rfl,rfl⟩
def Bnd(a:Act)(d0:Nat)(x:Option Operand)(i:Nat):Prop:=(x=none∧i=d0)∨∃y ik,x=some y∧a.eval y=.int ik (i:Int)
def M1(a:Act)(x hi:Option Operand)(h:Nat)(ex:Bool):Prop:=(x=none∧ex=false)∨∃y ik,x=some y∧a.eval y=.int ik (h:Int)∧ex=true∧hi≠none
theorem NB(hρ:∀x d,ρ x=some d→D.rep c d (a.eval x)){x:Option Operand}{n:Nat}{f:Nat→Ot}{y}(h:uW (alO _) n (dW ρ x) f=some y):∃i,f i=some y∧Bnd a n x i:=by
 cases x with
 |none=>exact⟨n,h,.inl ⟨rfl,rfl⟩⟩
 |some z=>
  cases hz:ρ z with
  |none=>simp only[dW,hz,uW]at h;exact(bO h).elim
  |some d=>
   simp only[dW,hz,uW]at h;obtain⟨ik,i,rfl,h⟩:=wC h;exact⟨i,h,.inr ⟨z,ik,rfl,aL (hρ z _ hz)⟩⟩
theorem Gw(hρ:∀x d,ρ x=some d→D.rep c d (a.eval x)){n:Nat}{lo hi mx:Option Operand}{f:Nat→Nat→Bool→Ot}{y}(h:rP (alO _) n (dW ρ lo) (dW ρ hi) (dW ρ mx) f=some y) :
  ∃l hh ex,f l hh ex=some y∧l≤hh∧hh≤n∧Bnd a 0 lo l∧Bnd a n hi hh∧M1 a mx hi hh ex:=by
 unfold rP at h;obtain⟨l,h,h1⟩:=NB hρ h;obtain⟨hh,h,h2⟩:=NB hρ h;obtain⟨h0,h⟩:=b7 h;rw[Bool.and_eq_true]at h0;refine⟨l,hh,?_⟩;have q1:=Nat.le_of_ble_eq_true h0.1;have q2:=Nat.le_of_ble_eq_true h0.2
 cases mx with
 |none=>exact⟨false,h,q1,q2,h1,h2,.inl ⟨rfl,rfl⟩⟩
 |some z=>
  cases hz:ρ z with
  |none=>simp only[dW,hz]at h;exact(bO h).elim
  |some d=>
   cases hi with
   |none=>simp only[dW,hz,Option.map]at h;exact(bO h).elim
   |some z2=>
    have h':fp (alO _) d (fun m=>(alO _).ak (Nat.beq m hh) (f l hh true))=some y:=by
     cases hz2:ρ z2<;>simpa only[dW,hz,hz2,Option.map]using h
    obtain⟨ik,i,rfl,h'⟩:=wC h';obtain⟨h3,h'⟩:=b7 h';have h3:=Nat.eq_of_beq_eq_true h3;subst h3;exact⟨true,h',q1,q2,h1,h2,.inr ⟨z,ik,rfl,aL (hρ z _ hz),rfl,by simp⟩⟩
theorem n8 {x:Operand}{t' e sz by_:Nat}{z:Value}{A:Option Addr}{m c0:Nat}{lo hi mx:Option Operand}{l h:Nat}{ex:Bool} (ht:SlT P t' e sz by_ z) (ho:o.op=.slice t' x lo hi mx) (hx:a.eval x=.slice A m c0)
  (hb:Bnd a 0 lo l∧Bnd a m hi h∧M1 a mx hi h ex) (hlh:l≤h) (hhm:h≤m) (hmc:m≤c0) :
  ∃A',(execOp a.eval o).run P w=.ok (.value (.slice A' (h-l) (bif ex then h-l else c0-l))) w∧(l=0∨l<(bif ex then h else c0)→A'=A.map (·.add (l*sz)))∧(A=none→A'=none):=by
 have z0:A.map (·.add (0*sz))=A:=by cases A<;>simp[Addr.add]
 obtain⟨hl,hh,hm⟩:=hb;obtain⟨inf,h1,h2,h3,h4⟩:=ht.info;rcases hm with⟨rfl,rfl⟩|⟨ym,im,rfl,hym,rfl,hne⟩
 ·refine⟨_,oP ht ho hx hl hh hlh (Nat.le_trans hhm hmc),fun hlt=>?_,fun e=>by subst e;simp⟩;rcases hlt with rfl|hlt
  ·rw[z0];simp
  simp at hlt;rw[if_neg (by omega)]
 ·refine⟨if h=l then A else A.map (·.add (l*sz)),?_,fun hlt=>?_,fun e=>by subst e;simp⟩
  ·have hhc:h≤c0:=by omega
   rcases hl with⟨rfl,rfl⟩|⟨y,ik,rfl,hy⟩<;>rcases hh with⟨rfl,rfl⟩|⟨y',ik',rfl,hy'⟩
   ·exact(hne rfl).elim
   ·simp[execOp,ho,hx,hym,hy',Instr.sliceAt,Instr.slice,Instr.sliceBounds,Instr.sliceBound,asIntOf,run_underlying ht.und,hhc,sizeOf,typeInfo,h1,h3]
   ·exact(hne rfl).elim
   ·simp[execOp,ho,hx,hym,hy,hy',Instr.sliceAt,Instr.slice,Instr.sliceBounds,Instr.sliceBound,asIntOf,run_underlying ht.und,hhc,hlh,sizeOf,typeInfo,h1,h3]
  ·rcases hlt with rfl|hlt
   ·rw[z0];simp
   simp at hlt;rw[if_neg (by omega)]
theorem Dh{d:D}{u:Value}{news:List (List F)}{rd:List Nat}{sz:Nat}(hp:Hp c O η w)(hd:D.rep c d u)(h:pZ η d=some (news,rd))(hs:∀r∈news,r.length=sz) :
  ∃A c' vr,u=.slice A news.length c'∧Arr sz (fun b=>b<w.heap.size) w A news.length vr∧F.aI c.Z c.R news vr∧∀r∈vr,cb r=true:=by
 unfold pZ at h
 split at h
 ·rename_i b v sz1 lo hi ex
  split at h
  ·rename_i v' e' sz' rows hb
   cases hv:(Nat.beq v v'&&Nat.beq sz1 sz')with
   |false=>rw[hv]at h;cases h
   |true=>
    rw[hv]at h;obtain⟨q1,q2⟩:=uJ hv;subst q1;subst q2
    cases h;unfold D.rep at hd;obtain⟨A,m,k',hA,h1,h2,h3,A2,hxv,hA2⟩:=hd;obtain⟨A',k2,vr,hA',hvr,hone,hown⟩:=hp.pc b _ hb;rw[hA]at hA'
    cases hA';have hl:((rows.take hi).drop lo).length=hi-lo:=by rw[List.length_drop,List.length_take,Nat.min_eq_left h2]
    have harr:=Arr.uZ (A':=A2) ((own.arr hown).mono (fun g hg=>hp.lt _ g hg)) h1 h2 (fun hlt=>hA2 (.inr (by cases ex<;>simp<;>omega)));have hr:=F.dn lo (F.cH hi hvr);rw[hl];exact⟨A2,_,(vr.take hi).drop lo,hxv,nK harr hr hs,hr,fun r hr=>hone r (List.mem_of_mem_take (List.mem_of_mem_drop hr))⟩
  ·cases h
 ·rename_i rows
  cases h;unfold D.rep at hd;obtain⟨A,vr,sz',hxv,harr,hone,hvr⟩:=hd;exact⟨A,_,vr,hxv,nK ((harr.loc (fun g hg=>(hp.fz g hg).2.1)).mono (fun g hg=>(hp.fz g hg).1)) hvr hs,hvr,hone⟩
 ·exact xg hp hd h hs
theorem pM{sz:Nat}:∀(rows:List (List Value)) (m:Nat),(∀r∈rows,r.length=sz)→rows.flatten.take (m*sz)=(rows.take m).flatten
 |[],m,_=>by simp
 |r::l,0,_=>by simp
 |r::l,m+1,h=>by
  have hr:=h r (by simp);have ih:=pM l m (fun x hx=>h x (by simp[hx]));rw[List.flatten_cons,List.take_append,List.take_succ_cons,List.flatten_cons,←ih,List.take_of_length_le (l:=r) (by rw[hr,Nat.add_mul];omega)]
  congr 2
  rw[hr,Nat.add_mul];omega
theorem sB{e sz n c m:Nat}{A:Option Addr}{rows:List (List Value)}{S:Nat→Prop}{w:World}(hm:m≤n)(h:(own e sz A n c rows).on S w):(own e sz A m c (rows.take m)).on S w:=by
 obtain⟨⟨hl,hc⟩,h2,h3,h4⟩:=h;have hrs:∀r∈rows.take m,r.length=sz:=fun r hr=>h3 r (List.mem_of_mem_take hr)
 have hrl:(rows.take m).length=m:=by simp;omega
 refine⟨⟨?_,?_⟩,hrl,hrs,?_⟩
 ·rw[length_flatten hrs,hrl]
 ·rcases hc with⟨hv,h0⟩|⟨g,cap,cur,hv,hg,hw,hr1,hr2,hr3,hr4⟩
  ·injection hv with hA hn hcc
   subst hA;subst hcc;have:m=0:=by omega
   subst this;exact .inl ⟨rfl,rfl⟩
  ·injection hv with hA hn hcc
   subst hA;subst hcc;refine .inr ⟨g,c,cur,rfl,hg,hw,by omega,hr2,hr3,?_⟩;have hle:m*sz≤n*sz:=Nat.mul_le_mul_right sz hm;rw[←pM rows m h3,←hr4,List.take_take,Nat.min_eq_left hle]
 ·intro g hg;refine h4 g ?_
  cases A with
  |none=>simp[Value.ownBlock]at hg
  |some a=>simpa [Value.ownBlock]using hg
theorem ID{d:D}{s:ByteArray}(h:IW d=some s):d=.fr (.vl (.string s)):=by
 unfold IW at h
 split at h
 ·cases h;rfl
 ·cases h
def mO(s:ByteArray):List (List Value):=(Lib.strCells s).map fun v=>[v]
theorem AZ(s:ByteArray):(mO s).flatten=Lib.strCells s:=by
 unfold mO
 induction Lib.strCells s with
 |nil=>rfl
 |cons v l ih=>simp only[List.map_cons,List.flatten_cons,ih];rfl
theorem EH(s:ByteArray):(mO s).length=s.size:=by rw[mO,List.length_map,Lib.strCells_length]
theorem xn{Z:Nat→Prop}{w:World}:∀(l:List UInt8),F.aI Z w (l.map byR) (l.map fun x=>[.int .u8 (x.toNat:Int)])
 |[]=>by simp[F.aI]
 |x::l=>by
  rw[List.map_cons,List.map_cons];unfold F.aI;exact⟨_,_,rfl,by unfold byR F.ah;exact⟨_,_,rfl,by unfold F.rep;rfl,by unfold F.ah;rfl⟩,xn l⟩
theorem uu(s:ByteArray):mO s=s.data.toList.map fun x=>[.int .u8 (x.toNat:Int)]:=by
 unfold mO Lib.strCells;rw[List.map_map];rfl
theorem tz{t' u e m c0:Nat}{ty:TypeId}{A:Option Addr}{rows:List (List Value)}{S0:Nat→Prop}{bs:ByteArray}(ht:SlT P t' e 1 1 (.int .u8 0))(hu:P.underlying u=some .string)(g2:(own e 1 A m c0 rows).on S0 w)(hb:m+bs.size≤140737488355328) :
  ∃A2 c2 w' S',(Builtin.append_ #[t',u] ty #[.slice A m c0,.string bs]).run P w=.ok (.slice A2 (m+bs.size) c2) w'∧Chg w w' S0∧(∀g,S' g→S0 g∨(w.heap.size≤g∧g<w'.heap.size))∧(own e 1 A2 (m+bs.size) c2 (rows++mO bs)).on S' w':=by
 obtain⟨inf,i1,i2,i3,i4⟩:=ht.info;have h63:m+bs.size≤maxLen:=by unfold maxLen;omega
 obtain⟨v',w',r1,r2,r3,r4⟩:=Lib.run_append_own_string (P:=P) w 0 t' u ty e inf ht.und hu i1 i2 i3 i4 (.slice A m c0) m rows.flatten g2.1 bs h63 hb (Nat.zero_le _);have r5:v'.ownBlock=(Value.slice A m c0).ownBlock∨v'.ownBlock=some w.heap.size∧w.heap.size<w'.heap.size:=by
  rcases g2.1.2 with⟨hv,h0⟩|⟨g,cap,cur,hv,_,hg,hnc,_,hcs,_⟩
  ·injection hv with a1 a2 a3
   subst a1;subst a2;subst a3
   by_cases hs:bs.size=0
   ·exact .inl (by rw[r4.2 ⟨rfl,hs⟩])
   ·have h:=run_append_nil_string (P:=P) w t' u ty e inf _ ht.und hu i1 i2 bs (by omega) (by omega) (by rw[i4];omega);rw[h]at r1
    injection r1 with e1 e2
    subst e1;subst e2;exact .inr ⟨rfl,by simp⟩
  ·injection hv with a1 a2 a3
   subst a1;subst a3
   by_cases hr:m+bs.size≤c0
   ·have h:=Lib.run_append_room_string (P:=P) w t' u ty e inf ht.und hu i1 i3 g m c0 cur hg bs hr (by omega);rw[h]at r1
    injection r1 with e1 e2
    subst e1;exact .inl rfl
   ·have holds:∀j u,rows.flatten[j]?=some u→w.cell? ((⟨g,0,none⟩:Addr).add j)=some u:=g2.1.cells (g:=g) rfl;have h:=Lib.run_append_grow_string (P:=P) w t' u ty e inf _ ht.und hu i1 i2 ⟨g,0,none⟩ m c0 rows.flatten (by rw[i3];exact g2.1.1) holds bs (by omega) (by omega) (by rw[i4];exact growslice_fits (by omega) (by omega));rw[h]at r1
    injection r1 with e1 e2
    subst e1;subst e2;exact .inr ⟨rfl,by simp⟩
 have hval:∃A2 c2,v'=.slice A2 (m+bs.size) c2:=by
  rcases r2.2 with⟨hv,h0⟩|⟨g,cap,cur,hv,_⟩
  ·exact⟨none,0,by rw[hv,h0]⟩
  ·exact⟨_,_,hv⟩
 obtain⟨A2,c2,rfl⟩:=hval;refine⟨A2,c2,w',fun b=>S0 b∨(w.heap.size≤b∧b<w'.heap.size),r1,Chg.grown r3 (fun g hg=>g2.2.2.2 g hg),fun b hb=>hb,by rw[List.flatten_append,AZ];simpa using r2,by simp[g2.2.1,EH],?_,fun g hg=>?_⟩
 ·intro r hr;rcases List.mem_append.1 hr with hr|hr
  ·exact g2.2.2.1 r hr
  ·obtain⟨v,_,rfl⟩:=List.mem_map.1 hr;rfl
 ·rcases r5 with r5|⟨r5,r6⟩
  ·exact .inl (g2.2.2.2 g (r5▸hg))
  ·rw[r5]at hg
   injection hg with hg
   exact .inr ⟨by omega,by omega⟩
theorem Lu{i:TI}(h:HF i=true):i.z=[.int .u8 0]:=by
 unfold HF at h
 split at h
 ·rename_i hz _;exact hz
 ·cases h
theorem Lr{t' e sz by_:Nat}{z:Value}{i:TI}(ht:SlT P t' e sz by_ z)(hi:TOk P e i)(h:HF i=true):z=.int .u8 0:=by
 obtain⟨inf,i1,i2,i3,i4⟩:=ht.info;have hz:=Lu h;have hk:i.k=.int .u8:=by
  unfold HF at h
  split at h
  ·rename_i _ hk;exact hk
  ·cases h
 have hd:=hi.zd (by rw[hz];simp);rw[hk]at hd;have h2:=(hd _ hz).run default;have h3:(zeroValue e).run P default=.ok z default:=by
  simp[zeroValue,typeInfo,i1,i2]
 rw[h3]at h2
 cases h2;rfl
theorem ru{t' e sz by_ m m' c':Nat}{ty:TypeId}{z:Value}{A A':Option Addr}{c0:Nat}(ht:SlT P t' e sz by_ z)(hcap:m≤c0)(h0:m'=0):(Builtin.append_ #[t',t'] ty #[.slice A m c0,.slice A' m' c']).run P w=.ok (.slice A m c0) w:=by
 obtain⟨inf,i1,i2,i3,i4⟩:=ht.info;subst h0;have hfc:(Builtin.firstCells inf.size 0 (.slice A' 0 c')).run P w=.ok #[] w:=by
  cases A'<;>simp[Builtin.firstCells,loadCells,loadCellsFrom]
 cases A<;>simp[Builtin.append_,run_underlying ht.und,sizeOf,typeInfo,i1,Builtin.lenOf,hcap,hfc,storeCells]
theorem oN {t' e sz by_ m m' c':Nat}{ty:TypeId}{z:Value}{A A':Option Addr}{vr news:List (List Value)}{Z0:Nat→Prop} (ht:SlT P t' e sz by_ z) (h0:Arr sz Z0 w A m vr) (hno:∀r∈news,cb r=true)
  (harr:Arr sz (fun b=>b<w.heap.size) w A' m' news) (hpos:0<m') (h63:m+m'≤maxLen) (hb:(m+m')*by_≤140737488355328) :
  ∃A2 c2 w',(Builtin.append_ #[t',t'] ty #[.slice A m m,.slice A' m' c']).run P w=.ok (.slice A2 (m+m') c2) w'∧Sl.St w [own e sz A2 (m+m') c2 (vr++news)] w':=by
 obtain⟨inf,i1,i2,i3,i4⟩:=ht.info
 cases A with
 |none=>
  have hm:m=0:=by
   rcases Nat.eq_zero_or_pos m with h|h
   ·exact h
   ·obtain⟨_,e1,_⟩:=h0.2.2 h
    cases e1
  subst hm;have hv:vr=[]:=List.eq_nil_of_length_eq_zero h0.1;subst hv;have hon:(own e sz none 0 0 []).on (fun _=>False) w:=⟨World.ownsRow_nil w 0 e sz,rfl,by simp,fun g hg=>by simp[Value.ownBlock]at hg⟩
  obtain⟨A2,c2,w',S',hrun,hc,hsub,hown'⟩:=gM (P:=P) (ty:=ty) (c':=c') ht hon harr hno h63 hb;refine⟨A2,c2,w',hrun,⟨⟨hc.os,hc.tape,hc.output,hc.size,fun g hg=>hc.block g hg (fun h=>h)⟩,S',fun g hg=>?_,hown',trivial⟩⟩;rcases hsub g hg with h|h
  ·exact h.elim
  ·exact h
 |some ad0=>
  have hc0:∀(j:Nat) (u:Value),vr.flatten[j]?=some u→w.cell? (ad0.add j)=some u:=by
   rcases Nat.eq_zero_or_pos m with h|h
   ·have hv:vr=[]:=List.eq_nil_of_length_eq_zero (by rw[h0.1];exact h);subst hv;intro j u hj;simp at hj
   ·obtain⟨_,e1,_,hc0⟩:=h0.2.2 h
    cases e1;exact hc0
  obtain⟨ad,rfl,_,hc⟩:=harr.2.2 hpos;have hol:vr.flatten.length=m*sz:=by rw[length_flatten h0.2.1,h0.1]
  have hnl:news.flatten.length=m'*sz:=by rw[length_flatten harr.2.1,harr.1]
  obtain⟨v',w',r1,r2,r3⟩:=run_append_arg_grows (P:=P) w t' ty e inf z sz by_ ht.und i1 i2 i3 i4 ht.zsz ht.pos ad0 m m vr.flatten hol hc0 ad m' c' news.flatten hnl hc (by omega) h63 hb;rcases r2.2 with⟨hv,hz⟩|⟨g,cap,cur,hv,hg,hw,hr⟩
  ·omega
  ·subst hv;have hw':w'.heap[g]?.isSome=true:=by rw[hw];rfl
   have hglt:g<w'.heap.size:=by
    cases h:w'.heap[g]? with
    |none=>rw[h]at hw';cases hw'
    |some _=>exact(Array.getElem?_eq_some_iff.1 h).1
   refine⟨_,_,w',r1,⟨⟨r3.os,r3.tape,r3.output,r3.size,fun q hq=>r3.block q hq (by simp)⟩,fun q=>q=g,fun q hq=>⟨by subst hq;exact hg,by subst hq;exact hglt⟩,⟨?_,by simp[h0.1,harr.1],?_,fun q hq=>by simpa [Value.ownBlock]using hq.symm⟩,trivial⟩⟩
   ·have r2':=r2;rw[←List.flatten_append]at r2';exact⟨r2'.1,.inr ⟨g,cap,cur,rfl,Nat.zero_le _,hw,by simpa using hr⟩⟩
   ·intro r hr';rcases List.mem_append.1 hr' with hr'|hr'
    ·exact h0.2.1 r hr'
    ·exact harr.2.1 r hr'
theorem Gj{t:Nat}{ei:TI}(ht:TOk P t ei)(h:Bv ei=true):∃zv,ZV P t zv∧D.rep c (vZ ei) zv:=by
 have hzd:=ht.zd;unfold Bv at h;unfold vZ
 split at h
 ·rename_i v hk hz;rw[hk,hz]at hzd ⊢;exact⟨v,hzd (by simp) v rfl,aX v⟩
 ·rename_i v l hk hz;rw[hk]at hzd ⊢;refine⟨.agg ei.z.toArray,hzd (by rw[hz];simp),?_⟩;dsimp only;unfold D.rep;exact⟨_,rfl,sV _⟩
 ·cases h
theorem jo{sz:Nat}{rows:List (List F)}(h:pA sz rows=true):∀r∈rows,r.length=sz:=fun r hr=>Nat.eq_of_beq_eq_true (List.all_eq_true.1 h r hr)
theorem y6{a b:IntKind}(h:xR a b=true):a=b:=by cases a<;>cases b<;>simp[xR]at h<;>rfl
theorem Lb(a b:Int):eqN a b=(a==b):=by
 cases a<;>cases b<;>simp[eqN]<;>rw[Bool.eq_iff_iff]<;>simp<;>omega
theorem GK:∀(l m:List UInt8),eqL l m=true↔l=m
 |[],[]=>by simp[eqL]
 |[],_::_=>by simp[eqL]
 |_::_,[]=>by simp[eqL]
 |x::l,y::m=>by
  simp only[eqL,Bool.and_eq_true,GK l m,List.cons.injEq]
  constructor
  ·rintro⟨h1,h2⟩;exact⟨UInt8.toNat_inj.1 (Nat.eq_of_beq_eq_true h1),h2⟩
  ·rintro⟨h1,h2⟩;subst h1;exact⟨Nat.beq_refl _,h2⟩
theorem vx(s t:ByteArray):eqL s.data.toList t.data.toList=decide (s=t):=by
 rw[Bool.eq_iff_iff,GK,decide_eq_true_iff]
 constructor
 ·intro h;exact ByteArray.ext (Array.ext' h)
 ·rintro rfl;rfl
theorem xY{Z:Nat→Prop}{w':World}{desc:TypeDesc}{u v:Value}{x:F}{q:Bool}(hk:MapKept.IsKey desc u)(h:yg (.vl u) x=some q)(hx:F.rep Z w' x v):Instr.sameNow desc u v=some q∧(q=true→v=u):=by
 unfold yg at h
 split at h
 ·rename_i k1 a1 k2 b1 e
  cases e
  cases hkb:xR k1 k2 with
  |false=>rw[hkb]at h;cases h
  |true=>
   rw[hkb]at h;have:=y6 hkb;subst this;unfold F.rep at hx;subst hx;simp only[cond_true,Option.some.injEq]at h;subst h;rw[Lb]
   cases desc<;>simp[MapKept.IsKey]at hk
   subst hk;exact⟨by simp[Instr.sameNow],fun e=>by rw[beq_iff_eq]at e;rw[e]⟩
 ·rename_i s1 s2 e
  cases e;unfold F.rep at hx;subst hx;simp only[Option.some.injEq]at h;subst h;rw[vx]
  cases desc<;>simp[MapKept.IsKey]at hk
  exact⟨by simp only[Instr.sameNow];congr 1;rw[Bool.eq_iff_iff,MapKept.bytes_beq,decide_eq_true_iff],fun e=>by rw[decide_eq_true_iff]at e;rw[e]⟩
 ·cases h
theorem lx{Z:Nat→Prop}{w':World}{desc:TypeDesc}{u:Value}(hk:MapKept.IsKey desc u):∀{rows:List (List F)}{es:List MapEntry}{i:Nat}{r:Option (Nat×F)},F.aI Z w' rows (es.map fun e=>[e.key,e.val])→gY (.vl u) rows i=some r→
  (r=none∧Instr.findNow desc u es i=some none)∨∃j x e,r=some (j,x)∧i≤j∧es[j-i]?=some e∧e.key=u∧F.rep Z w' x e.val∧Instr.findNow desc u es i=some (some (j,e.val))
 |[],es,i,r,hr,h=>by
  simp only[gY,Option.some.injEq]at h;subst h;unfold F.aI at hr;have:es=[]:=by simpa using hr
  subst this;exact .inl ⟨rfl,rfl⟩
 |row::rows,[],i,r,hr,h=>by
  unfold F.aI at hr;obtain⟨a1,b1,h1,_⟩:=hr
  cases h1
 |row::rows,e::es,i,r,hr,h=>by
  unfold F.aI at hr;obtain⟨a1,b1,h1,h2,h3⟩:=hr
  cases h1;simp only[gY]at h
  split at h
  ·rename_i k' v;unfold F.ah at h2;obtain⟨u1,us1,q1,q2,q3⟩:=h2
   cases q1;unfold F.ah at q3;obtain⟨u2,us2,q4,q5,q6⟩:=q3
   cases q4
   split at h
   ·rename_i hs;obtain⟨r1,r2⟩:=xY hk hs q2
    cases h;exact .inr ⟨i,v,e,rfl,Nat.le_refl _,by simp,r2 rfl,q5,by simp[Instr.findNow,r1]⟩
   ·rename_i hs;obtain⟨r1,_⟩:=xY hk hs q2;rcases lx hk h3 h with⟨p1,p2⟩|⟨j,x,e',p1,p2,p3,p4,p5,p6⟩
    ·exact .inl ⟨p1,by simp[Instr.findNow,r1,p2]⟩
    ·refine .inr ⟨j,x,e',p1,by omega,?_,p4,p5,by simp[Instr.findNow,r1,p6]⟩;rw[show j-i=(j-(i+1))+1 by omega];simpa using p3
   ·cases h
  ·cases h
theorem MV{kt:Nat}{ki:TI}{dk:D}{kf:F}{u:Value}(ht:TOk P kt ki)(h1:Dd ki dk=true)(h2:Dw dk=some kf)(hd:D.rep c dk u):kf=.vl u∧∃desc,P.underlying kt=some desc∧MapKept.IsKey desc u:=by
 have hkk:=ht.k;unfold Dd at h1
 split at h1
 ·rename_i k1 k2 m hk;have:=y6 h1;subst this;have hu:=aL hd;simp only[Dw]at h2
  cases h2;rw[hk]at hkk;simp only at hkk;exact⟨by rw[hu],_,hkk.eq,by rw[hu];rfl⟩
 ·rename_i s1 hk;have hu:=aL hd;simp only[Dw]at h2
  cases h2;rw[hk]at hkk;simp only at hkk;exact⟨by rw[hu],_,hkk.eq,by rw[hu];trivial⟩
 ·cases h1
section
variable (hE:∀t i,E t=some i→TOk P t i) (hp:Hp c O η w) (hold:Old W c O w) {d:D}{rd:List Nat}{e:List (Nat×B)} (hk:k d rd e)
include hE hp hold hk
theorem E2{x y:Operand}{t':Nat}{dx dy:D}(ho:o.op=.index t' x y)(hx:D.rep c dx (a.eval x))(hy:D.rep c dy (a.eval y))(h:lZ (alO _) E t' dx dy (fun d rd e=>some (d,rd,e))=some (d,rd,e)):ax P o a w (Res W η c k):=by
 unfold lZ at h
 split at h
 ·rename_i sz0 z0 len el sz hi;obtain⟨ik,i,rfl,h⟩:=wC h;have hyv:=aL hy;have ht:=((hE _ _ hi).k).1;obtain⟨inf,g1,g2⟩:=ht.info
  split at h
  ·rename_i ie hie
   cases hst:rQ ie.k
   rotate_left
   ·rw[hst]at h;obtain⟨h0,h⟩:=b7 h;simp only[Bool.and_eq_true]at h0;obtain⟨⟨⟨⟨h1,h2⟩,h3⟩,h4⟩,h5⟩:=h0;have h2:=b6 h2;have h3:=Nat.eq_of_beq_eq_true h3;have h4:=b6 h4;have h5:=Nat.le_of_ble_eq_true h5;obtain⟨rfl,rfl,rfl⟩:=eg h;have hcells:∃vs:List Value,a.eval x=.agg vs.toArray∧D.ah c dx.cells vs:=by
     cases dx with
     |ag cs=>unfold D.rep at hx;exact hx
     |fr f=>
      cases f with
      |ag cs=>unfold D.rep F.rep at hx;obtain⟨vs,q1,q2⟩:=hx;exact⟨vs,q1,D.fg q2⟩
      |_=>simp[jF]at h1
     |_=>simp[jF]at h1
    obtain⟨vs,hxv,hvs⟩:=hcells;have hagg:ie.k.agg=true:=yw hst;have hag:=FT ((hE _ _ hie).ldA hagg) (by omega) w;have e:vs.toArray.extract (i*sz) (i*sz+sz)=((vs.drop (i*sz)).take sz).toArray:=by
     apply Array.ext';simp[List.extract_eq_take_drop]
    refine ax.aw (v:=.agg ((vs.drop (i*sz)).take sz).toArray) ?_ (Res.val hk (by unfold D.rep;exact⟨_,rfl,D.cY _ (D.da _ hvs)⟩) hp hold);simp[execOp,ho,hxv,hyv,Instr.index,asIntOf,run_underlying ht.und,part,hag,sizeOf,typeInfo,g1,g2,h2,e]
   rw[hst]at h;obtain⟨h0,h⟩:=b7 h;rw[Bool.and_eq_true,Bool.and_eq_true]at h0;obtain⟨⟨h1,h2⟩,h3⟩:=h0;have h2:=b6 h2;obtain⟨q,hq,h⟩:=MY h;obtain⟨rfl,rfl,rfl⟩:=eg h;have hcells:∃vs:List Value,a.eval x=.agg vs.toArray∧D.ah c dx.cells vs:=by
    cases dx with
    |ag cs=>unfold D.rep at hx;exact hx
    |fr f=>
     cases f with
     |ag cs=>unfold D.rep F.rep at hx;obtain⟨vs,q1,q2⟩:=hx;exact⟨vs,q1,D.fg q2⟩
     |_=>simp[jF]at h1
    |_=>simp[jF]at h1
   obtain⟨vs,hxv,hvs⟩:=hcells;obtain⟨u,hu,hqu⟩:=D.b5 hvs hq;have hag:(isAgg el).run P w=.ok false w:=by
    have hkk:=(hE _ _ hie).k
    revert hkk h3
    cases ie.k
    case fn=>
     intro _ ⟨q1,q2,q3,hkk⟩;simp[isAgg,run_underlying hkk.eq]
    all_goals simp[Ha,isAgg]
    all_goals intro hkk
    all_goals simp[run_underlying hkk.eq]
   refine ax.aw (v:=u) ?_ (Res.val hk hqu hp hold);simp[execOp,ho,hxv,hyv,Instr.index,asIntOf,run_underlying ht.und,part,hag,sizeOf,typeInfo,g1,g2,h2,hu]
  ·exact(bO h).elim
 ·exact(bO h).elim
theorem xC{f:FuncId}{fst cap:Array Operand}(hρ:∀x d,ρ x=some d→D.rep c d (a.eval x))(ho:o.op=.makeFunc (.func f) fst cap)(h:opX Q E η t ρ (.makeFunc (.func f) fst cap)=some (d,rd,e)):ax P o a w (Res W η c k):=by
 unfold opX mX at h;dsimp only at h
 split at h
 ·exact(bO h).elim
 ·rename_i f1 fr hf
  split at h
  ·rename_i l m hl hm;obtain⟨rfl,rfl,rfl⟩:=eg h;have hl:=jP hρ hl;have hm:=jP hρ hm;refine ax.aw (v:=.func (.func f) (fst.toList.map a.eval).toArray (cap.toList.map a.eval).toArray) ?_ (Res.val hk (by unfold D.rep;exact⟨_,_,rfl,by rw[hf];exact hl,hm⟩) hp hold);simp[execOp,ho,Instr.makeFunc,←Array.toList_map]
  ·exact(bO h).elim
theorem IM{op:BinOp}{ty ty2:Nat}{x y:Operand}{dx dy:D}(hQ:∀t,Q t=true→FEq P t)(ho:o.op=.binOp op ty x y ty2)(hx:D.rep c dx (a.eval x))(hy:D.rep c dy (a.eval y))(h:wm (alO _) Q E op ty dx dy (fun d rd e=>some (d,rd,e))=some (d,rd,e)):ax P o a w (Res W η c k):=by
 have fin:∀{r:Option Bool},mL (alO _) op r (fun d rd e=>some (d,rd,e))=some (d,rd,e)→∃b,r=some b∧rd=[]∧e=[]∧((op=.eql∧d=Bo b)∨(op=.neq∧d=Bo (!b))):=by
  intro r h;unfold mL at h
  split at h
  ·rename_i b _;obtain⟨rfl,rfl,rfl⟩:=eg h;exact⟨b,rfl,rfl,rfl,.inl ⟨rfl,rfl⟩⟩
  ·rename_i b _;obtain⟨rfl,rfl,rfl⟩:=eg h;exact⟨b,rfl,rfl,rfl,.inr ⟨rfl,rfl⟩⟩
  ·exact(bO h).elim
 have run:∀{b:Bool},rd=[]→e=[]→((op=.eql∧d=Bo b)∨(op=.neq∧d=Bo (!b)))→(eqGuard op ty x y (a.eval x) (a.eval y)).run P w=.ok () w→(Op.equal ty (a.eval x) (a.eval y)).run P w=.ok b w→
   (binOp .eql ty (a.eval x) (a.eval y)=(do pure (.bool (←Op.equal ty (a.eval x) (a.eval y))))∧binOp .neq ty (a.eval x) (a.eval y)=(do pure (.bool !(←Op.equal ty (a.eval x) (a.eval y)))))→ax P o a w (Res W η c k):=by
  rintro b rfl rfl hd h1 h2 ⟨h3,h4⟩
  rcases hd with⟨rfl,rfl⟩|⟨rfl,rfl⟩
  ·refine ax.aw (v:=.bool b) ?_ (Res.val hk (aX _) hp hold);simp[execOp,ho,h1,h3,h2]
  ·refine ax.aw (v:=.bool (!b)) ?_ (Res.val hk (aX _) hp hold);simp[execOp,ho,h1,h4,h2]
 unfold wm at h
 split at h
 ·rename_i sz0 z0 hi;obtain⟨b,hb,hrd,he,hd⟩:=fin h;have ht:=(hE _ _ hi).k;simp only at ht;obtain⟨p1,p2,p3,ht⟩:=ht;have key:∀{z:D}{u:Value}{q:Bool},xq z=some q→D.rep c z u→(q=true∧u=.nilFunc)∨(q=false∧∃f l m,u=.func f l m):=by
   intro z u q hz hu;unfold xq at hz
   split at hz<;>cases hz
   ·exact .inl ⟨rfl,aL hu⟩
   ·unfold D.rep at hu;obtain⟨vs,rfl,_⟩:=hu;exact .inr ⟨rfl,_,_,_,rfl⟩
   ·unfold D.rep F.rep at hu;obtain⟨vs,rfl,_⟩:=hu;exact .inr ⟨rfl,_,_,_,rfl⟩
   ·unfold D.rep at hu;obtain⟨us,vs,rfl,_⟩:=hu;exact .inr ⟨rfl,_,_,_,rfl⟩
   ·unfold D.rep at hu;obtain⟨g,_,rfl⟩:=hu;exact .inr ⟨rfl,_,_,_,rfl⟩
  have eq:∀(u v:Value) (q:Bool),((u=.nilFunc∧v=.nilFunc∧q=true)∨(u=.nilFunc∧(∃f l m,v=.func f l m)∧q=false)∨(v=.nilFunc∧(∃f l m,u=.func f l m)∧q=false))→(Op.equal ty u v).run P w=.ok q w∧(eqGuard op ty x y u v).run P w=.ok () w∧
    (binOp .eql ty u v=(do pure (.bool (←Op.equal ty u v)))∧binOp .neq ty u v=(do pure (.bool !(←Op.equal ty u v)))):=by
   intro u v q h;rcases h with⟨rfl,rfl,rfl⟩|⟨rfl,⟨f,l,m,rfl⟩,rfl⟩|⟨rfl,⟨f,l,m,rfl⟩,rfl⟩
   all_goals
    refine⟨?_,?_,rfl,rfl⟩
    ·show(Op.equalIn (9999+1) ty _ _).run P w=_
     rw[Op.equalIn];simp[run_underlying ht.eq]
    ·unfold eqGuard
     cases op<;>simp
  unfold Kk at hb
  cases h1:isT (xq dy)with
  |true=>
   rw[h1]at hb;simp only[cond_true]at hb;have h1':xq dy=some true:=by
    revert h1;cases xq dy with
    |none=>simp[isT]
    |some q=>cases q<;>simp[isT]
   rcases key h1' hy with⟨_,hyv⟩|⟨h0,_⟩
   ·rcases key hb hx with⟨rfl,hxv⟩|⟨rfl,f,l,m,hxv⟩
    ·obtain⟨r1,r2,r3⟩:=eq (a.eval x) (a.eval y) true (.inl ⟨hxv,hyv,rfl⟩);exact run hrd he hd r2 r1 r3
    ·obtain⟨r1,r2,r3⟩:=eq (a.eval x) (a.eval y) false (.inr (.inr ⟨hyv,⟨f,l,m,hxv⟩,rfl⟩));exact run hrd he hd r2 r1 r3
   ·cases h0
  |false=>
   rw[h1]at hb;simp only[cond_false]at hb
   cases h2:isT (xq dx)with
   |false=>rw[h2]at hb;cases hb
   |true=>
    rw[h2]at hb;simp only[cond_true]at hb;have h2':xq dx=some true:=by
     revert h2;cases xq dx with
     |none=>simp[isT]
     |some q=>cases q<;>simp[isT]
    rcases key h2' hx with⟨_,hxv⟩|⟨h0,_⟩
    ·rcases key hb hy with⟨rfl,hyv⟩|⟨rfl,f,l,m,hyv⟩
     ·obtain⟨r1,r2,r3⟩:=eq (a.eval x) (a.eval y) true (.inl ⟨hxv,hyv,rfl⟩);exact run hrd he hd r2 r1 r3
     ·obtain⟨r1,r2,r3⟩:=eq (a.eval x) (a.eval y) false (.inr (.inl ⟨hxv,⟨f,l,m,hyv⟩,rfl⟩));exact run hrd he hd r2 r1 r3
    ·cases h0
 ·rename_i sz0 z0 hi;obtain⟨b,hb,hrd,he,hd⟩:=fin h;have ht:=(hE _ _ hi).k;simp only at ht;obtain⟨p1,p2,ht,hsz,hpos⟩:=ht;have key:∀{z:D}{u:Value}{q:Bool},wX z=some q→D.rep c z u→(q=true∧u=.pointer none)∨(q=false∧∃A,u=.pointer (some A)):=by
   intro z u q hz hu;unfold wX at hz
   split at hz<;>cases hz
   ·exact .inl ⟨rfl,aL hu⟩
   ·unfold D.rep at hu;obtain⟨g,_,rfl⟩:=hu;exact .inr ⟨rfl,_,rfl⟩
   ·unfold D.rep at hu;obtain⟨A,m,k',_,rfl⟩:=hu;exact .inr ⟨rfl,_,rfl⟩
   ·unfold D.rep F.rep at hu;obtain⟨A,vr,rfl,_⟩:=hu;exact .inr ⟨rfl,_,rfl⟩
  have eq:∀(u v:Value) (q:Bool),((u=.pointer none∧v=.pointer none∧q=true)∨(u=.pointer none∧(∃A,v=.pointer (some A))∧q=false)∨(v=.pointer none∧(∃A,u=.pointer (some A))∧q=false))→(Op.equal ty u v).run P w=.ok q w∧(eqGuard op ty x y u v).run P w=.ok () w∧
    (binOp .eql ty u v=(do pure (.bool (←Op.equal ty u v)))∧binOp .neq ty u v=(do pure (.bool !(←Op.equal ty u v)))):=by
   intro u v q h;rcases h with⟨rfl,rfl,rfl⟩|⟨rfl,⟨A,rfl⟩,rfl⟩|⟨rfl,⟨A,rfl⟩,rfl⟩
   all_goals
    refine⟨?_,?_,rfl,rfl⟩
    ·show(Op.equalIn (9999+1) ty _ _).run P w=_
     rw[Op.equalIn];simp[run_underlying ht.eq]
    ·unfold eqGuard
     cases op<;>simp
  unfold Kk at hb
  cases h1:isT (wX dy)with
  |true=>
   rw[h1]at hb;simp only[cond_true]at hb;have h1':wX dy=some true:=by
    revert h1;cases wX dy with
    |none=>simp[isT]
    |some q=>cases q<;>simp[isT]
   rcases key h1' hy with⟨_,hyv⟩|⟨h0,_⟩
   ·rcases key hb hx with⟨rfl,hxv⟩|⟨rfl,A,hxv⟩
    ·obtain⟨r1,r2,r3⟩:=eq (a.eval x) (a.eval y) true (.inl ⟨hxv,hyv,rfl⟩);exact run hrd he hd r2 r1 r3
    ·obtain⟨r1,r2,r3⟩:=eq (a.eval x) (a.eval y) false (.inr (.inr ⟨hyv,⟨A,hxv⟩,rfl⟩));exact run hrd he hd r2 r1 r3
   ·cases h0
  |false=>
   rw[h1]at hb;simp only[cond_false]at hb
   cases h2:isT (wX dx)with
   |false=>rw[h2]at hb;cases hb
   |true=>
    rw[h2]at hb;simp only[cond_true]at hb;have h2':wX dx=some true:=by
     revert h2;cases wX dx with
     |none=>simp[isT]
     |some q=>cases q<;>simp[isT]
    rcases key h2' hx with⟨_,hxv⟩|⟨h0,_⟩
    ·rcases key hb hy with⟨rfl,hyv⟩|⟨rfl,A,hyv⟩
     ·obtain⟨r1,r2,r3⟩:=eq (a.eval x) (a.eval y) true (.inl ⟨hxv,hyv,rfl⟩);exact run hrd he hd r2 r1 r3
     ·obtain⟨r1,r2,r3⟩:=eq (a.eval x) (a.eval y) false (.inr (.inl ⟨hxv,⟨A,hyv⟩,rfl⟩));exact run hrd he hd r2 r1 r3
    ·cases h0
 ·rename_i sz0 z0 e0 s0 b0 hi;have ht:=(hE _ _ hi).k;simp only at ht;obtain⟨z,ht⟩:=ht;have eq:∀(u:Value) (q:Bool),((u=.slice none 0 0∧q=true)∨((∃A n m,u=.slice (some A) n m)∧q=false))→(Op.equal ty u (.slice none 0 0)).run P w=.ok q w∧(eqGuard op ty x y u (.slice none 0 0)).run P w=.ok () w∧
    (binOp .eql ty u (.slice none 0 0)=(do pure (.bool (←Op.equal ty u (.slice none 0 0))))∧binOp .neq ty u (.slice none 0 0)=(do pure (.bool !(←Op.equal ty u (.slice none 0 0))))):=by
   intro u q h;rcases h with⟨rfl,rfl⟩|⟨⟨A,n,m,rfl⟩,rfl⟩
   all_goals
    refine⟨?_,?_,rfl,rfl⟩
    ·show(Op.equalIn (9999+1) ty _ _).run P w=_
     rw[Op.equalIn];simp[run_underlying ht.und]
    ·unfold eqGuard
     cases op<;>simp
  split at h
  ·rename_i rows;obtain⟨h0,h⟩:=b7 h;obtain⟨b,hb,hrd,he,hd⟩:=fin h
   cases hb;have hyv:=aL hy;unfold D.rep F.rep at hx;obtain⟨A,cp,vr,sz,hxv,_,har,_⟩:=hx;have hpos:0<rows.length:=Nat.le_of_ble_eq_true h0;obtain⟨A',rfl,_⟩:=har.2.2 hpos;obtain⟨r1,r2,r3⟩:=eq (a.eval x) false (.inr ⟨⟨_,_,_,hxv⟩,rfl⟩);rw[←hyv]at r1 r2 r3;exact run hrd he hd r2 r1 r3
  ·obtain⟨b,hb,hrd,he,hd⟩:=fin h
   cases hb;have hyv:=aL hy;have hxv:=aL hx;obtain⟨r1,r2,r3⟩:=eq (a.eval x) true (.inl ⟨hxv,rfl⟩);rw[←hyv]at r1 r2 r3;exact run hrd he hd r2 r1 r3
  ·exact(bO h).elim
 ·rename_i i _ _ _ hi;obtain⟨h0,h⟩:=b7 h;obtain⟨b,hb,hrd,he,hd⟩:=fin h;simp only[Bool.and_eq_true]at h0;obtain⟨⟨⟨⟨q1,q2⟩,q3⟩,q4⟩,q5⟩:=h0;have agx:∀{z:D}{u:Value},jF z=true→D.rep c z u→∃vs:List Value,u=.agg vs.toArray∧D.ah c z.cells vs:=by
   intro z u hz hu
   cases z with
   |ag cs=>unfold D.rep at hu;exact hu
   |fr f=>
    cases f with
    |ag cs=>unfold D.rep F.rep at hu;obtain⟨vs,q1,q2⟩:=hu;exact⟨vs,q1,D.fg q2⟩
    |_=>simp[jF]at hz
   |_=>simp[jF]at hz
  obtain⟨vs,hxv,hvs⟩:=agx q2 hx;obtain⟨us,hyv,hus⟩:=agx q3 hy;obtain⟨inf,hinf,hsz⟩:=(hE _ _ hi).sz.info;obtain⟨r1,r2⟩:=hQ ty q1 inf hinf w _ _ _ _ c b (by rw[hsz];exact Nat.eq_of_beq_eq_true q4) hb hvs hus;refine run hrd he hd ?_ (by rw[hxv,hyv];exact r1) ?_
  ·rw[hxv,hyv];exact run_eqGuard_agg w _ _ _ _ _ _ r2
  ·rw[hxv,hyv];exact⟨rfl,rfl⟩
 ·exact(bO h).elim
theorem Ki{x:Operand}{t':Nat}{dx:D}(ho:o.op=.call ⟨.builtin .len,#[x],#[t']⟩)(hx:D.rep c dx (a.eval x))(h:oU (alO _) E η t' dx (fun d rd e=>some (d,rd,e))=some (d,rd,e)):ax P o a w (Res W η c k):=by
 unfold oU at h
 split at h
 ·rename_i sz0 z0 el sz by_ hi;have hkk:=(hE _ _ hi).k;simp only at hkk;obtain⟨zv,ht⟩:=hkk
  split at h
  ·rename_i b v sz' lo hi' ex;obtain⟨rfl,rfl,rfl⟩:=eg h;unfold D.rep at hx;obtain⟨A,m,k',h1,h2,h3,h4,A',hxv,_⟩:=hx;refine ax.aw (v:=.int .i64 ((hi'-lo:Nat):Int)) ?_ (Res.val hk (aX _) hp hold);simp[execOp,ho,resolve,hxv,invoke,builtin,Builtin.len_,run_underlying ht.und,goInt]
  ·rename_i rows;obtain⟨rfl,rfl,rfl⟩:=eg h;unfold D.rep at hx;obtain⟨A,vr,sz',hxv,_⟩:=hx;refine ax.aw (v:=.int .i64 (rows.length:Int)) ?_ (Res.val hk (aX _) hp hold);simp[execOp,ho,resolve,hxv,invoke,builtin,Builtin.len_,run_underlying ht.und,goInt]
  ·exact(bO h).elim
 ·rename_i sz0 z0 kt et hi;have ht:=(hE _ _ hi).k;simp only at ht
  split at h
  ·rename_i b v
   split at h
   ·rename_i v' rows hb;obtain⟨hv,h2⟩:=b7 h;clear h;have hv:=Nat.eq_of_beq_eq_true hv;subst hv;obtain⟨rfl,rfl,rfl⟩:=eg h2;unfold D.rep at hx;obtain⟨g,hg,hxv⟩:=hx;obtain⟨g',es,ck,hg',hS,hw,hrep⟩:=hp.pc b _ hb;rw[hg]at hg'
    cases hg';have hlen:=F.ic hrep;simp at hlen;refine ax.aw (v:=.int .i64 (rows.length:Int)) ?_ (Res.val hk (aX _) hp hold);simp[execOp,ho,resolve,hxv,invoke,builtin,Builtin.len_,run_underlying ht.eq,goInt,MapKept.run_getObj_map hw,hlen]
   ·exact(bO h).elim
  ·rename_i rows;obtain⟨rfl,rfl,rfl⟩:=eg h;unfold D.rep F.rep at hx;obtain⟨g,es,ck,hxv,hz,hw,hrep⟩:=hx;have hlen:=F.ic hrep;simp at hlen;have hw':=(hp.fz g hz).2.1.trans hw;refine ax.aw (v:=.int .i64 (rows.length:Int)) ?_ (Res.val hk (aX _) hp hold);simp[execOp,ho,resolve,hxv,invoke,builtin,Builtin.len_,run_underlying ht.eq,goInt,MapKept.run_getObj_map hw',hlen]
  ·exact(bO h).elim
 ·exact(bO h).elim
theorem uV{x y:Operand}{t':Nat}{dx dy:D}(ho:o.op=.indexAddr t' x y)(hx:D.rep c dx (a.eval x))(hy:D.rep c dy (a.eval y))(h:cJ (alO _) E η t' dx dy (fun d rd e=>some (d,rd,e))=some (d,rd,e)):ax P o a w (Res W η c k):=by
 unfold cJ at h
 split at h
 ·rename_i sz0 z0 el sz by_ hi;have hkk:=(hE _ _ hi).k;simp only at hkk;obtain⟨z,ht⟩:=hkk;obtain⟨inf,g1,g2,g3,g4⟩:=ht.info;obtain⟨ik,i,rfl,hh⟩:=wC h;clear h;have hyv:=aL hy
  split at hh
  ·rename_i b v sz' lo hi' ex
   split at hh
   ·rename_i v' e' sz1 rows hb;obtain⟨h0,h2⟩:=b7 hh;clear hh;rw[Bool.and_eq_true,Bool.and_eq_true,Bool.and_eq_true]at h0;obtain⟨⟨⟨q1,q2⟩,q3⟩,q4⟩:=h0;have q1:=Nat.eq_of_beq_eq_true q1;have q2:=Nat.eq_of_beq_eq_true q2;have q3:=Nat.eq_of_beq_eq_true q3;have q4:=b6 q4;subst q1;subst q2;subst q3;obtain⟨rfl,rfl,rfl⟩:=eg h2;clear h2;unfold D.rep at hx;obtain⟨A,m,k',hA,h1,h2,h3,A2,hxv,hA2⟩:=hx;obtain⟨A',k2,vr,hA',hvr,hone,hown⟩:=hp.pc b _ hb;rw[hA]at hA'
    cases hA';have hs:=(own.arr hown).some_ (by omega)
    cases A with
    |none=>simp at hs
    |some A=>
     have hA2:=hA2 (.inr (by cases ex<;>simp<;>omega));subst hA2;refine ax.aw (v:=.pointer (some (A.add ((lo+i)*sz)))) ?_ (Res.val hk (by unfold D.rep;exact⟨A,_,k',hA,by simp⟩) hp hold);simp[execOp,ho,hxv,hyv,Instr.indexAt,asIntOf,run_underlying ht.und,sizeOf,typeInfo,g1,g3,q4,add_add,Nat.add_mul]
   ·exact(bO hh).elim
  ·rename_i rows;obtain⟨r,hr,h⟩:=MY hh;obtain⟨hrl,h⟩:=b7 h;have hrl:=Nat.eq_of_beq_eq_true hrl;obtain⟨rfl,rfl,rfl⟩:=eg h;have hlt:i<rows.length:=(List.getElem?_eq_some_iff.1 hr).1;unfold D.rep at hx;obtain⟨A,vr,sz',hxv,harr,hone,hvr⟩:=hx;obtain⟨rv,hrv,hrr⟩:=F.ff hvr hr;have hszz:sz'=sz:=by
    rw[←hrl,←F.aW hrr];exact(harr.2.1 rv (List.mem_of_getElem? hrv)).symm
   subst hszz;have hs:=harr.some_ (by omega)
   cases A with
   |none=>simp at hs
   |some A=>
    refine ax.aw (v:=.pointer (some (A.add (i*sz')))) ?_ (Res.val hk (by unfold D.rep F.rep;exact⟨A,vr,by simp,harr,hone,hvr⟩) hp hold);simp[execOp,ho,hxv,hyv,Instr.indexAt,asIntOf,run_underlying ht.und,sizeOf,typeInfo,g1,g3,hlt]
  ·exact(bO hh).elim
 ·exact(bO h).elim
theorem DP{x:Operand}{t':Nat}{lo hi mx:Option Operand}{dx:D}(hρ:∀x d,ρ x=some d→D.rep c d (a.eval x))(ho:o.op=.slice t' x lo hi mx)(hx:D.rep c dx (a.eval x))(h:gx (alO _) E η t' dx (dW ρ lo) (dW ρ hi) (dW ρ mx) (fun d rd e=>some (d,rd,e))=some (d,rd,e)):ax P o a w (Res W η c k):=by
 unfold gx at h
 split at h
 ·rename_i sz0 z0 el sz by_ hi0;have hkk:=(hE _ _ hi0).k;simp only at hkk;obtain⟨z,ht⟩:=hkk
  split at h
  ·rename_i b v
   split at h
   ·rename_i v' e' sz' rows hb;obtain⟨h0,h2⟩:=b7 h;clear h;obtain⟨q1,q2⟩:=uJ h0;subst q1;subst q2;obtain⟨l,hh,ex,h,h3,h4,hc⟩:=Gw hρ h2;obtain⟨rfl,rfl,rfl⟩:=eg h;unfold D.rep at hx;obtain⟨A,m,k',hA,hxv⟩:=hx;obtain⟨A',k2,vr,hA',hvr,hone,hown⟩:=hp.pc b _ hb;rw[hA]at hA'
    cases hA';have hcap:=so hown;obtain⟨A2,hrun,hA2,hA3⟩:=n8 (P:=P) (w:=w) ht ho hxv hc h3 h4 hcap;refine ax.aw hrun (Res.val hk ?_ hp hold);unfold D.rep;exact⟨A,_,k',hA,h3,h4,hcap,A2,rfl,hA2⟩
   ·exact(bO h).elim
  ·rename_i b v sz' lo0 hi1 ex0;obtain⟨h0,h2⟩:=b7 h;clear h;have h0:=Nat.eq_of_beq_eq_true h0;subst h0;obtain⟨l,hh,ex,h,h3,h4,hc⟩:=Gw hρ h2;obtain⟨h5,h⟩:=b7 h;obtain⟨rfl,rfl,rfl⟩:=eg h;unfold D.rep at hx;obtain⟨A,m,k',hA,r1,r2,r3,A1,hxv,hA1⟩:=hx;have hcap:hi1-lo0≤(bif ex0 then hi1-lo0 else k'-lo0):=by cases ex0<;>simp;omega
   obtain⟨A2,hrun,hA2,hA3⟩:=n8 (P:=P) (w:=w) ht ho hxv hc h3 h4 hcap;refine ax.aw hrun (Res.val hk ?_ hp hold);unfold D.rep;refine⟨A,m,k',hA,by omega,by omega,r3,A2,?_,fun hlt=>?_⟩
   ·congr 1
    ·omega
    ·cases ex<;>cases ex0<;>simp at h5 ⊢<;>omega
   ·have g12:(l=0∨l<(bif ex then hh else bif ex0 then hi1-lo0 else k'-lo0))∧(lo0=0∨lo0<(bif ex0 then hi1 else k')):=by
     rcases hlt with hlt|hlt
     ·exact⟨.inl (by omega),.inl (by omega)⟩
     ·have g1:l<(bif ex then hh else bif ex0 then hi1-lo0 else k'-lo0):=by
       cases ex<;>cases ex0<;>simp at h5 hlt ⊢<;>omega
      exact⟨.inr g1,.inr (by cases ex<;>cases ex0<;>simp at h5 hlt g1 ⊢<;>omega)⟩
    rw[hA2 g12.1,hA1 g12.2,Option.map_map]
    congr 1
    funext q
    simp[add_add,Nat.add_mul]
  ·rename_i rows;obtain⟨l,hh,ex,h,h3,h4,hc⟩:=Gw hρ h;obtain⟨h5,h⟩:=b7 h;obtain⟨rfl,rfl,rfl⟩:=eg h;rw[Bool.and_eq_true]at h5;unfold D.rep at hx;obtain⟨A,vr,sz',hxv,harr,hone,hvr⟩:=hx;obtain⟨A2,hrun,hA2,hA3⟩:=n8 (P:=P) (w:=w) ht ho hxv hc h3 h4 (Nat.le_refl _);have harr:=nK harr hvr (jo h5.2);refine ax.aw hrun (Res.val hk ?_ hp hold);unfold D.rep;have hl:((rows.take hh).drop l).length=hh-l:=by rw[List.length_drop,List.length_take,Nat.min_eq_left h4]
   refine⟨A2,(vr.take hh).drop l,sz,?_,?_,fun r hr=>hone r (List.mem_of_mem_take (List.mem_of_mem_drop hr)),F.dn _ (F.cH _ hvr)⟩
   ·rw[hl]
    congr 1
    have h6:=h5.1
    cases ex<;>simp at h6 ⊢<;>omega
   ·rw[hl];exact Arr.uZ harr h3 h4 (fun hlt=>hA2 (.inr (by cases ex<;>simp<;>omega)))
  ·rename_i rows;obtain⟨l,hh,ex,h,h3,h4,hc⟩:=Gw hρ h;obtain⟨h5,h⟩:=b7 h;obtain⟨rfl,rfl,rfl⟩:=eg h;rw[Bool.and_eq_true]at h5;unfold D.rep F.rep at hx;obtain⟨A,c',vr,sz',hxv,hcap,harr,hone,hvr⟩:=hx;obtain⟨A2,hrun,hA2,hA3⟩:=n8 (P:=P) (w:=w) ht ho hxv hc h3 h4 hcap;have harr:=nK harr hvr (jo h5.2);have h6:=h5.1;subst h6;refine ax.aw hrun (Res.val hk ?_ hp hold);unfold D.rep;have hl:((rows.take hh).drop l).length=hh-l:=by rw[List.length_drop,List.length_take,Nat.min_eq_left h4]
   refine⟨A2,(vr.take hh).drop l,sz,?_,?_,fun r hr=>hone r (List.mem_of_mem_take (List.mem_of_mem_drop hr)),F.dn _ (F.cH _ hvr)⟩
   ·rw[hl];rfl
   ·rw[hl];exact Arr.uZ harr h3 h4 (fun hlt=>hA2 (.inr (by simp;omega)))
  ·obtain⟨l,hh,ex,h,h3,h4,hc⟩:=Gw hρ h;obtain⟨rfl,rfl,rfl⟩:=eg h;have hxv:=aL hx;obtain⟨A2,hrun,hA2,hA3⟩:=n8 (P:=P) (w:=w) ht ho hxv hc h3 h4 (Nat.le_refl _);refine ax.aw hrun (Res.val hk ?_ hp hold);rw[hA3 rfl,show hh-l=0 by omega];unfold D.rep F.rep
   cases ex<;>simp
  ·exact(bO h).elim
 ·exact(bO h).elim
theorem Au{x y:Operand}{t':Nat}{dx dy:D}(ho:o.op=.call ⟨.builtin .append,#[x,y],#[t',t']⟩)(hx:D.rep c dx (a.eval x))(hy:D.rep c dy (a.eval y))(h:eQ (alO _) E η t t' dx dy (fun d rd e=>some (d,rd,e))=some (d,rd,e)):ax P o a w (Res W η c k):=by
 unfold eQ at h
 split at h
 ·rename_i sz0 z0 el sz by_ news rd0 hi hsrc;have hkk:=(hE _ _ hi).k;simp only at hkk;obtain⟨zv,ht⟩:=hkk;obtain⟨h0,h1⟩:=b7 h;clear h;obtain⟨A',c',nr,hyv,harr,hnr,hno⟩:=Dh (sz:=sz) hp hy hsrc (jo h0);have grow:∀(b v:Nat) (rows:List (List F)) (A:Option Addr) (m c0:Nat) (v0:Nat) (vr:List (List Value)) (e0:Nat) (rows0:List (List F)),η b=some (.ro v e0 sz rows0)→a.eval x=.slice A m c0→m=rows.length→F.aI c.Z c.R rows vr→(∀r∈vr,cb r=true)→(own el sz A m c0 vr).on (O b) w→
    rows.length+news.length≤maxLen→(rows.length+news.length)*by_≤140737488355328→k (.own b (v+1)) rd [(b,.ro (v+1) el sz (rows++news))]→ax P o a w (Res W η c k):=by
   intro b v rows A m c0 v0 vr e0 rows0 hb hxv hm hvr hone hown h63 hby hk';subst hm;obtain⟨A2,c2,w',S',hrun,hc,hsub,hown'⟩:=gM (P:=P) (ty:=o.type) (c':=c') ht hown harr hno h63 hby;have hnv:nv η b=v+1:=by unfold nv;rw[hb];rfl
   have hfr:=hp.fresh b;have hle:c.le (c.add b (nv η b) (A2,rows.length+news.length,c2)):=Cf.eB hfr;refine ax.aw (v:=.slice A2 (rows.length+news.length) c2) (w':=w') ?_ ⟨_,_,_,_,_,hk',hle,?_,hp.upd hc hsub hle rfl rfl (hp.cq (by rw[hnv];rfl)) ⟨A2,c2,vr++nr,?_,F.aI.ext hle.ext _ _ (F.eV hvr hnr),?_,?_⟩,hold.upd hc hsub rfl rfl⟩
   ·simp[execOp,ho,resolve,hxv,hyv,invoke,builtin,hrun]
   ·unfold D.rep;exact⟨A2,_,c2,by rw[←hnv];exact Cf.cP,rfl⟩
   ·rw[←hnv,List.length_append];exact Cf.cP
   ·intro r hr;rcases List.mem_append.1 hr with hr|hr
    ·exact hone r hr
    ·exact hno r hr
   ·rw[List.length_append];exact hown'
  split at h1
  ·rename_i b v
   split at h1
   ·rename_i v' e' sz' rows hb;obtain⟨q,h2⟩:=b7 h1;clear h1;simp only[Bool.and_eq_true]at q;obtain⟨⟨⟨⟨q1,q2⟩,q3⟩,q4⟩,q5⟩:=q;have q1:=Nat.eq_of_beq_eq_true q1;have q2:=Nat.eq_of_beq_eq_true q2;have q3:=Nat.eq_of_beq_eq_true q3;have q4:=Nat.le_of_ble_eq_true q4;have q5:=Nat.le_of_ble_eq_true q5;subst q1;subst q2;subst q3;obtain⟨rfl,rfl,rfl⟩:=eg h2;unfold D.rep at hx;obtain⟨A,m,k',hA,hxv⟩:=hx;obtain⟨A0,k2,vr,hA',hvr,hone,hown⟩:=hp.pc b _ hb;rw[hA]at hA'
    cases hA';exact grow b v rows A _ k' v vr _ _ hb hxv rfl hvr hone hown q4 q5 hk
   ·exact(bO h1).elim
  ·obtain⟨q,h2⟩:=b7 h1;clear h1;simp only[Bool.and_eq_true]at q;have q4:=Nat.le_of_ble_eq_true q.1;have q5:=Nat.le_of_ble_eq_true q.2;obtain⟨rfl,rfl,rfl⟩:=eg h2;have hxv:=aL hx;have hon:(own el sz none 0 0 []).on (fun _=>False) w:=⟨World.ownsRow_nil w 0 el sz,rfl,by simp,fun g hg=>by simp[Value.ownBlock]at hg⟩
   obtain⟨A2,c2,w',S',hrun,hc,hsub,hown'⟩:=gM (P:=P) (ty:=o.type) (c':=c') ht hon harr hno (by omega) (by simpa using q5);rw[Nat.zero_add]at hrun hown';rw[List.nil_append]at hown';have hst:Sl.St w [own el sz A2 news.length c2 nr] w':=by
    refine⟨⟨hc.os,hc.tape,hc.output,hc.size,fun g hg=>hc.block g hg (fun h=>h)⟩,S',fun g hg=>?_,hown',trivial⟩;rcases hsub g hg with h|h
    ·exact h.elim
    ·exact h
   refine ax.aw (v:=.slice A2 news.length c2) (w':=w') ?_ (Res.ta hp hold hst rfl hnr hno hk);simp[execOp,ho,resolve,hxv,hyv,invoke,builtin,hrun]
  ·rename_i b v sz1 lo hi' ex
   split at h1
   ·rename_i v' e' sz' rows hb;obtain⟨q,h2⟩:=b7 h1;clear h1;simp only[Bool.and_eq_true]at q;obtain⟨⟨⟨⟨⟨q1,q2⟩,q3⟩,q4⟩,q5⟩,q6⟩:=q;have q1:=Nat.eq_of_beq_eq_true q1;have q2:=Nat.eq_of_beq_eq_true q2;have q3:=Nat.eq_of_beq_eq_true q3;have q4:=Nat.eq_of_beq_eq_true q4;have q5:=Nat.le_of_ble_eq_true q5;have q6:=Nat.le_of_ble_eq_true q6;subst q1;subst q2;subst q3;subst q4;unfold D.rep at hx;obtain⟨A,m,k',hA,r1,r2,r3,A2,hxv,hA2⟩:=hx;obtain⟨A0,k2,vr,hA',hvr,hone,hown⟩:=hp.pc b _ hb;rw[hA]at hA'
    cases hA'
    split at h2
    ·obtain⟨p,h3⟩:=b7 h2;clear h2;simp only[Bool.and_eq_true]at p;have p1:=Nat.eq_of_beq_eq_true p.1.1;have p2:=Nat.le_of_ble_eq_true p.1.2;have p3:=Nat.le_of_ble_eq_true p.2;obtain⟨rfl,rfl,rfl⟩:=eg h3;subst p1;have hA3:A2=A:=by rw[hA2 (.inl rfl)];cases A<;>simp[Addr.add]
     subst hA3;simp only[cond_false,Nat.sub_zero]at hxv;have htk:=sB r2 hown;have hlr:(rows.take hi').length=hi':=by rw[List.length_take];omega
     exact grow b v (rows.take hi') A2 hi' k' v (vr.take hi') _ _ hb hxv hlr.symm (F.cH hi' hvr) (fun r hr=>hone r (List.mem_of_mem_take hr)) htk (by rw[hlr];exact p2) (by rw[hlr];exact p3) hk
    ·split at h2
     ·obtain⟨rfl,rfl,rfl⟩:=eg h2;refine ax.aw (v:=a.eval x) (w':=w) ?_ (Res.val hk (by unfold D.rep;exact⟨A,_,k',hA,r1,r2,r3,A2,hxv,hA2⟩) hp hold);have hnone:=ru (P:=P) (w:=w) (ty:=o.type) (A:=A2) (c0:=hi'-lo) (A':=A') (c':=c') (m':=0) ht (Nat.le_refl _) rfl;simp only[cond_true]at hxv;simp[execOp,ho,resolve,hxv,hyv,invoke,builtin,hnone]
     ·rename_i n0 ns;obtain⟨p,h3⟩:=b7 h2;clear h2;simp only[Bool.and_eq_true]at p;have p1:=b6 p.1.1;have p2:=Nat.le_of_ble_eq_true p.1.2;have p3:=Nat.le_of_ble_eq_true p.2;obtain⟨rfl,rfl,rfl⟩:=eg h3;have harr0:=Arr.uZ (A':=A2) (own.arr hown) r1 r2 (fun hlt=>hA2 (.inr (by simp;omega)));have hl:((rows.take hi').drop lo).length=hi'-lo:=by rw[List.length_drop,List.length_take,Nat.min_eq_left r2]
      obtain⟨A3,c3,w',hrun,hst⟩:=oN (P:=P) (ty:=o.type) (c':=c') ht harr0 hno harr (by simp) (by simpa using p2) (by simpa using p3);simp only[cond_true]at hxv;refine ax.aw (v:=.slice A3 (hi'-lo+(n0::ns).length) c3) (w':=w') ?_ (Res.ta hp hold hst (by simp[hl]) (F.eV (F.dn lo (F.cH hi' hvr)) hnr) ?_ hk)
      ·simp only[List.length_cons]at hrun hyv ⊢;simp[execOp,ho,resolve,hxv,hyv,invoke,builtin,hrun]
      ·intro r hr;rcases List.mem_append.1 hr with hr|hr
       ·exact hone r (List.mem_of_mem_take (List.mem_of_mem_drop hr))
       ·exact hno r hr
   ·exact(bO h1).elim
  ·rename_i rows;unfold D.rep at hx;obtain⟨A,vr,sz',hxv,harr0,hone,hvr⟩:=hx
   split at h1
   ·obtain⟨rfl,rfl,rfl⟩:=eg h1;refine ax.aw (v:=a.eval x) (w':=w) ?_ (Res.val hk (by unfold D.rep;exact⟨A,vr,sz',hxv,harr0,hone,hvr⟩) hp hold);have hnone:=ru (P:=P) (w:=w) (ty:=o.type) (A:=A) (c0:=rows.length) (A':=A') (c':=c') (m':=0) ht (Nat.le_refl _) rfl;simp[execOp,ho,resolve,hxv,hyv,invoke,builtin,hnone]
   ·rename_i n0 ns;obtain⟨p,h3⟩:=b7 h1;clear h1;simp only[Bool.and_eq_true]at p;have p1:=p.1.1;have p2:=Nat.le_of_ble_eq_true p.1.2;have p3:=Nat.le_of_ble_eq_true p.2;obtain⟨rfl,rfl,rfl⟩:=eg h3;have harr1:=nK ((harr0.loc (fun g hg=>(hp.fz g hg).2.1))) hvr (jo p1);obtain⟨A3,c3,w',hrun,hst⟩:=oN (P:=P) (ty:=o.type) (c':=c') ht harr1 hno harr (by simp) (by simpa using p2) (by simpa using p3);refine ax.aw (v:=.slice A3 (rows.length+(n0::ns).length) c3) (w':=w') ?_ (Res.ta hp hold hst (by simp) (F.eV hvr hnr) ?_ hk)
    ·simp only[List.length_cons]at hrun hyv ⊢;simp[execOp,ho,resolve,hxv,hyv,invoke,builtin,hrun]
    ·intro r hr;rcases List.mem_append.1 hr with hr|hr
     ·exact hone r hr
     ·exact hno r hr
  ·exact(bO h1).elim
 ·exact(bO h).elim
theorem DC{x y:Operand}{t' u:Nat}{dx:D}{s:ByteArray}(ho:o.op=.call ⟨.builtin .append,#[x,y],#[t',u]⟩)(hx:D.rep c dx (a.eval x))(hyv:a.eval y=.string s)(hs:isStr E u=true)(h:gD (alO _) E η t t' dx s (fun d rd e=>some (d,rd,e))=some (d,rd,e)):ax P o a w (Res W η c k):=by
 unfold gD at h;have hu:P.underlying u=some .string:=by
  unfold isStr at hs
  split at hs
  ·rename_i hi;have:=(hE _ _ hi).k;exact this.eq
  ·cases hs
 split at h
 ·rename_i sz0 z0 el sz by_ hi;have hkk:=(hE _ _ hi).k;simp only at hkk;obtain⟨zv,ht⟩:=hkk
  split at h
  ·rename_i ie hie;obtain⟨h0,h1⟩:=b7 h;clear h;simp only[Bool.and_eq_true]at h0;obtain⟨⟨h0,h2⟩,h3⟩:=h0;have h2:=Nat.eq_of_beq_eq_true h2;have h3:=Nat.eq_of_beq_eq_true h3;have hz:=Lr ht (hE _ _ hie) h0;subst h2;subst h3;subst hz;have hsl:s.data.toList.length=s.size:=by rw[Array.length_toList];rfl
   have hone:∀r∈mO s,cb r=true:=by
    intro r hr;rw[uu]at hr;obtain⟨v,_,rfl⟩:=List.mem_map.1 hr;rfl
   split at h1
   ·rename_i b v
    split at h1
    ·rename_i v' e' sz' rows hb;obtain⟨q,h2⟩:=b7 h1;clear h1;obtain⟨q4,h2⟩:=b7 h2;simp only[Bool.and_eq_true]at q;obtain⟨⟨q1,q2⟩,q3⟩:=q;have q1:=Nat.eq_of_beq_eq_true q1;have q2:=Nat.eq_of_beq_eq_true q2;have q3:=Nat.eq_of_beq_eq_true q3;have q4:=Nat.le_of_ble_eq_true q4;subst q1;subst q2;subst q3;obtain⟨rfl,rfl,rfl⟩:=eg h2;unfold D.rep at hx;obtain⟨A,m,k',hA,hxv⟩:=hx;obtain⟨A0,k2,vr,hA',hvr,hone',hown⟩:=hp.pc b _ hb;rw[hA]at hA'
     cases hA';obtain⟨A2,c2,w',S',hrun,hc,hsub,hown'⟩:=tz (P:=P) (ty:=o.type) ht hu hown q4;have hnv:nv η b=v+1:=by unfold nv;rw[hb];rfl
     have hfr:=hp.fresh b;have hle:c.le (c.add b (nv η b) (A2,rows.length+s.size,c2)):=Cf.eB hfr;refine ax.aw (v:=.slice A2 (rows.length+s.size) c2) (w':=w') ?_ ⟨_,_,_,_,_,hk,hle,?_,hp.upd hc hsub hle rfl rfl (hp.cq (by rw[hnv];rfl)) ⟨A2,c2,vr++mO s,?_,F.aI.ext hle.ext _ _ (F.eV hvr (by rw[uu];exact xn _)),?_,?_⟩,hold.upd hc hsub rfl rfl⟩
     ·simp[execOp,ho,resolve,hxv,hyv,invoke,builtin,hrun]
     ·unfold D.rep;exact⟨A2,_,c2,by rw[←hnv];exact Cf.cP,rfl⟩
     ·rw[←hnv,List.length_append,List.length_map,hsl];exact Cf.cP
     ·intro r hr;rcases List.mem_append.1 hr with hr|hr
      ·exact hone' r hr
      ·exact hone r hr
     ·rw[List.length_append,List.length_map,hsl];exact hown'
    ·exact(bO h1).elim
   ·obtain⟨q,h2⟩:=b7 h1;clear h1;have q5:=Nat.le_of_ble_eq_true q;obtain⟨rfl,rfl,rfl⟩:=eg h2;have hxv:=aL hx;have hon:(own el 1 none 0 0 []).on (fun _=>False) w:=⟨World.ownsRow_nil w 0 el 1,rfl,by simp,fun g hg=>by simp[Value.ownBlock]at hg⟩
    obtain⟨A2,c2,w',S',hrun,hc,hsub,hown'⟩:=tz (P:=P) (ty:=o.type) ht hu hon (by omega:0+s.size≤_);rw[Nat.zero_add]at hrun hown';rw[List.nil_append]at hown';have hfr:=hp.fresh t;have hle:c.le (c.add t (nv η t) (A2,s.size,c2)):=Cf.eB hfr;have hc2:Chg w w' (O t):=⟨hc.os,hc.tape,hc.output,hc.size,fun g hg _=>hc.block g hg (fun h=>h)⟩
    have hsub2:∀g,S' g→O t g∨(w.heap.size≤g∧g<w'.heap.size):=fun g hg=>.inr ((hsub g hg).resolve_left fun h=>h)
    refine ax.aw (v:=.slice A2 s.size c2) (w':=w') ?_ ⟨_,_,_,_,_,hk,hle,?_,hp.upd hc2 hsub2 hle rfl rfl (hp.cq rfl) ⟨A2,c2,mO s,?_,by rw[uu];exact xn _,hone,?_⟩,hold.upd hc2 hsub2 rfl rfl⟩
    ·simp[execOp,ho,resolve,hxv,hyv,invoke,builtin,hrun]
    ·unfold D.rep;exact⟨A2,_,c2,Cf.cP,rfl⟩
    ·rw[List.length_map,hsl];exact Cf.cP
    ·rw[List.length_map,hsl];exact hown'
   ·exact(bO h1).elim
  ·exact(bO h).elim
 ·exact(bO h).elim
theorem Gq{x y:Operand}{t':Nat}{dx dy:D}(ho:o.op=.call ⟨.builtin .copy,#[x,y],#[t',t']⟩)(hx:D.rep c dx (a.eval x))(hy:D.rep c dy (a.eval y))(h:jQ (alO _) E η t' dx dy (fun d rd e=>some (d,rd,e))=some (d,rd,e)):ax P o a w (Res W η c k):=by
 unfold jQ at h
 split at h
 ·rename_i sz0 z0 el sz by_ src rd0 hi hsrc;have hkk:=(hE _ _ hi).k;simp only at hkk;obtain⟨zv,ht⟩:=hkk;obtain⟨h0,h1⟩:=b7 h;clear h;obtain⟨A',c',nr,hyv,harr,hnr,hno⟩:=Dh (sz:=sz) hp hy hsrc (jo h0)
  split at h1
  ·rename_i b v
   split at h1
   ·rename_i v' e' sz' rows hb;obtain⟨q,h2⟩:=b7 h1;clear h1;rw[Bool.and_eq_true]at q;obtain⟨q12,q3⟩:=q;obtain⟨q1,q2⟩:=uJ q12;have q3:=Nat.eq_of_beq_eq_true q3;subst q1;subst q2;subst q3;obtain⟨rfl,rfl,rfl⟩:=eg h2;unfold D.rep at hx;obtain⟨A,m,k',hA,hxv⟩:=hx;obtain⟨A0,k2,vr,hA',hvr,hone,hown⟩:=hp.pc b _ hb;rw[hA]at hA'
    cases hA';obtain⟨w',hrun,hc,hown'⟩:=own.copy (P:=P) (t:=t') (ty:=o.type) (c':=c') (ht:=ht) hown harr hno;have hlen:(src.take rows.length++rows.drop src.length).length=rows.length:=by simp;omega
    have hsub:∀g,O b g→O b g∨(w.heap.size≤g∧g<w'.heap.size):=fun g hg=>.inl hg
    refine ax.aw (v:=.int .i64 (min src.length rows.length:Nat)) (w':=w') ?_ ⟨_,_,_,c,_,hk,Cf.le.refl c,?_,hp.upd (S':=O b) hc hsub (Cf.le.refl c) rfl rfl (hp.cu hb rfl) ⟨A,k',nr.take rows.length++vr.drop src.length,by rw[hlen];exact hA,F.eV (F.cH _ hnr) (F.dn _ hvr),?_,by rw[hlen];exact hown'⟩,hold.upd hc hsub rfl rfl⟩
    ·simp[execOp,ho,resolve,hxv,hyv,invoke,builtin,hrun]
    ·rw[Nat.min_comm];exact aX _
    ·intro r hr;rcases List.mem_append.1 hr with hr|hr
     ·exact hno r (List.mem_of_mem_take hr)
     ·exact hone r (List.mem_of_mem_drop hr)
   ·exact(bO h1).elim
  ·exact(bO h1).elim
 ·exact(bO h).elim
theorem Bz{x y:Operand}{t':Nat}{cm:Bool}{dx dy:D}(ho:o.op=.lookup t' x y cm)(hx:D.rep c dx (a.eval x))(hy:D.rep c dy (a.eval y))(h:eY (alO _) E η t' dx dy cm (fun d rd e=>some (d,rd,e))=some (d,rd,e)):ax P o a w (Res W η c k):=by
 unfold eY at h;dsimp only at h
 split at h
 ·rename_i sz0 z0 kt et hi;have ht:=(hE _ _ hi).k;simp only at ht
  split at h
  ·rename_i ki ei kf hki hei hkf;obtain⟨h0,hL⟩:=b7 h;clear h;rw[Bool.and_eq_true]at h0;obtain⟨rfl,desc,hdesc,hisk⟩:=MV (hE _ _ hki) h0.1 hkf hy;obtain⟨zv,hz1,hzrep⟩:=Gj (c:=c) (hE _ _ hei) h0.2;have core:∀(g:Nat) (es:Array MapEntry) (ck:Nat) (rows:List (List F)) (rd0:List Nat),a.eval x=.map (some g)→w.heap[g]?=some (.map es ck)→F.aI c.Z c.R rows (es.toList.map fun e=>[e.key,e.val])→
     ((alO (D×List Nat×List (Nat×B))).bm (gY (.vl (a.eval y)) rows 0).toList 0 fun r=>match r with
      |some (_,v)=>(some (bif cm then .tp [v.toD,Bo true]else v.toD,rd0,[]):Ot)
      |none=>some (bif cm then .tp [vZ ei,Bo false]else vZ ei,rd0,[]))=some (d,rd,e)→ax P o a w (Res W η c k):=by
    intro g es ck rows rd0 hxv hw hrep hf;obtain⟨rr,hfk,hf⟩:=Nb hf
    split at hf
    ·rename_i j v;obtain⟨rfl,rfl,rfl⟩:=eg hf;rcases lx hisk hrep hfk with⟨q1,_⟩|⟨j',v',e',q1,q2,q3,q4,q5,q6⟩
     ·cases q1
     ·cases q1;have hv:D.rep c v.toD e'.val:=o3 q5
      cases cm with
      |true=>
       refine ax.aw (v:=.tuple #[e'.val,.bool true]) ?_ (Res.val hk (by unfold D.rep;exact⟨_,rfl,by unfold D.ah;exact⟨_,_,rfl,hv,by unfold D.ah;exact⟨_,_,rfl,aX _,by unfold D.ah;rfl⟩⟩⟩) hp hold);simp[execOp,ho,hxv,Instr.lookup,run_underlying ht.eq,MapKept.run_getObj_map hw,MapKept.run_checkKey hdesc hisk,MapKept.run_findKey hdesc q6]
      |false=>
       refine ax.aw (v:=e'.val) ?_ (Res.val hk hv hp hold);simp[execOp,ho,hxv,Instr.lookup,run_underlying ht.eq,MapKept.run_getObj_map hw,MapKept.run_checkKey hdesc hisk,MapKept.run_findKey hdesc q6]
    ·skip
     obtain⟨rfl,rfl,rfl⟩:=eg hf;rcases lx hisk hrep hfk with⟨_,q6⟩|⟨j',v',e',q1,_⟩
     ·cases cm with
      |true=>
       refine ax.aw (v:=.tuple #[zv,.bool false]) ?_ (Res.val hk (by unfold D.rep;exact⟨_,rfl,by unfold D.ah;exact⟨_,_,rfl,hzrep,by unfold D.ah;exact⟨_,_,rfl,aX _,by unfold D.ah;rfl⟩⟩⟩) hp hold);simp[execOp,ho,hxv,Instr.lookup,run_underlying ht.eq,MapKept.run_getObj_map hw,MapKept.run_checkKey hdesc hisk,MapKept.run_findKey hdesc q6,hz1.run]
      |false=>
       refine ax.aw (v:=zv) ?_ (Res.val hk hzrep hp hold);simp[execOp,ho,hxv,Instr.lookup,run_underlying ht.eq,MapKept.run_getObj_map hw,MapKept.run_checkKey hdesc hisk,MapKept.run_findKey hdesc q6,hz1.run]
     ·cases q1
   split at hL
   ·rename_i b v
    split at hL
    ·rename_i v' rows hb;obtain⟨hv,h2⟩:=b7 hL;clear hL;have hv:=Nat.eq_of_beq_eq_true hv;subst hv;unfold D.rep at hx;obtain⟨g,hg,hxv⟩:=hx;obtain⟨g',es,ck,hg',hS,hw,hrep⟩:=hp.pc b _ hb;rw[hg]at hg'
     cases hg';exact core g es ck rows [b] hxv hw hrep h2
    ·exact(bO hL).elim
   ·rename_i rows;unfold D.rep F.rep at hx;obtain⟨g,es,ck,hxv,hz,hw,hrep⟩:=hx;exact core g es ck rows [] hxv ((hp.fz g hz).2.1.trans hw) hrep hL
   ·exact(bO hL).elim
  ·exact(bO h).elim
 ·exact(bO h).elim
theorem z5{t':Nat}{r:Option Operand}(hρ:∀x d,ρ x=some d→D.rep c d (a.eval x))(ho:o.op=.makeMap t' r)(h:opX Q E η t ρ (.makeMap t' r)=some (d,rd,e)):ax P o a w (Res W η c k):=by
 have fin:k (.mv t (nv η t)) [t] [(t,.mp (nv η t) [])]→Res W η c k (.map (some w.heap.size)) (w.alloc (.map #[] 0)):=by
  intro hk;have hfr:=hp.fresh t;have hle:c.le (c.add t (nv η t) (some ⟨w.heap.size,0,none⟩,0,0)):=Cf.eB hfr;have hc:Chg w (w.alloc (.map #[] 0)) (O t):=⟨rfl,rfl,rfl,by show _≤(w.heap.push _).size;simp,fun b hb _=>Below.heap_alloc w _ b hb⟩
  have hn:∀g,g=w.heap.size→O t g∨(w.heap.size≤g∧g<(w.alloc (.map #[] 0)).heap.size):=fun g hg=>.inr ⟨by omega,by subst hg;show _<(w.heap.push _).size;simp⟩
  refine⟨_,_,_,_,_,hk,hle,?_,hp.upd (S':=fun g=>g=w.heap.size) hc hn hle rfl rfl (hp.cq rfl) ⟨w.heap.size,#[],0,Cf.cP,rfl,by show(w.heap.push _)[w.heap.size]?=_;simp,by simp[F.aI]⟩,hold.upd hc hn rfl rfl⟩;unfold D.rep;exact⟨w.heap.size,Cf.cP,rfl⟩
 unfold opX mX at h;dsimp only at h
 split at h
 ·rename_i sz0 z0 kt et hi;have ht:=(hE _ _ hi).k;simp only at ht
  split at h
  ·obtain⟨rfl,rfl,rfl⟩:=eg h;refine ax.aw (v:=.map (some w.heap.size)) (w':=w.alloc (.map #[] 0)) ?_ (fin hk);simp[execOp,ho,Instr.makeMap]
  ·rename_i x
   split at h
   ·rename_i ik m hx;obtain⟨rfl,rfl,rfl⟩:=eg h;have hxv:=aL (hρ x _ hx);refine ax.aw (v:=.map (some w.heap.size)) (w':=w.alloc (.map #[] 0)) ?_ (fin hk);simp[execOp,ho,Instr.makeMap,run_underlying ht.eq,hxv,asInt,asIntOf]
   ·exact(bO h).elim
 ·exact(bO h).elim
theorem BD{x y z:Operand}{t':Nat}{dx dy dz:D}(ho:o.op=.mapUpdate t' x y z)(hx:D.rep c dx (a.eval x))(hy:D.rep c dy (a.eval y))(hz:D.rep c dz (a.eval z))(h:eT (alO _) E η t' dx dy dz (fun d rd e=>some (d,rd,e))=some (d,rd,e)):ax P o a w (Res W η c k):=by
 unfold eT at h
 split at h
 ·rename_i sz0 z0 kt et hi;have ht:=(hE _ _ hi).k;simp only at ht
  split at h
  ·rename_i ki kf yf is hki hkf hdz
   split at h
   ·rename_i b v;obtain⟨h0,h1⟩:=b7 h;clear h;rw[Bool.and_eq_true]at h0;obtain⟨rfl,desc,hdesc,hisk⟩:=MV (hE _ _ hki) h0.1 hkf hy;have hnb:b ∉ is:=by simpa using h0.2
    split at h1
    ·rename_i v' rows hb;obtain⟨hv,h2⟩:=b7 h1;clear h1;have hv:=Nat.eq_of_beq_eq_true hv;subst hv;unfold D.rep at hx;obtain⟨g,hg,hxv⟩:=hx;obtain⟨g',es,ck,hg',hS,hw,hrep⟩:=hp.pc b _ hb;rw[hg]at hg'
     cases hg';have hids:∀i∈is,∃x,η i=some x:=gC 4 _ _ _ hdz;have hfz:=jC hp is 4 _ _ _ _ hdz (fun i hi=>hi) hz;have hp1:=hp.fz_ is hids;have hold1:=hold.fz_ hp is;have hb1:Res.lk2 (aU η is) η b=some (.mp v rows):=by rw[(a7 η η is b).1 hnb];exact hb
     have hrep1:=F.aI.ext (Zf.ext hp is) _ _ hrep;have hO1:Ofz O is b g:=⟨hnb,hS⟩
     have hlt:=hp.lt b g hS;have fin:∀(rows':List (List F)) (es':Array MapEntry) (ck':Nat),F.aI (Zf c O is) w rows' (es'.toList.map fun e=>[e.key,e.val])→k Un (b::is) ((b,.mp v rows')::aU η is)→Res W η c k undef { w with heap:=w.heap.setIfInBounds g (.map es' ck') }:=by
      intro rows' es' ck' hr' hk';have hc:Chg w { w with heap:=w.heap.setIfInBounds g (.map es' ck') } (Ofz O is b):=⟨rfl,rfl,rfl,by simp,fun q _ hn=>by
       have:q≠g:=fun e=>hn (e▸hO1)
       simp[Ne.symm this]⟩
      have hn:∀q,Ofz O is b q→Ofz O is b q∨(w.heap.size≤q∧q<(w.heap.setIfInBounds g (.map es' ck')).size):=fun q hq=>.inl hq
      refine Res.after hp (ids:=is) (k':=fun d rd e=>k d (b::is) (e++aU η is)) ?_ (fun d rd e h=>h);refine⟨Un,[],[(b,.mp v rows')],cfz c O is w,_,hk',Cf.le.refl _,aX _,hp1.upd (S':=Ofz O is b) hc hn (Cf.le.refl _) rfl rfl (fun i q y' hy'=>?_) ⟨g,es',ck',hg,hO1,by simp[hlt],hr'⟩,hold1.upd hc hn rfl rfl⟩;obtain⟨x0,hx0,hle⟩:=hp1.bound i q y' hy'
      by_cases e:b=i
      ·subst e;rw[hb1]at hx0
       cases hx0;exact⟨_,bf,hle⟩
      ·exact⟨x0,by rw[aG e];exact hx0,hle⟩
     obtain⟨rr,hfk,h2⟩:=Nb h2
     split at h2
     ·rename_i i x0;obtain⟨rfl,rfl,rfl⟩:=eg h2;rcases lx hisk hrep hfk with⟨q1,_⟩|⟨j',v2,e',q1,q2,q3,q4,q5,q6⟩
      ·cases q1
      ·cases q1;rw[Nat.sub_zero]at q3;have hej:es[i]?=some e':=by simpa using q3
       have hlti:i<es.size:=(Array.getElem?_eq_some_iff.1 hej).1;refine ax.r8 ?_ (fin _ (es.modify i fun e=>{ e with key:=a.eval y,val:=a.eval z }) ck ?_ hk)
       ·simp[execOp,ho,hxv,Instr.mapUpdate,run_underlying ht.eq,MapKept.run_getObj_map hw,MapKept.run_checkKey hdesc hisk,MapKept.run_findKey hdesc q6,hej,q4,MapKept.run_keyThatStays hisk,MapKept.run_setObj_map _ hw]
       ·have e1:((es.modify i fun e=>{ e with key:=a.eval y,val:=a.eval z }).toList.map fun e=>[e.key,e.val])=(es.toList.map fun e=>[e.key,e.val]).set i [a.eval y,a.eval z]:=by
         apply List.ext_getElem
         ·simp
         ·intro q h1 h2
          by_cases e0:i=q
          ·subst e0;simp
          ·simp[e0,Array.getElem_modify]
        rw[e1];refine F.tB i hrep1 ?_;unfold F.ah;refine⟨_,_,rfl,by unfold F.rep;rfl,?_⟩;unfold F.ah;exact⟨_,_,rfl,hfz,by unfold F.ah;rfl⟩
     ·skip
      obtain⟨rfl,rfl,rfl⟩:=eg h2;rcases lx hisk hrep hfk with⟨_,q6⟩|⟨j',v2,e',q1,_⟩
      ·refine ax.r8 ?_ (fin _ (es.push ⟨a.eval y,a.eval z,ck⟩) (ck+1) ?_ hk)
       ·simp[execOp,ho,hxv,Instr.mapUpdate,run_underlying ht.eq,MapKept.run_getObj_map hw,MapKept.run_checkKey hdesc hisk,MapKept.run_findKey hdesc q6,MapKept.run_setObj_map _ hw]
       ·rw[Array.toList_push,List.map_append];refine F.eV hrep1 ?_;rw[List.map_singleton];unfold F.aI;refine⟨_,_,rfl,?_,by unfold F.aI;rfl⟩;unfold F.ah;refine⟨_,_,rfl,by unfold F.rep;rfl,?_⟩;unfold F.ah;exact⟨_,_,rfl,hfz,by unfold F.ah;rfl⟩
      ·cases q1
    ·exact(bO h1).elim
   ·exact(bO h).elim
  ·exact(bO h).elim
 ·exact(bO h).elim
end
theorem Dv(hQ:∀t,Q t=true→FEq P t)(hG:GOk Γ c)(hs:kS c n s a)(hE:∀t i,E t=some i→TOk P t i)(hp:Hp c O η w)(hold:Old W c O w){d:D}{rd:List Nat}{e:List (Nat×B)}(h:opX Q E η t (evD Γ s) o.op=some (d,rd,e))(hk:k d rd e):ax P o a w (Res W η c k):=by
 have hρ:∀x d,evD Γ s x=some d→D.rep c d (a.eval x):=fun x d hx=>lP hs hG hx
 cases ho:o.op<;>rw[ho]at h<;>try exact(bO h).elim
 case slice t' x lo hi mx=>
  unfold opX mX at h;dsimp only at h
  split at h
  ·rename_i dx hx;exact DP hE hp hold hk hρ ho (hρ _ _ hx) h
  ·exact(bO h).elim
 case indexAddr t' x y=>
  unfold opX mX at h;dsimp only at h
  split at h
  ·rename_i dx dy hx hy;exact uV hE hp hold hk ho (hρ _ _ hx) (hρ _ _ hy) h
  ·exact(bO h).elim
 case index t' x y=>
  unfold opX mX at h;dsimp only at h
  split at h
  ·rename_i dx dy hx hy;exact E2 hE hp hold hk ho (hρ _ _ hx) (hρ _ _ hy) h
  ·exact(bO h).elim
 case makeMap t' r=>exact z5 hE hp hold hk hρ ho h
 case lookup t' x y cm=>
  unfold opX mX at h;dsimp only at h
  split at h
  ·rename_i dx dy hx hy;exact Bz hE hp hold hk ho (hρ _ _ hx) (hρ _ _ hy) h
  ·exact(bO h).elim
 case mapUpdate t' x y z=>
  unfold opX mX at h;dsimp only at h
  split at h
  ·rename_i dx dy dz hx hy hz;exact BD hE hp hold hk ho (hρ _ _ hx) (hρ _ _ hy) (hρ _ _ hz) h
  ·exact(bO h).elim
 case binOp op ty x y ty2=>
  unfold opX mX at h;dsimp only at h
  split at h
  ·rename_i dx dy hx hy;exact IM hE hp hold hk hQ ho (hρ _ _ hx) (hρ _ _ hy) h
  ·exact(bO h).elim
 case makeFunc f fst cap=>
  cases f with
  |func f=>exact xC hE hp hold hk hρ ho h
  |_=>exact(bO h).elim
 case call c0=>
  obtain⟨cal,args,tys⟩:=c0;unfold opX mX at h;dsimp only at h
  split at h
  ·split at h
   ·rename_i x t' e1 e2;have q1:args=#[x]:=by simpa using congrArg List.toArray e1
    have q2:tys=#[t']:=by simpa using congrArg List.toArray e2
    subst q1;subst q2
    split at h
    ·rename_i dx hx;exact Ki hE hp hold hk ho (hρ _ _ hx) h
    ·exact(bO h).elim
   ·exact(bO h).elim
  ·split at h
   ·rename_i x y t' t'' e1 e2;have q1:args=#[x,y]:=by simpa using congrArg List.toArray e1
    have q2:tys=#[t',t'']:=by simpa using congrArg List.toArray e2
    subst q1;subst q2
    split at h
    ·rename_i dx dy hx hy
     split at h
     ·rename_i s hs;obtain⟨h0,h2⟩:=b7 h;have hs:=ID hs;subst hs;exact DC hE hp hold hk ho (hρ _ _ hx) (aL (hρ _ _ hy)) h0 h2
     obtain⟨h0,h2⟩:=b7 h;have h0:=Nat.eq_of_beq_eq_true h0;subst h0;exact Au hE hp hold hk ho (hρ _ _ hx) (hρ _ _ hy) h2
    ·exact(bO h).elim
   ·exact(bO h).elim
  ·split at h
   ·rename_i x y t' t'' e1 e2;have q1:args=#[x,y]:=by simpa using congrArg List.toArray e1
    have q2:tys=#[t',t'']:=by simpa using congrArg List.toArray e2
    subst q1;subst q2
    split at h
    ·rename_i dx dy hx hy;obtain⟨h0,h2⟩:=b7 h;have h0:=Nat.eq_of_beq_eq_true h0;subst h0;exact Gq hE hp hold hk ho (hρ _ _ hx) (hρ _ _ hy) h2
    ·exact(bO h).elim
   ·exact(bO h).elim
  ·exact(bO h).elim
theorem FP(hQ:∀t,Q t=true→FEq P t)(hdp:2≤P.depth)(hG:kB P Γ G)(hΓ:GOk Γ c)(hs:kS c n s a)(hE:∀t i,E t=some i→TOk P t i)(hp:Hp c O η w)(hold:Old W c O w)(h:yW Q E η t G (evD Γ s) o.op k):ax P o a w (Res W η c k):=by
 rcases h with h|⟨d,rd,e,h,hk⟩
 ·exact Ky hdp hG hΓ hs hE hp hold h
 ·exact Dv hQ hΓ hs hE hp hold h hk
theorem ss(hG:wR G){op:Op}(h:yW Q E η t G ρ op k):∃d rd e,k d rd e∧∀η' ρ',(∀x∈op.operands.toList,ρ' x=ρ x)→(∀b∈rd,η' b=η b)→yW Q E η' t G ρ' op (Is3 d rd e):=by
 rcases h with h|⟨d,rd,e,h,hk⟩
 ·obtain⟨d,rd,e,h1,h2⟩:=K3 hG h;exact⟨d,rd,e,h1,fun η' ρ' h3 h4=>.inl (h2 η' ρ' h3 h4)⟩
 ·exact⟨d,rd,e,hk,fun η' ρ' h3 h4=>.inr ⟨d,rd,e,DV h h3 h4,rfl,rfl,rfl⟩⟩
end
theorem GOk.old{Γ:Nat→Option (List F)}{W:Bs}{c:Cf}{O:Nat→Nat→Prop}{w:World}(h:GOk Γ W.c)(ho:Old W c O w):GOk Γ c:=h.ext ho.le
structure XOk(P:Program)(X:Cx):Prop where
 E:∀t i,X.E t=some i→TOk P t i
 G:kB P X.Γ X.G
 GD:kB P X.Γ X.GD
 GL:wR X.GD
 mixed:P.follows .mixedOrders=true
 deep:2≤P.depth
 Q:∀t,X.Q t=true→FEq P t
section
variable {P:Program}{X:Cx}{W:Bs}{n:FD}{st:A}{a:Act}{w:World}{c:Cf}{O:Nat→Nat→Prop}
end
abbrev Sl':=Nat→Option D
def evF(Γ:Nat→Option (List F))(σ:Sl'):Operand→Option D
 |.tmp t=>σ t
 |.const v=>some (.fr (.vl v))
 |.global g=>match Γ g with
  |some cs=>some (.fr (.pt cs.length [cs] 0 0))
  |none=>none
 |.func f=>some (.fr (.cl f []))
theorem Mj(Γ:Nat→Option (List F))(s:List (Nat×D)):evF Γ (lk s)=evD Γ s:=by
 funext x
 cases x<;>rfl
def y8(X:Cx)(ops:Array Oper)(o:Oper)(σ:Sl'):Prop:=match o.guard with
 |none=>True
 |some (j,want)=>∃dj,gd ops j=some dj∧Nat.blt dj X.N=true∧σ dj=some (.fr (.vl (.bool want)))
def gno(X:Cx)(ops:Array Oper)(o:Oper)(σ:Sl'):Prop:=match o.guard with
 |none=>False
 |some (j,want)=>∃dj,gd ops j=some dj∧Nat.blt dj X.N=true∧(σ dj=some (.fr (.vl (.bool (!want))))∨∃vs,σ dj=some (.fr (.vl (.tuple vs))))
def VA(X:Cx)(ops:Array Oper)(o:Oper)(ac:Ac)(σ:Sl')(η:Env):Prop:=Cn X o.dst=true∧match ac with
 |.ex d rd e=>y8 X ops o σ∧yW X.Q X.E η (X.B+o.dst.getD 0) X.GD (evF X.Γ σ) o.op (Is3 d rd e)
 |.sk=>gno X ops o σ
def Ac.d:Ac→D
 |.ex d _ _=>d
 |.sk=>Un
def Ac.e:Ac→List (Nat×B)
 |.ex _ _ e=>e
 |.sk=>[]
def apS(o:Oper)(ac:Ac)(σ:Sl'):Sl':=match o.dst with
 |none=>σ
 |some t=>up σ t ac.d
def apH(ac:Ac)(η:Env):Env:=Res.lk2 ac.e η
def uG(X:Cx)(ops:Array Oper)(acs:List Ac)(K:Sl'→Env→Prop):List Nat→Sl'→Env→Prop
 |[],σ,η=>K σ η
 |i::r,σ,η=>∃o ac,ops[i]?=some o∧acs[i]?=some ac∧VA X ops o ac σ η∧uG X ops acs K r (apS o ac σ) (apH ac η)
section
variable {P:Program}{X:Cx}{W:Bs}{n:FD}{st:A}{a:Act}{w:World}{c:Cf}{O:Nat→Nat→Prop}{ops:Array Oper}{acs:List Ac}{K:Sl'→Env→Prop}
theorem wi{l m:List Nat}(h:uP l m=true):∀x∈l,x ∉ m:=by
 intro x hx hm;unfold uP at h;rw[List.all_eq_true]at h;have h1:=h x hx;rw[List.all_eq_true]at h1;have h2:=h1 x hm;simp at h2
theorem fE:∀{e:List (Nat×B)}{η:Env}{b:Nat},b ∉ e.map (·.1)→Res.lk2 e η b=η b
 |[],η,b,_=>rfl
 |(b0,x)::l,η,b,h=>by
  simp only[List.map_cons,List.mem_cons,not_or]at h;simp only[Res.lk2];rw[aG (Ne.symm h.1)];exact fE h.2
theorem pE:∀{e:List (Nat×B)}{η η':Env}{b:Nat},b∈e.map (·.1)→Res.lk2 e η b=Res.lk2 e η' b
 |[],η,η',b,h=>by simp at h
 |(b0,x)::l,η,η',b,h=>by
  simp only[Res.lk2]
  by_cases e:b0=b
  ·subst e;rw[bf,bf]
  ·rw[aG e,aG e];simp only[List.map_cons,List.mem_cons]at h;rcases h with h|h
   ·exact absurd h.symm e
   ·exact pE h
theorem HW{e e':List (Nat×B)}{η:Env}(h:uP (e.map (·.1)) (e'.map (·.1))=true):Res.lk2 e (Res.lk2 e' η)=Res.lk2 e' (Res.lk2 e η):=by
 funext b
 by_cases hb:b∈e.map (·.1)
 ·have hb':=wi h b hb;rw[fE (e:=e') hb'];exact pE hb
 ·rw[fE hb]
  by_cases hb':b∈e'.map (·.1)
  ·exact pE hb'
  ·rw[fE hb',fE hb',fE hb]
theorem G6{l m m':List Nat}(h:uP l (m++m')=true):uP l m=true∧uP l m'=true:=by
 unfold uP at *;simp only[List.all_eq_true,List.all_append,Bool.and_eq_true]at *;exact⟨fun x hx=>(h x hx).1,fun x hx=>(h x hx).2⟩
theorem EC{o1 o2:Oper}{ac:Ac}{σ:Sl'}(h:∀d,o1.dst=some d→d ∉ o2.looksAt ops):∀x∈o2.op.operands.toList,evF X.Γ (apS o1 ac σ) x=evF X.Γ σ x:=by
 intro x hx
 cases x with
 |tmp t=>
  simp only[evF,apS]
  cases hd:o1.dst with
  |none=>rfl
  |some d=>
   have:=h d hd;refine aG (fun e=>this ?_);subst e;simp only[Oper.looksAt,List.mem_append,List.mem_filterMap];exact .inl ⟨_,hx,rfl⟩
 |const v=>rfl
 |global g=>rfl
 |func f=>rfl
theorem xP{o1 o2:Oper}{ac:Ac}{σ:Sl'}(h:∀d,o1.dst=some d→d ∉ o2.looksAt ops){j dj:Nat}{want:Bool}(hg:o2.guard=some (j,want))(hj:gd ops j=some dj):apS o1 ac σ dj=σ dj:=by
 simp only[apS]
 cases hd:o1.dst with
 |none=>rfl
 |some d=>
  refine aG (fun e=>h d hd ?_);subst e;unfold gd at hj;simp only[Oper.looksAt,hg,List.mem_append];refine .inr ?_;rw[hj];simp
theorem C9(hG:wR X.GD){o1 o2:Oper}{ac1 ac2:Ac}{σ:Sl'}{η:Env}(h:∀d,o1.dst=some d→d ∉ o2.looksAt ops)(hd:uP ac1.wr ac2.rd=true) :
  (VA X ops o2 ac2 (apS o1 ac1 σ) (apH ac1 η)→VA X ops o2 ac2 σ η)∧(VA X ops o2 ac2 σ η→VA X ops o2 ac2 (apS o1 ac1 σ) (apH ac1 η)):=by
 have hη:∀b∈ac2.rd,apH ac1 η b=η b:=by
  intro b hb;refine fE fun hm=>?_
  have:b∈ac1.wr:=by
   cases ac1 with
   |ex d rd e=>exact hm
   |sk=>simp[Ac.e]at hm
  exact wi hd b this hb
 have hev:=EC (X:=X) (ac:=ac1) (σ:=σ) h;have hgy:y8 X ops o2 (apS o1 ac1 σ)↔y8 X ops o2 σ:=by
  unfold y8
  split
  ·exact Iff.rfl
  ·rename_i j want hg
   constructor
   ·rintro⟨dj,h1,h2,h3⟩
    exact⟨dj,h1,h2,by rw[←xP (ac:=ac1) (σ:=σ) h hg h1];exact h3⟩
   ·rintro⟨dj,h1,h2,h3⟩
    exact⟨dj,h1,h2,by rw[xP h hg h1];exact h3⟩
 have hgn:gno X ops o2 (apS o1 ac1 σ)↔gno X ops o2 σ:=by
  unfold gno
  split
  ·exact Iff.rfl
  ·rename_i j want hg
   constructor
   ·rintro⟨dj,h1,h2,h3⟩
    exact⟨dj,h1,h2,by rw[←xP (ac:=ac1) (σ:=σ) h hg h1];exact h3⟩
   ·rintro⟨dj,h1,h2,h3⟩
    exact⟨dj,h1,h2,by rw[xP h hg h1];exact h3⟩
 cases ac2 with
 |sk=>exact⟨fun hh=>⟨hh.1,hgn.1 hh.2⟩,fun hh=>⟨hh.1,hgn.2 hh.2⟩⟩
 |ex d rd e=>
  refine⟨fun⟨h0,h1,h2⟩=>⟨h0,hgy.1 h1,?_⟩,fun⟨h0,h1,h2⟩=>⟨h0,hgy.2 h1,?_⟩⟩
  ·obtain⟨d',rd',e',⟨rfl,rfl,rfl⟩,g⟩:=ss hG h2;exact g η (evF X.Γ σ) (fun x hx=>(hev x hx).symm) (fun b hb=>(hη b hb).symm)
  ·obtain⟨d',rd',e',⟨rfl,rfl,rfl⟩,g⟩:=ss hG h2;exact g _ _ hev hη
theorem EZ(hG:wR X.GD){j i:Nat}{r:List Nat}{σ:Sl'}{η:Env}(hp:vF ops acs j i=true)(h:uG X ops acs K (j::i::r) σ η):uG X ops acs K (i::j::r) σ η:=by
 obtain⟨oj,aj,h1,h2,h3,oi,ai,h4,h5,h6,h7⟩:=h;unfold vF at hp;rw[h1,h4,h2,h5]at hp;simp only[Bool.and_eq_true]at hp;obtain⟨⟨p1,p2⟩,p3⟩:=hp;obtain⟨q1,q2,q3⟩:=Oper.apart_spec p1;obtain⟨p4,p5⟩:=G6 p2;have g1:=(C9 hG (ac1:=aj) (ac2:=ai) (σ:=σ) (η:=η) q1 p4).1 h6;have g2:=(C9 hG (ac1:=ai) (ac2:=aj) (σ:=σ) (η:=η) q3 p3).2 h3;refine⟨oi,ai,h4,h5,g1,oj,aj,h1,h2,g2,?_⟩;have es:apS oj aj (apS oi ai σ)=apS oi ai (apS oj aj σ):=by
  unfold apS
  cases hj:oj.dst with
  |none=>rfl
  |some dj=>
   cases hi:oi.dst with
   |none=>rfl
   |some di=>
    have hne:di≠dj:=fun e=>q2 dj hj (by rw[hi,e])
    funext x
    simp only
    by_cases e1:dj=x
    ·subst e1;rw[bf,aG hne,bf]
    ·rw[aG e1]
     by_cases e2:di=x
     ·subst e2;rw[bf,bf]
     ·rw[aG e2,aG e2,aG e1]
 have eh:apH aj (apH ai η)=apH ai (apH aj η):=by
  unfold apH;refine HW ?_;have e1:∀ac:Ac,ac.e.map (·.1)=ac.wr:=by intro ac;cases ac<;>rfl
  rw[e1,e1];exact p5
 rw[es,eh];exact h7
theorem sQ(hG:wR X.GD){i:Nat}{post:List Nat}:∀(pre:List Nat),(∀k∈pre,vF ops acs k i=true)→∀(σ:Sl') (η:Env),uG X ops acs K (pre++i::post) σ η→uG X ops acs K (i::(pre++post)) σ η
 |[],_,σ,η,h=>h
 |k::pre,hp,σ,η,h=>by
  obtain⟨o,ac,h1,h2,h3,h4⟩:=h;have ih:=sQ hG (post:=post) pre (fun x hx=>hp x (by simp[hx])) _ _ h4;exact EZ hG (hp k (by simp)) ⟨o,ac,h1,h2,h3,ih⟩
structure IsF(W:Bs)(n:FD)(σ:Sl')(η:Env)(a:Act)(w:World)(c:Cf)(O:Nat→Nat→Prop):Prop where
 size:a.tmps.size=n.sz
 defers:a.defers=n.ds
 get:∀k d,σ k=some d→D.rep c d (a.tmps.getD k undef)
 hp:Hp c O η w
 old:Old W c O w
theorem Jd (hX:XOk P X) (hΓ:GOk X.Γ W.c) (hn:n.sz=X.N) {i:Nat}{o:Oper}{ac:Ac}{σ:Sl'}{η:Env}{a:Act}{w:World}{c:Cf}{O:Nat→Nat→Prop} (ho:ops[i]?=some o) (hi:IsF W n σ η a w c O) (hv:VA X ops o ac σ η)
  {Q:Exit→Act→World→Prop}{R:Act→World→Prop} (k:∀a w c' O',c.le c'→IsF W n (apS o ac σ) (apH ac η) a w c' O'→R a w):Go.wpOp P ops Q i R a w:=by
 have put:∀{v:Value}{w':World}{c':Cf}{O':Nat→Nat→Prop},Cn X o.dst=true→c.le c'→D.rep c' ac.d v→Hp c' O' (apH ac η) w'→Old W c' O' w'→R (a.put o.dst v) w':=by
  intro v w' c' O' hd hle hv hp ho;refine k _ _ c' O' hle ⟨?_,?_,fun x d hx=>?_,hp,ho⟩
  ·cases hdst:o.dst<;>simp[Act.put,hi.size]
  ·cases hdst:o.dst<;>simp[Act.put,hi.defers]
  ·cases hdst:o.dst with
   |none=>
    simp only[apS,hdst]at hx;exact D.rep.le hle _ _ (hi.get x d hx)
   |some t=>
    rw[hdst]at hd;have ht:t<a.tmps.size:=by rw[hi.size,hn];exact b6 hd
    simp only[apS,hdst]at hx
    by_cases e:t=x
    ·subst e;rw[bf]at hx
     cases hx;simpa [Act.put,ht]using hv
    ·rw[aG e]at hx;have:=D.rep.le hle _ _ (hi.get x d hx);simpa [Act.put,e]using this
 have yl:∀{j dj:Nat}{x:Value},gd ops j=some dj→Nat.blt dj X.N=true→σ dj=some (.fr (.vl x))→yielded ops a.tmps j=(match x with | .bool b=>some b|_=>none):=by
  intro j dj x hj hb hs;have h1:=aL (hi.get dj _ hs);have hlt:dj<a.tmps.size:=by rw[hi.size,hn];exact b6 hb
  have h2:a.tmps[dj]?=some x:=by
   rw[←h1];simp[hlt]
  unfold yielded;unfold gd at hj;rw[hj];simp only[Option.bind_some,h2]
  cases x<;>rfl
 unfold Go.wpOp;rw[ho];simp only
 cases ac with
 |ex d rd e=>
  obtain⟨hd,hg,hw⟩:=hv;have hwant:Region.wanted o (yielded ops a.tmps)=true:=by
   unfold y8 at hg
   split at hg
   ·rename_i h0;simp[Region.wanted,h0]
   ·rename_i j want h0;obtain⟨dj,h1,h2,h3⟩:=hg;simp only[Region.wanted,h0,yl h1 h2 h3];simp
  rw[if_pos hwant];refine .inl (ax.wp ?_);have hL:∃s:List (Nat×D),kS c n s a∧∀x∈o.op.operands.toList,evD X.Γ s x=evF X.Γ σ x:=by
   have key:∀l:List Operand,∃s:List (Nat×D),(∀k d,lk s k=some d→σ k=some d)∧∀x∈l,evD X.Γ s x=evF X.Γ σ x:=by
    intro l
    induction l with
    |nil=>exact⟨[],fun k d h=>by simp[lk]at h,by simp⟩
    |cons y l ih=>
     obtain⟨s,h1,h2⟩:=ih
     cases y with
     |tmp t=>
      cases ht:σ t with
      |none=>
       refine⟨s,h1,fun x hx=>?_⟩;rcases List.mem_cons.1 hx with rfl|hx
       ·simp only[evD,evF]
        cases hl:lk s t with
        |none=>rw[ht]
        |some d=>have:=h1 t d hl;rw[ht]at this;cases this
       ·exact h2 x hx
      |some d0=>
       refine⟨(t,d0)::s,fun k d hk=>?_,fun x hx=>?_⟩
       ·rw[bU]at hk
        by_cases e:t=k
        ·subst e;rw[bf]at hk;cases hk;exact ht
        ·rw[aG e]at hk;exact h1 k d hk
       ·rcases List.mem_cons.1 hx with rfl|hx
        ·simp only[evD,evF];rw[bU,bf,ht]
        ·have h3:=h2 x hx
         cases x with
         |tmp u=>
          simp only[evD,evF]at h3 ⊢;rw[bU]
          by_cases e:t=u
          ·subst e;rw[bf,ht]
          ·rw[aG e];exact h3
         |_=>exact h3
     |_=>
      refine⟨s,h1,fun x hx=>?_⟩;rcases List.mem_cons.1 hx with rfl|hx
      ·rfl
      ·exact h2 x hx
   obtain⟨s,h1,h2⟩:=key o.op.operands.toList;exact⟨s,⟨hi.size,hi.defers,fun k d hk=>hi.get k d (h1 k d hk)⟩,h2⟩
  obtain⟨s,hs,hsx⟩:=hL;obtain⟨d',rd',e',⟨rfl,rfl,rfl⟩,g⟩:=ss hX.GL hw;have hw':=g η (evD X.Γ s) hsx (fun _ _=>rfl);have:=FP hX.Q hX.deep hX.GD (hΓ.old hi.old) hs hX.E hi.hp hi.old hw';refine this.mono fun v w' ⟨d1,rd1,e1,c',O',⟨q1,q2,q3⟩,h2,h3,h4,h5⟩=>?_
  subst q1;subst q2;subst q3;exact put hd h2 h3 h4 h5
 |sk=>
  obtain⟨hd,hg⟩:=hv;have hwant:¬Region.wanted o (yielded ops a.tmps)=true:=by
   have hg:gno X ops o σ:=hg;unfold gno at hg
   split at hg
   ·exact hg.elim
   ·rename_i j want h0;obtain⟨dj,h1,h2,h3⟩:=hg;rcases h3 with h3|⟨vs,h3⟩
    ·simp only[Region.wanted,h0,yl h1 h2 h3]
     cases want<;>simp
    ·simp only[Region.wanted,h0,yl h1 h2 h3];simp
  rw[if_neg hwant];exact put hd (Cf.le.refl c) (aX _) hi.hp hi.old
theorem J9 {Q:Exit→Act→World→Prop}{Rn:List Nat→Act→World→Prop}{PB:Nat→Nat→Bool} (hend:∀a w,Rn [] a w→Q .normal a w)
  (hstep:∀pre i post,(∀k∈pre,PB k i=true)→i<ops.size→∀a w,Rn (pre++i::post) a w→Go.wpOp P ops Q i (fun a w=>Rn (pre++post) a w) a w)
  (hok:∀i,i<ops.size→(match ops[i]? with|some o=>(o.after.all fun e=>!Region.binds .any e||Nat.blt e.on i)=true|none=>True)∧∀k,k<i→(cZ ops 6 i k||PB k i)=true) :
  ∀(fuel:Nat) (rem:List Nat) (listed:Array Bool) (a:Act) (w:World),rem.length=fuel→Ny ops rem listed→Rn rem a w→wpAny P .any ops Q fuel listed a w:=by
 intro fuel
 induction fuel with
 |zero=>
  intro rem listed a w hl inv h;have hr:rem=[]:=List.eq_nil_of_length_eq_zero hl;subst hr;refine⟨?_,hend a w h⟩;rw[List.eq_nil_iff_forall_not_mem];intro j hj;obtain⟨h1,o,ho,_⟩:=mem_ready.1 hj;have:=(inv.mem j).2 ⟨(Array.getElem?_eq_some_iff.1 ho).1,h1⟩;simp at this
 |succ fuel ih=>
  intro rem listed a w hl inv h;refine⟨fun hnil=>?_,fun i hi=>?_⟩
  ·cases rem with
   |nil=>simp at hl
   |cons i rest=>
    have hi:=(inv.mem i).1 (by simp);have:i∈Region.ready .any ops listed:=by
     refine mem_ready.2 ⟨hi.2,_,Array.getElem?_eq_getElem hi.1,fun e he hb=>?_⟩;have h1:=(hok i hi.1).1;rw[Array.getElem?_eq_getElem hi.1]at h1;simp only at h1;have h2:=(Array.all_eq_true_iff_forall_mem.1 h1) e he;simp only[hb,Bool.not_true,Bool.false_or]at h2;have hlt:e.on<i:=b6 h2
     cases hle:listed.getD e.on false with
     |true=>rfl
     |false=>
      have hm:e.on∈i::rest:=(inv.mem e.on).2 ⟨by omega,by rw[lQ (by rw[inv.size];omega)];exact hle⟩;have hs:=inv.sorted;rw[List.pairwise_cons]at hs;rcases List.mem_cons.1 hm with hm|hm
      ·omega
      ·have:=hs.1 _ hm;omega
    rw[hnil]at this
    cases this
  ·obtain⟨hun,oi,hoi,hall⟩:=mem_ready.1 hi;have hilt:i<ops.size:=(Array.getElem?_eq_some_iff.1 hoi).1;have hmem:=(inv.mem i).2 ⟨hilt,hun⟩;obtain⟨pre,post,rfl⟩:=List.append_of_mem hmem;have hs:=inv.sorted;rw[List.pairwise_append]at hs;obtain⟨hs1,hs2,hs3⟩:=hs;rw[List.pairwise_cons]at hs2;have hpre:∀k∈pre,PB k i=true:=by
    intro k hk;have hki:k<i:=hs3 k hk i (by simp);have hku:=(inv.mem k).1 (by simp[hk]);have h1:=(hok i hilt).2 k hki;simp only[Bool.or_eq_true]at h1;rcases h1 with h1|h1
    ·have h2:=jV inv.closed 6 i k oi hoi hall h1;rw[←lQ (by rw[inv.size];omega),hku.2]at h2
     cases h2
    ·exact h1
   refine wpOp_mono (fun a' w' hh=>?_) (hstep pre i post hpre hilt a w h);refine ih (pre++post) (listed.setIfInBounds i true) a' w' (by simp at hl ⊢;omega) ⟨by simp[inv.size],fun j=>?_,?_,fun j o hj hlj e he hb=>?_⟩ hh
   ·have hj:=inv.mem j;have hij:i ∉ pre++post:=by
     intro hmm;rcases List.mem_append.1 hmm with hmm|hmm
     ·have:=hs3 i hmm i (by simp);omega
     ·have:=hs2.1 i hmm;omega
    by_cases hji:j=i
    ·subst hji
     constructor
     ·intro hm;exact absurd hm hij
     ·rintro⟨_,hm⟩
      have:j<listed.size:=by rw[inv.size];exact hilt
      simp[this]at hm
    ·have e1:(listed.setIfInBounds i true).getD j true=listed.getD j true:=getD_set_ne true (fun e=>hji e.symm);rw[e1,←hj];simp[hji]
   ·rw[List.pairwise_append];exact⟨hs1,hs2.2,fun x hx y hy=>hs3 x hx y (by simp[hy])⟩
   ·by_cases hji:i=j
    ·subst hji;have:o=oi:=Option.some.inj (hj.symm.trans hoi);subst this;exact getD_set_true (hall e he hb)
    ·rw[getD_set_ne false hji]at hlj;exact getD_set_true (inv.closed j o hj hlj e he hb)
theorem xT {K':Sl'→Env→Prop}{Q:Exit→Act→World→Prop}{J:Cf→Prop} (hJ:∀c c':Cf,c.le c'→J c→J c') (hJ0:J c) (hX:XOk P X) (hΓ:GOk X.Γ W.c) (hn:n.sz=X.N) (hQ:∀σ η a w c O,J c→K' σ η→IsF W n σ η a w c O→Q .normal a w) (hi:Is W n st a w c O) {acs:List Ac} (g1:okD ops acs=true)
  (g2:uG X ops acs K' (List.range' 0 ops.toList.length) (lk st.s) (lk st.h)):wpAny P .any ops Q ops.size (Array.replicate ops.size false) a { w with drawn:=w.drawn+1 }:=by
 unfold okD at g1;rw[Bool.and_eq_true]at g1;obtain⟨_,g1⟩:=g1;rw[List.all_eq_true]at g1
 let Rn:List Nat→Act→World→Prop:=fun rem a w=>∃σ η c O,J c∧IsF W n σ η a w c O∧uG X ops acs K' rem σ η
 refine J9 (Rn:=Rn) (PB:=vF ops acs) ?_ ?_ ?_ ops.size (List.range ops.size) _ _ _ (by simp) ⟨by simp,fun i=>?_,List.pairwise_lt_range,fun j o hj hl=>?_⟩ ?_
 ·rintro a w ⟨σ,η,c,O,hj,hf,hk⟩
  exact hQ σ η a w c O hj hk hf
 ·rintro pre i post hpre hlt a w ⟨σ,η,c,O,hj,hf,hr⟩
  obtain⟨o,ac,h1,h2,h3,h4⟩:=sQ hX.GL pre hpre σ η hr;exact Jd hX hΓ hn h1 hf h3 (fun a w c' O hle hf=>⟨_,_,c',O,hJ _ _ hle hj,hf,h4⟩)
 ·intro i hlt;have:=g1 i (by simpa using hlt);rw[Bool.and_eq_true]at this;refine⟨?_,fun k hk=>?_⟩
  ·have h1:=this.1
   split
   ·rename_i o ho;rw[ho]at h1;exact h1
   ·trivial
  ·have h2:=this.2;rw[List.all_eq_true]at h2;exact h2 k (by simpa using hk)
 ·rw[List.mem_range]
  constructor
  ·intro hi;exact⟨hi,by simp[hi]⟩
  ·exact fun hi=>hi.1
 ·rw[getD_replicate_false]at hl;exact absurd hl (by simp)
 ·refine⟨lk st.s,lk st.h,c,O,hJ0,⟨hi.yL.size,hi.yL.defers,hi.yL.get,?_,?_⟩,?_⟩
  ·exact⟨fun b x hx=>B.on.le (w:=w) (w':={ w with drawn:=w.drawn+1 }) (Cf.le.refl _) (fun _ _=>rfl) (hi.hp.pc b x hx),hi.hp.bound,hi.hp.apart,hi.hp.fz,hi.hp.lt⟩
  ·exact⟨hi.old.os,hi.old.tape,hi.old.output,hi.old.size,hi.old.cv,hi.old.own,hi.old.mF,hi.old.le⟩
  ·rw[List.range_eq_range'];have:ops.size=ops.toList.length:=by simp
   rw[this];exact g2
end
def Nv(P:Program)(Γ:Nat→Option (List F))(f:FuncId)(l:List F)(r:F)(fr:Bool):Prop:=
 ∀(Z:Nat→Prop) (w:World) (vs:List Value),(∀g,Z g→g<w.heap.size)→(∀g cs,Γ g=some cs→F.rep Z w (.pt cs.length [cs] 0 0) (.pointer (some ⟨g,0,none⟩)))→F.ah Z w l vs→
  Calls P f vs.toArray w (fun e w'=>∃v,e=.returned v∧Below w.heap.size w w'∧F.rep (fun g=>(fr=false∧Z g)∨(w.heap.size≤g∧g<w'.heap.size)) w' r v)
structure Pure(P:Program)(Γ:Nat→Option (List F))(f:FuncId)(l:List F)(r:F)(fr:Bool):Prop where
 cf:CF P f
 run:Nv P Γ f l r fr
def DN(E:TE)(st:A):ResultVar→Option D
 |.tmp t=>lk st.s t
 |.cell t ty=>match lk st.s t,E ty with
  |some (.ptr b v 0),some i=>(match lk st.h b with
   |some (.va v' _ cs)=>bif Nat.beq v v' then(bif i.k.agg then(bif Nat.beq cs.length i.sz then some (.ag cs)else none)else cs[0]?)else none
   |_=>none)
  |_,_=>none
def oK:List D→D
 |[d]=>d
 |l=>.tp l
section
variable {P:Program}{X:Cx}
theorem Hd{W:Bs}{n:FD}{st:A}{a:Act}{w:World}{c:Cf}{O:Nat→Nat→Prop}(hX:XOk P X)(hi:Is W n st a w c O){rv:ResultVar}{d:D}(h:DN X.E st rv=some d):∃v,(ln a.tmps rv).run P w=.ok v w∧D.rep c d v:=by
 cases rv with
 |tmp t=>exact⟨_,rfl,hi.yL.get t d h⟩
 |cell t ty=>
  simp only[DN]at h
  split at h
  ·rename_i b v i hb hE;have hTi:=hX.E _ _ hE
   split at h
   ·rename_i v' bt cs hbl
    cases hv:Nat.beq v v' with
    |false=>rw[hv]at h;cases h
    |true=>
     rw[hv]at h;have:=Nat.eq_of_beq_eq_true hv;subst this;simp only[cond_true]at h;have hd:=hi.yL.get t _ hb;unfold D.rep at hd;obtain⟨g,hg,hx⟩:=hd;obtain⟨g',vs,hg',hvs,hone,hblk⟩:=hi.hp.pc b _ hbl;rw[hg]at hg'
     cases hg';have hlen:=D.aW hvs;have hcell:∀j v,vs[j]?=some v→w.cell? ((⟨g,0,none⟩:Addr).add j)=some v:=by
      intro j v hj;rw[add_lit,Nat.zero_add,cell_of_row w g _ _ _ _ hblk.2];simpa using hj
     cases ha:i.k.agg with
     |true=>
      rw[ha]at h;simp only[cond_true]at h
      cases hl:Nat.beq cs.length i.sz with
      |false=>rw[hl]at h;cases h
      |true=>
       rw[hl]at h;simp only[cond_true]at h
       cases h;have hl:=Nat.eq_of_beq_eq_true hl;refine⟨.agg vs.toArray,?_,by unfold D.rep;exact⟨vs,rfl,hvs⟩⟩;have:=(hTi.ldA ha).run ⟨g,0,none⟩ w vs (by omega) hcell;simp[ln,hx,asAddr,this]
     |false=>
      rw[ha]at h;simp only[cond_false]at h;obtain⟨u,hu,hdu⟩:=D.b5 hvs h;refine⟨u,?_,hdu⟩;have h0:=hcell 0 u hu;have:=(hTi.ld1 ha).run ⟨g,0,none⟩ w u (by simpa [Addr.add]using h0);simp[ln,hx,asAddr,this]
   ·cases h
  ·cases h
theorem vq{W:Bs}{n:FD}{st:A}{a:Act}{w:World}{c:Cf}{O:Nat→Nat→Prop}(hX:XOk P X)(hi:Is W n st a w c O):∀{rs:List ResultVar}{ds:List D},jb (rs.map (DN X.E st))=some ds→∃vs,(rs.mapM (ln a.tmps)).run P w=.ok vs w∧D.ah c ds vs
 |[],ds,h=>by
  simp[jb]at h;subst h;exact⟨[],by simp,by simp[D.ah]⟩
 |r::rs,ds,h=>by
  simp only[List.map_cons]at h
  cases hr:DN X.E st r with
  |none=>rw[hr]at h;simp[jb]at h
  |some d=>
   rw[hr]at h;simp only[jb]at h
   split at h
   ·rename_i l hl
    cases h;obtain⟨v,h1,h2⟩:=Hd hX hi hr;obtain⟨vs,h3,h4⟩:=vq hX hi hl;refine⟨v::vs,?_,by unfold D.ah;exact⟨v,vs,rfl,h2,h4⟩⟩;rw[List.mapM_cons,Sem.run_bind,h1,Result.andThen_ok,Sem.run_bind,h3];simp
   ·cases h
theorem I4{c:Cf}:∀{ds:List D}{vs:List Value},D.ah c ds vs→D.rep c (oK ds) (qn vs)
 |[],vs,h=>by
  unfold D.ah at h;subst h;unfold oK qn D.rep;exact⟨[],rfl,by simp[D.ah]⟩
 |[d],vs,h=>by
  unfold D.ah at h;obtain⟨u,us,rfl,h1,h2⟩:=h;unfold D.ah at h2;subst h2;exact h1
 |d::d'::ds,vs,h=>by
  have hl:=D.aW h;unfold oK;have:qn vs=.tuple vs.toArray:=by
   match vs,hl with
   |u::u'::l,_=>rfl
  rw[this];unfold D.rep;exact⟨vs,rfl,h⟩
end
end Go.Vc
end
