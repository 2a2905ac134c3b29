/- The texts that the card needs, part 8. -/
import Derived.Test.YthebhpcjcihjgaaGreatDoorP6
set_option linter.all false
section
namespace Go.Km
open Go Go.Vc Go.Proofs Go.ab Go.Proofs.YthebhpcjcihjgaaGreatDoor
set_option maxRecDepth 100000
set_option maxHeartbeats 0
instance:Je 176:=⟨trivial⟩
instance:Je 148:=⟨trivial⟩
theorem Cn{n:Int}(h:0≤n∧n≤255):byR (UInt8.ofNat n.toNat)=[byF n]:=by
 unfold byR;rw[UInt8.toNat_ofNat_of_lt' (by show n.toNat<256;omega),Rs h.1]
instance(l:List UInt8)(n:Int):HB X1.Γ 176 l [byF n] (.vl .nilIface) (l++[UInt8.ofNat n.toNat]) (0≤n∧n≤255∧l.length≤1000000000):=⟨fun h=>by
 obtain⟨h1,h2,h3⟩:=h;refine⟨fun η b_ v_ b2_ v2_ h1_ h2_=>?_,fun e η b_ v_ t_ h1_ h2_=>?_⟩
 ·refine xm fH rfl rfl ?_ h1_ h2_;intro vs_;repeat' first|exact k9|refine k2 ?_|apply kA|apply kI;intro hc|refine k8 ?_|apply kL;intro hl
  exact dI.i rfl (by rw[List.map_append,OK,Cn ⟨h1,h2⟩];rfl)
 ·subst e;refine xX fH rfl rfl ?_ h1_ h2_;intro vs_;repeat' first|exact k9|refine k2 ?_|apply kA|apply kI;intro hc|refine k8 ?_|apply kL;intro hl
  exact dI.i rfl (by rw[OH,OK,Cn ⟨h1,h2⟩];rfl)⟩
instance(l:List UInt8)(s:ByteArray):HB X1.Γ 148 l [stF s] (.tp [inF s.size,.vl .nilIface]) (l++s.data.toList) (s.size≤1000000000∧l.length≤1000000000):=⟨fun h=>by
 obtain⟨h1,h2⟩:=h;refine⟨fun η b_ v_ b2_ v2_ h1_ h2_=>?_,fun e η b_ v_ t_ h1_ h2_=>?_⟩
 ·refine xm fH rfl rfl ?_ h1_ h2_;intro vs_;repeat' first|exact k9|refine k2 ?_|apply kA|apply kI;intro hc|refine k8 ?_|apply kL;intro hl
  exact dI.i rfl (by rw[List.map_append];rfl)
 ·subst e;refine xX fH rfl rfl ?_ h1_ h2_;intro vs_;repeat' first|exact k9|refine k2 ?_|apply kA|apply kI;intro hc|refine k8 ?_|apply kL;intro hl
  exact dI.i rfl (by rw[OH];rfl)⟩
end Go.Km
namespace Go.Proofs.YthebhpcjcihjgaaGreatDoor
open Go Go.Sl Go.RowKit
theorem Fp(args:Array Value)(w:World):(callFunc 210 args).run Tryz.prog w=((Extern.BytealgIndexByte.indexByte args).run Tryz.prog w).andThen fun v w'=>.ok (.value v) w':=
 run_callFunc_extern Tryz.func210 (by kernel_rfl) (by kernel_rfl) (by kernel_rfl) (by kernel_rfl) args w
theorem Bu(s:ByteArray)(c:Int)(w:World):Calls Tryz.prog 206 #[.string s,.int .u8 c] w (rM w (.int .i64 (Lib.indexByte s.data.toList c.toNat.toUInt8))):=by
 refine TC.calls (l:=[.string s,.int .u8 c]) Tryz.func206 rfl Tryz.ntmps206 rfl (St.start w) ?_
 repeat' (first|((apply T.ev_;exact rfl;exact Ev.Ni (vs:=[.string s,.int .u8 c]) Fp rfl (fun w=>Lib.run_indexByteString s c w)))|(refine W1 ?_)|(refine W2 (fun hc=>?_) (fun hc=>?_))|(intro _))
 exact TX.x7 rfl rfl (fun w' hw=>rM.eq hw rfl)
end Go.Proofs.YthebhpcjcihjgaaGreatDoor
namespace Go.ab
open Go
def yn(n:Nat):UInt8:=if n<10 then (48+n).toUInt8 else (87+n).toUInt8
def BL(left:ByteArray)(b:Int):Bool:=decide (32≤b)&&decide (b≤126) && !decide (b=92)&&decide (Lib.indexByte left.data.toList b.toNat.toUInt8<0)
def bP(left:ByteArray)(c:UInt8):List UInt8:=
 if BL left (c.toNat:Int)=true then [c] else if c.toNat=10 then [92,110] else if c.toNat=13 then [92,114] else if c.toNat=9 then [92,116]
 else if c.toNat=92∨0≤Lib.indexByte left.data.toList ((c.toNat:Int).toNat.toUInt8) then [92,c] else [92,120,yn (c.toNat / 16),yn (c.toNat % 16)]
end Go.ab
namespace Go.Km
open Go Go.Vc Go.Proofs Go.ab Go.Proofs.YthebhpcjcihjgaaGreatDoor
set_option maxRecDepth 100000
set_option maxHeartbeats 0
instance(s:ByteArray)(c:Int):C 206 [stF s,byF c] (inF (Lib.indexByte s.data.toList c.toNat.toUInt8)) true True:=⟨fun _=>Pure.ofV (l:=[.string s,.int .u8 c]) fun w=>Bu s c w⟩
instance(s:ByteArray)(c:Int):C 202 [stF s,byF c] (inF (Lib.indexByte s.data.toList c.toNat.toUInt8)) true True:=⟨fun h=>by
 refine kf rfl rfl ?_;repeat' (first|exact k9|refine k2 ?_|apply kA|apply kI;intro hc|refine k8 ?_|apply kL;intro hl)⟩
instance(b:Int)(left:ByteArray):C 201 [byF b,stF left] (boF (BL left b)) true True:=⟨fun h=>by
 refine kf rfl rfl ?_;repeat' first|exact k9|refine k2 ?_|apply kA|apply kI;intro hc|refine k8 ?_|apply kL;intro hl
 all_goals (refine aa.b ?_ rfl;unfold BL;simp_all [mB])
 all_goals omega⟩
abbrev Nt:ByteArray:=⟨#[48,49,50,51,52,53,54,55,56,57,97,98,99,100,101,102]⟩
theorem L3:∀a:Nat,a<256→Nt.data.toList[((a:Int).fdiv (2 ^ min (Int.toNat 4) IntKind.u8.bits)).toNat]?=some (yn (a / 16)):=by decide +kernel
theorem Ky:∀a:Nat,a<256→Nt.data.toList[(BitVec.ofInt IntKind.u8.bits (a:Int) &&& BitVec.ofInt IntKind.u8.bits 15).toNat % ((2:Int) ^ IntKind.u8.bits).natAbs]?=some (yn (a % 16)):=by decide +kernel
theorem H8:∀a:Nat,a<256→0≤(a:Int).fdiv (2 ^ min (Int.toNat 4) IntKind.u8.bits):=by decide +kernel
theorem Gp(l:List UInt8)(u:UInt8)(left:ByteArray)(hl:l.length≤900000000):BwP X1.Γ 196 l [byF (u.toNat:Int),stF left] (.tp []) (l++bP left u):=by
 have hu:u.toNat<256:=u.toNat_lt;have hx1:=L3 u.toNat hu;have hx2:=Ky u.toNat hu;have hx3:=H8 u.toNat hu;have hu2:UInt8.ofNat ((u.toNat:Int)).toNat=u:=by simp
 have hof:∀x:UInt8,UInt8.ofNat ((x.toNat:Int)).toNat=x:=fun x=>by simp
 have hb:∀(x:UInt8) (m:List UInt8),m.length≤1000000000→0≤(x.toNat:Int)∧(x.toNat:Int)≤255∧m.length≤1000000000:=fun x m h=>⟨by omega,by have:=x.toNat_lt;omega,h⟩
 have h2:∀x y:UInt8,(⟨#[x,y]⟩:ByteArray).size≤1000000000∧l.length≤1000000000:=fun _ _=>⟨(by show(2:Nat)≤1000000000;omega),by omega⟩
 refine⟨fun η b_ v_ b2_ v2_ h1_ h2_=>?_,fun e η b_ v_ t_ h1_ h2_=>?_⟩
 ·refine xm fH rfl rfl ?_ h1_ h2_;intro vs_;repeat' first|exact k9|refine k2 ?_|apply kA|apply kI;intro hc|apply kL;intro hl|(((apply SdA.m;exact⟨h2 _ _⟩))<;>conv=>whnf)|(((apply SdA.m;exact⟨hb _ _ (by simp only[Oh,Og,Ol,Array.length_toList];omega)⟩))<;>conv=>whnf)|refine k8 ?_|fail
  ·refine dI.i rfl ?_;rw[hu2,show bP left u=[u] from by rw[bP,if_pos hc]];rfl
  ·rename_i h0;refine dI.i rfl ?_;rw[show bP left u=[92,110] from by rw[bP,if_neg (by rw[h0];decide),if_pos (by omega)]];rfl
  ·rename_i h0 ha;refine dI.i rfl ?_;rw[show bP left u=[92,114] from by rw[bP,if_neg (by rw[h0];decide),if_neg (by omega),if_pos (by omega)]];rfl
  ·rename_i h0 ha hb';refine dI.i rfl ?_;rw[show bP left u=[92,116] from by rw[bP,if_neg (by rw[h0];decide),if_neg (by omega),if_neg (by omega),if_pos (by omega)]];rfl
  ·rename_i h0 ha hb' hc';refine dI.i rfl ?_;rw[hu2,show bP left u=[92,u] from by rw[bP,if_neg (by rw[h0];decide),if_neg (by omega),if_neg (by omega),if_neg (by omega),if_pos (.inl (by omega))],List.append_assoc];rfl
  ·rename_i h0 ha hb' hc' hd';refine dI.i rfl ?_;rw[hu2,show bP left u=[92,u] from by rw[bP,if_neg (by rw[h0];decide),if_neg (by omega),if_neg (by omega),if_neg (by omega),if_pos (.inr hc)],List.append_assoc];rfl
  ·rename_i h0 ha hb' hc' hd';refine dI.i rfl ?_;rw[hof,hof,show bP left u=[92,120,yn (u.toNat / 16),yn (u.toNat % 16)] from by rw[bP,if_neg (by rw[h0];decide),if_neg (by omega),if_neg (by omega),if_neg (by omega),if_neg (fun h=>h.elim (fun h=>hd' (by omega)) (fun h=>by omega))],List.append_assoc,List.append_assoc];rfl
 ·subst e;refine xX fH rfl rfl ?_ h1_ h2_;intro vs_;repeat' first|exact k9|refine k2 ?_|apply kA|apply kI;intro hc|apply kL;intro hl|(((apply SdA.m;exact⟨h2 _ _⟩))<;>conv=>whnf)|(((apply SdA.m;exact⟨hb _ _ (by simp only[Oh,Og,Ol,Array.length_toList];omega)⟩))<;>conv=>whnf)|refine k8 ?_|fail
  ·refine dI.i rfl ?_;rw[hu2,show bP left u=[u] from by rw[bP,if_pos hc]];rfl
  ·rename_i h0;refine dI.i rfl ?_;rw[show bP left u=[92,110] from by rw[bP,if_neg (by rw[h0];decide),if_pos (by omega)]];rfl
  ·rename_i h0 ha;refine dI.i rfl ?_;rw[show bP left u=[92,114] from by rw[bP,if_neg (by rw[h0];decide),if_neg (by omega),if_pos (by omega)]];rfl
  ·rename_i h0 ha hb';refine dI.i rfl ?_;rw[show bP left u=[92,116] from by rw[bP,if_neg (by rw[h0];decide),if_neg (by omega),if_neg (by omega),if_pos (by omega)]];rfl
  ·rename_i h0 ha hb' hc';refine dI.i rfl ?_;rw[hu2,show bP left u=[92,u] from by rw[bP,if_neg (by rw[h0];decide),if_neg (by omega),if_neg (by omega),if_neg (by omega),if_pos (.inl (by omega))],List.append_assoc];rfl
  ·rename_i h0 ha hb' hc' hd';refine dI.i rfl ?_;rw[hu2,show bP left u=[92,u] from by rw[bP,if_neg (by rw[h0];decide),if_neg (by omega),if_neg (by omega),if_neg (by omega),if_pos (.inr hc)],List.append_assoc];rfl
  ·rename_i h0 ha hb' hc' hd';refine dI.i rfl ?_;rw[hof,hof,show bP left u=[92,120,yn (u.toNat / 16),yn (u.toNat % 16)] from by rw[bP,if_neg (by rw[h0];decide),if_neg (by omega),if_neg (by omega),if_neg (by omega),if_neg (fun h=>h.elim (fun h=>hd' (by omega)) (fun h=>by omega))],List.append_assoc,List.append_assoc];rfl
instance:Je 196:=⟨trivial⟩
instance(l:List UInt8)(u:UInt8)(left:ByteArray):HB X1.Γ 196 l [byF (u.toNat:Int),stF left] (.tp []) (l++bP left u) (l.length≤900000000):=⟨Gp l u left⟩
end Go.Km
end
section
namespace Go.Sl
open Go Go.RowKit
section
variable {P:Program} {n:FD} {s:Sg} {M:World→Prop} {ty:TypeId}
theorem u64_in{a:Nat}(h:a<18446744073709551616):IntKind.u64.wrap (a:Int)=(a:Int):=by rw[IntKind.wrap_u64];omega
theorem Ev.Mi{x y:Operand}{t u:TypeId}{a b:Nat}(hx:ev s x=some (.int .u64 (a:Int)))(hy:ev s y=some (.int .u64 (b:Int)))(ha:a<18446744073709551616)(hb:b<18446744073709551616):Ev P n s M (.binOp .and t x y u) ty (.int .u64 ((a &&& b:Nat):Int)):=by
 refine⟨fun ac w o ho ht hf hm=>?_⟩;have hl:a &&& b<2 ^ 64:=Nat.and_lt_two_pow _ (by omega);have h1:(BitVec.ofInt 64 (a:Int)).toNat=a:=by
  rw[PY,PC];exact Py (by omega)
 have h2:(BitVec.ofInt 64 (b:Int)).toNat=b:=by
  rw[PY,PC];exact Py (by omega)
 have h3:IntKind.u64.wrap ((BitVec.ofInt 64 (a:Int) &&& BitVec.ofInt 64 (b:Int)).toNat:Int)=((a &&& b:Nat):Int):=by
  rw[Ri,h1,h2];exact u64_in hl
 have h:(Op.intBits .and .u64 (a:Int) (b:Int)).run P w=.ok (.int .u64 ((a &&& b:Nat):Int)) w:=by
  rw[←h3];rfl
 simp[execOp,ho,hf.ev hx,hf.ev hy,eqGuard,binOp,h]
theorem Ev.M6{x:Operand}{t:TypeId}{a:Nat}(hx:ev s x=some (.int .u64 (a:Int)))(ha:a<18446744073709551616):Ev P n s M (.unOp .xor t x) ty (.int .u64 ((18446744073709551615 - a:Nat):Int)):=by
 refine⟨fun ac w o ho ht hf hm=>?_⟩;have h1:(BitVec.ofInt 64 (a:Int))=BitVec.ofNat 64 a:=by rw[PY]
 have h2:(BitVec.ofInt 64 18446744073709551615)=BitVec.allOnes 64:=by decide
 have h3:IntKind.u64.wrap ((BitVec.ofInt 64 18446744073709551615 ^^^ BitVec.ofInt 64 (a:Int)).toNat:Int)=((18446744073709551615 - a:Nat):Int):=by
  rw[h1,h2,BitVec.xor_comm,BitVec.xor_allOnes,BitVec.toNat_not,PC,Py (by omega)];exact u64_in (by omega)
 have h:(Op.unary .xor (.int .u64 (a:Int))).run P w=.ok (.int .u64 ((18446744073709551615 - a:Nat):Int)) w:=by
  rw[←h3];rfl
 simp[execOp,ho,hf.ev hx,h]
theorem Ev.Mw{x:Operand}{t:TypeId}{a:Nat}(hx:ev s x=some (.int .u64 (a:Int)))(h0:a≠0)(ha:a<18446744073709551616):Ev P n s M (.unOp .neg t x) ty (.int .u64 ((18446744073709551616 - a:Nat):Int)):=by
 refine⟨fun ac w o ho ht hf hm=>?_⟩;have h:IntKind.u64.wrap (0 - (a:Int))=((18446744073709551616 - a:Nat):Int):=by rw[IntKind.wrap_u64];omega
 have h':IntKind.u64.wrap (-(a:Int))=((18446744073709551616 - a:Nat):Int):=by rw[IntKind.wrap_u64];omega
 simp[execOp,ho,hf.ev hx,Op.unary,Op.intArith,h']
theorem Ev.MY{x y:Operand}{t u:TypeId}{a b:Nat}(hx:ev s x=some (.int .u64 (a:Int)))(hy:ev s y=some (.int .u64 (b:Int))):Ev P n s M (.binOp .mul t x y u) ty (.int .u64 ((a * b % 18446744073709551616:Nat):Int)):=by
 refine⟨fun ac w o ho ht hf hm=>?_⟩;have h:IntKind.u64.wrap ((a:Int) * (b:Int))=((a * b % 18446744073709551616:Nat):Int):=by rw[IntKind.wrap_u64,←Int.natCast_mul];omega
 simp[execOp,ho,hf.ev hx,hf.ev hy,eqGuard,binOp,Op.intArith,h]
theorem Ev.ME{x y:Operand}{t u:TypeId}{a:Nat}(hx:ev s x=some (.int .u64 (a:Int)))(hy:ev s y=some (.int .u64 58)):Ev P n s M (.binOp .shr t x y u) ty (.int .u64 ((a / 288230376151711744:Nat):Int)):=by
 refine⟨fun ac w o ho ht hf hm=>?_⟩;have h1:(a:Int).fdiv (2 ^ 58)=((a / 288230376151711744:Nat):Int):=by
  rw[Int.fdiv_eq_ediv_of_nonneg _ (by omega)];rfl
 have h:(Op.shift .shr .u64 (a:Int) .u64 58).run P w=.ok (.int .u64 ((a / 288230376151711744:Nat):Int)) w:=by
  rw[←h1];rfl
 simp[execOp,ho,hf.ev hx,hf.ev hy,eqGuard,binOp,h]
class AE(P:Program)(t:Nat)(len:outParam Nat):Prop where
 run:∀(cs:Array Value) (v:Value) (i:Nat) (k:IntKind) (w:World),i<len→cs[i]?=some v→(Instr.index t (.agg cs) (.int k (i:Int))).run P w=.ok v w
theorem AE.of{t len e:Nat}{d:TypeDesc}(hu:P.underlying t=some (.array len e))(hs:(P.info? e).map (·.size)=some 1)(hd:P.underlying e=some d)(hd':(match d with | .struct _ | .array _ _=>true|_=>false)=false):AE P t len:=by
 refine⟨fun cs v i k w hi hv=>?_⟩;obtain⟨⟨inf,h1,h2⟩⟩:=SZ.of hs
 cases d<;>simp at hd'<;>simp[Instr.index,asIntOf,run_underlying hu,hi,sizeOf,typeInfo,h1,h2,part,isAgg,run_underlying hd,hv]
theorem Ev.Ey{x y:Operand}{t len i:Nat}{k:IntKind}{cs:Array Value}{v:Value}[h:AE P t len](hx:ev s x=some (.agg cs))(hy:ev s y=some (.int k (i:Int)))(hi:i<len)(hv:cs[i]?=some v):Ev P n s M (.index t x y) ty v:=by
 refine⟨fun ac w o ho ht hf hm=>?_⟩;simp[execOp,ho,hf.ev hx,hf.ev hy,h.run cs v i k w hi hv]
theorem Ev.LP{x y:Operand}{t u:TypeId}{a b r:Nat}(e:a &&& b=r)(hx:ev s x=some (.int .u64 (a:Int)))(hy:ev s y=some (.int .u64 (b:Int)))(ha:a<18446744073709551616)(hb:b<18446744073709551616):Ev P n s M (.binOp .and t x y u) ty (.int .u64 (r:Int)):=e▸Ev.Mi hx hy ha hb
theorem Ev.L6{x y:Operand}{t u:TypeId}{a b r:Nat}(e:a * b % 18446744073709551616=r)(hx:ev s x=some (.int .u64 (a:Int)))(hy:ev s y=some (.int .u64 (b:Int))):Ev P n s M (.binOp .mul t x y u) ty (.int .u64 (r:Int)):=e▸Ev.MY hx hy
theorem Ev.Lx{x y:Operand}{t u:TypeId}{a r:Nat}(e:a / 288230376151711744=r)(hx:ev s x=some (.int .u64 (a:Int)))(hy:ev s y=some (.int .u64 58)):Ev P n s M (.binOp .shr t x y u) ty (.int .u64 (r:Int)):=e▸Ev.ME hx hy
end
end Go.Sl
namespace Go.ab
open Go
def jx(x:Nat):List Nat:=(List.range 64).filter fun i=>x.testBit i
theorem AX:jx 0=[]:=by simp[jx]
theorem xB{p:Nat→Bool}{n k:Nat}(hk:k<n)(hp:p k=true)(hl:∀i,i<k→p i=false):(List.range n).filter p=k :: (List.range n).filter (fun i=>p i && !decide (i=k)):=by
 obtain⟨d,rfl⟩:∃d,n=k+(d+1):=⟨n - k - 1,by omega⟩
 have e:List.range (k+(d+1))=List.range k++k :: (List.range' (k+1) d):=by
  rw[List.range_eq_range',List.range_eq_range',←List.range'_append_1];simp[QA]
 have h1:(List.range k).filter p=[]:=List.filter_eq_nil_iff.2 (fun i hi=>by rw[hl i (Pf.1 hi)];simp);have h2:(List.range k).filter (fun i=>p i && !decide (i=k))=[]:=List.filter_eq_nil_iff.2 (fun i hi=>by rw[hl i (Pf.1 hi)];simp);have h3:(List.range' (k+1) d).filter p=(List.range' (k+1) d).filter (fun i=>p i && !decide (i=k)):=List.filter_congr (fun i hi=>by
  have:=(List.mem_range'_1.1 hi).1;have hne:i≠k:=by omega
  simp[hne])
 rw[e,PD,PD,QT,QT,h1,h2,h3];simp[hp]
theorem HC{x k m:Nat}(hx:x=2 ^ k * (2 * m+1))(i:Nat):(x &&& (x - 1)).testBit i=(x.testBit i && !decide (i=k)):=by
 have hpos:0<2 ^ k:=QY k;have e1:x=2 ^ k * (2 * m+1)+0:=by omega
 have e2:x - 1=2 ^ k * (2 * m)+(2 ^ k - 1):=by rw[hx,Nat.mul_add];omega
 rw[Nat.testBit_and,e2,e1,QI _ hpos,QI _ (by omega)]
 by_cases h:i<k
 ·simp[h]
 ·rw[if_neg h,if_neg h]
  by_cases he:i=k
  ·subst he;simp
  ·obtain⟨j,hj⟩:∃j,i - k=j+1:=⟨i - k - 1,by omega⟩
   rw[hj,Nat.testBit_succ,Nat.testBit_succ];have d1:(2 * m+1) / 2=m:=by omega
   have d2:2 * m / 2=m:=by omega
   rw[d1,d2];simp[he]
theorem Be{x:Nat}(h0:x≠0)(h:x<18446744073709551616):jx x=Lib.ctz 64 x :: jx (x &&& (x - 1))∧Lib.ctz 64 x<64:=by
 obtain⟨m,hm,hk⟩:=Lib.ctzFrom_spec 64 x (by omega) h;have e:Lib.ctz 64 x=Lib.ctzFrom 64 x:=by simp[Lib.ctz,h0]
 rw[e];generalize Lib.ctzFrom 64 x=k at *;refine⟨?_,hk⟩;have hb:∀i,x.testBit i=if i<k then false else (2 * m+1).testBit (i - k):=fun i=>by
  have e1:x=2 ^ k * (2 * m+1)+0:=by omega
  rw[e1,QI _ (QY k)];simp
 unfold jx;rw[xB (p:=fun i=>x.testBit i) hk (by rw[hb];simp) (fun i hi=>by rw[hb,if_pos hi])]
 congr 1
 exact List.filter_congr (fun i _=>(HC hm i).symm)
theorem As{x:Nat}(h0:x≠0):x &&& (x - 1)<x:=by
 have:x &&& (x - 1)≤x - 1:=Nat.and_le_right;omega
theorem F2{x b:Nat}(h:b∈jx x):b<64:=Pf.1 (Qu.1 h).1
theorem vX(x:Nat):(jx x).length≤64:=by
 have:=PU (fun i=>x.testBit i) (List.range 64);rw[Pw] at this;exact this
def Bts.ws(s:Bts):List Nat:=[s.a.toNat,s.b.toNat,s.c.toNat,s.d.toNat]
def cD:Nat→List Nat→List Nat
 | _,[]=>[]
 | i,x :: l=>(jx x).map (fun b=>i * 64+b)++cD (i+1) l
def lY(s:Bts):List Nat:=cD 0 s.ws
theorem wv:∀(l:List Nat) (i:Nat),∀b∈cD i l,b<(i+l.length) * 64
 | [],_,b,h=>by cases h
 | x :: l,i,b,h=>by
  rw[Og];rcases Oy.1 h with h|h
  ·obtain⟨c,hc,rfl⟩:=Pq.1 h;have:=F2 hc;have e:(i+(l.length+1)) * 64=i * 64+l.length * 64+64:=by rw[Ps,Ps];omega
   omega
  ·have:=wv l (i+1) b h;have e:i+1+l.length=i+(l.length+1):=by omega
   rwa [e] at this
theorem qS{s:Bts}{b:Nat}(h:b∈lY s):b<256:=by
 have:=wv s.ws 0 b h;simpa [Bts.ws] using this
theorem nU:∀(l:List Nat) (i:Nat),(cD i l).length≤64 * l.length
 | [],_=>by simp[cD]
 | x :: l,i=>by
  have h1:=vX x;have h2:=nU l (i+1);simp only[cD,Oh,Ok,Og];omega
theorem Bm(s:Bts):(lY s).length≤256:=nU s.ws 0
def cV(l:List (Nat×Nat))(b:Nat):List (Nat×Nat):=match l.getLast? with
 | some r=>if r.2+1=b then l.dropLast++[(r.1,b)] else l++[(b,b)]
 | none=>[(b,b)]
def gG(s:Bts):List (Nat×Nat):=(lY s).foldl cV []
theorem dT(l:List (Nat×Nat))(r:Nat×Nat)(b:Nat):cV (l++[r]) b=if r.2+1=b then l++[(r.1,b)] else l++[r]++[(b,b)]:=by
 unfold cV;rw[List.getLast?_concat,List.dropLast_concat]
theorem kU(b:Nat):cV [] b=[(b,b)]:=rfl
theorem nQ(l:List (Nat×Nat))(b:Nat):(cV l b).length≤l.length+1:=by
 rcases bx l with rfl|⟨l',r,rfl⟩
 ·simp[kU]
 ·rw[dT]
  split<;>simp
def rq(l:List (Nat×Nat)):Prop:=∀r∈l,r.1≤r.2∧r.2<256
theorem wF{l:List (Nat×Nat)}{b:Nat}(h:rq l)(hb:b<256):rq (cV l b):=by
 rcases bx l with rfl|⟨l',r,rfl⟩
 ·intro x hx;simp[kU] at hx;subst hx;exact⟨Ov _,hb⟩
 ·rw[dT];have hr:=h r (by simp)
  split
  ·intro x hx;rcases Oy.1 hx with hx|hx
   ·exact h x (by simp[hx])
   ·simp at hx;subst hx;exact⟨by simp only;omega,hb⟩
  ·intro x hx;rcases Oy.1 hx with hx|hx
   ·exact h x hx
   ·simp at hx;subst hx;exact⟨Ov _,hb⟩
theorem mS:∀(bs:List Nat) (l:List (Nat×Nat)),rq l→(∀b∈bs,b<256)→rq (bs.foldl cV l)∧(bs.foldl cV l).length≤l.length+bs.length
 | [],l,h,_=>⟨h,by simp⟩
 | b :: bs,l,h,hb=>by
  obtain⟨h1,h2⟩:=mS bs (cV l b) (wF h (hb b (by simp))) (fun x hx=>hb x (by simp[hx]));have:=nQ l b;exact⟨h1,by simp only[PJ,Og];omega⟩
theorem sI(s:Bts):rq (gG s)∧(gG s).length≤256:=by
 obtain⟨h1,h2⟩:=mS (lY s) [] (fun r hr=>by cases hr) (fun b hb=>qS hb);have:=Bm s;exact⟨h1,by simp only[Ol] at h2;unfold gG;omega⟩
theorem oC:∀(l:List Nat) (i k:Nat),cD i l=cD i (l.take k)++cD (i+k) (l.drop k)
 | [],i,k=>by simp[cD]
 | x :: l,i,0=>by simp[cD]
 | x :: l,i,k+1=>by
  rw[O7,PR,cD,cD,oC l (i+1) k,List.append_assoc,show i+1+k=i+(k+1) by omega]
end Go.ab
namespace Go.Proofs.YthebhpcjcihjgaaGreatDoor
open Go Go.Sl Go.RowKit Go.ab
instance:AE Tryz.prog 43 4:=AE.of Tryz.underlying43 (by kernel_rfl) Tryz.underlying41 rfl
def NK:Nat→List Value
 | 0=>[.int .u64 0,.int .u64 0,.int .u64 0,.int .u64 0]
 | 1=>[.int .u64 18446744073709551615,.int .u64 0,.int .u64 0,.int .u64 0]
 | 2=>[.int .u64 18446744073709551615,.int .u64 18446744073709551615,.int .u64 0,.int .u64 0]
 | 3=>[.int .u64 18446744073709551615,.int .u64 18446744073709551615,.int .u64 18446744073709551615,.int .u64 0]
 | _=>[.int .u64 18446744073709551615,.int .u64 18446744073709551615,.int .u64 18446744073709551615,.int .u64 18446744073709551615]
theorem Ev.uE{P:Program}{n:FD}{s:Sg}{M:World→Prop}{ty:TypeId}{x:Operand}{t:TypeId}(hx:ev s x=some (.int .u64 0)):Ev P n s M (.unOp .xor t x) ty (.int .u64 18446744073709551615):=Ev.M6 (a:=0) hx (by decide)
set_option maxRecDepth 20000 in
theorem Ir(w:World):Calls Tryz.prog 203 #[.agg #[.int .u64 0,.int .u64 0,.int .u64 0,.int .u64 0]] w (rM w (.agg #[.int .u64 18446744073709551615,.int .u64 18446744073709551615,.int .u64 18446744073709551615,.int .u64 18446744073709551615])):=by
 refine TC.calls (l:=[.agg #[.int .u64 0,.int .u64 0,.int .u64 0,.int .u64 0]]) Tryz.func203 rfl Tryz.ntmps203 rfl (St.start w) ?_
 repeat' (first|(refine W1 ?_)|(refine W2 (fun hc=>?_) (fun hc=>?_))|(intro _))
 rename_i b1 b2;refine TC.Ns (ι:=Nat) 0 (fun i r=>(6,.int .i64 i) :: r) (fun i=>St w [blk b2 [.int .u64 0,.int .u64 0,.int .u64 0,.int .u64 0] 43,blk b1 (NK i) 43]) (fun i=>i≤4) (fun i=>4 - i) KpA Gu (fun _ h=>h) (Oq _) ?_;intro i hi
 by_cases hlt:i<4
 ·have e:i=0∨i=1∨i=2∨i=3:=by omega
  rcases e with rfl|rfl|rfl|rfl
  all_goals
   repeat' (first|((apply T.ev_;exact rfl;apply Ev.Ey;exact rfl;exact rfl;exact hlt;exact rfl))|((apply T.ev_;exact rfl;apply Ev.uE;exact rfl))|((apply T.ev_;exact rfl;apply Ev.xe;exact rfl;exact rfl;exact hlt))|(refine W1 ?_)|(refine W2 (fun hc=>?_) (fun hc=>?_))|(intro _))
  ·exact TX.round 1 (by decide) (by decide) Gu (fun w' hw=>hw)
  ·exact TX.round 2 (by decide) (by decide) Gu (fun w' hw=>hw)
  ·exact TX.round 3 (by decide) (by decide) Gu (fun w' hw=>hw)
  ·exact TX.round 4 (by decide) (by decide) Gu (fun w' hw=>hw)
 ·have hck:decide ((i:Int)<4)=false:=decide_eq_false (by omega);obtain rfl:i=4:=by omega
  repeat' (first|(refine W1 ?_)|(refine W2 (fun hc=>?_) (fun hc=>?_))|(intro _))
  exact TX.Dn (rs:=[.cell 2 43]) (vs:=[.agg #[.int .u64 18446744073709551615,.int .u64 18446744073709551615,.int .u64 18446744073709551615,.int .u64 18446744073709551615]]) rfl (.cell rfl (CH (cs:=[.int .u64 18446744073709551615,.int .u64 18446744073709551615,.int .u64 18446744073709551615,.int .u64 18446744073709551615]) AtA rfl) .nil) (fun w' hw=>rM.eq hw rfl)
theorem JG(w:World):Calls Tryz.prog 197 #[] w (rM w (.agg #[.int .u64 18446744073709551615,.int .u64 18446744073709551615,.int .u64 18446744073709551615,.int .u64 18446744073709551615])):=by
 refine TC.calls (l:=[]) Tryz.func197 rfl Tryz.ntmps197 rfl (St.start w) ?_
 repeat' (first|((apply T.FG (f:=203);exact rfl;exact rfl;exact fun w' _=>Ir w'))|(refine W1 ?_)|(refine W2 (fun hc=>?_) (fun hc=>?_))|(intro _))
 exact TX.Dn (rs:=[.cell 0 43]) (vs:=[.agg #[.int .u64 18446744073709551615,.int .u64 18446744073709551615,.int .u64 18446744073709551615,.int .u64 18446744073709551615]]) rfl (.cell rfl (CH (cs:=[.int .u64 18446744073709551615,.int .u64 18446744073709551615,.int .u64 18446744073709551615,.int .u64 18446744073709551615]) AtA rfl) .nil) (fun w' hw=>rM.eq hw rfl)
def EC(w:World):Prop:=∀i,i<64→w.cell? ⟨3,i,none⟩=some (.int .u8 ((Lib.deBruijn64tab.getD i 0:Nat):Int))
theorem EC.st{w0 w:World}{L:List HP}(h:EC w0)(hs:St w0 L w):EC w:=fun i hi=>hs.FP (h i hi)
theorem Li(x:Nat)(w:World)(h0:x≠0)(hx:x<18446744073709551616)(hT:EC w):Calls Tryz.prog 208 #[.int .u64 (x:Int)] w (rM w (.int .i64 ((Lib.ctz 64 x:Nat):Int))):=by
 refine TC.calls (l:=[.int .u64 (x:Int)]) Tryz.func208 rfl Tryz.ntmps208 rfl (St.start w) ?_;obtain⟨hlow,hk⟩:=Lib.lowest_bit 64 x h0 hx;obtain⟨hi,htab⟩:=Lib.deBruijn64_at _ hk;generalize Lib.ctz 64 x=k at *;have hp:2 ^ k<18446744073709551616:=Nat.pow_lt_pow_right (by decide) hk;obtain⟨a,ha⟩:=exEq (2 ^ k);have hlow':x &&& (18446744073709551616 - x)=a:=by rw[ha];exact hlow
 rw[←ha] at hi htab hp;obtain⟨m,hm⟩:∃m,a * 285870213051353865 % 18446744073709551616=m:=⟨_,rfl⟩
 rw[hm] at hi htab;obtain⟨j,hj⟩:∃j,m / 288230376151711744=j:=⟨_,rfl⟩
 rw[hj] at hi htab;have hc:decide ((x:Int)=0)=false:=decide_eq_false (by omega);have ht:=fun w' (hw':St w [] w')=>(EC.st hT hw') j hi
 rw[htab] at ht;have hn:18446744073709551616 - x<18446744073709551616:=by omega
 repeat' (first|((apply T.ev_;exact rfl;apply Ev.Mw;exact rfl;exact h0;exact hx))|((apply T.ev_;exact rfl;apply Ev.LP hlow';exact rfl;exact rfl;exact hx;exact hn))|((apply T.ev_;exact rfl;apply Ev.L6 (b:=285870213051353865) hm;exact rfl;exact rfl))|((apply T.ev_;exact rfl;apply Ev.Lx hj;exact rfl;exact rfl))|((apply T.ev_;exact rfl;apply Ev.xe (i:=j);exact rfl;exact rfl;exact hi))|((apply T.ev_;exact rfl;apply Ev.J3 (p:=⟨3,0+j * 1,none⟩);exact rfl;(intro w' hw';rw[Rt,OS];exact ht w' hw')))|((apply T.ev_;exact rfl;apply Ev.CS;exact rfl;omega))|(refine W1 ?_)|(refine W2 (fun hc=>?_) (fun hc=>?_))|(intro _))
 exact TX.x7 rfl rfl (fun w' hw=>rM.eq hw rfl)
end Go.Proofs.YthebhpcjcihjgaaGreatDoor
end
section
namespace Go.ab
open Go
def eA(left:ByteArray)(l:List UInt8):List UInt8:=l.flatMap (bP left)
def yM(s:ByteArray):List UInt8:=[34]++eA ⟨#[34]⟩ s.data.toList++[34]
theorem fF(left:ByteArray)(c:UInt8):(bP left c).length≤4:=by
 unfold bP
 repeat' split
 all_goals simp
theorem kT(left:ByteArray):∀l:List UInt8,(eA left l).length≤4 * l.length
 | []=>by simp[eA]
 | c :: l=>by
  have h1:=fF left c;have h2:=kT left l;simp only[eA,OR,Oh,Og] at h2 ⊢;omega
theorem rJ(left:ByteArray)(l:List UInt8)(c:UInt8):eA left (l++[c])=eA left l++bP left c:=by simp[eA]
def cq:ByteArray:=⟨#[93,45,94]⟩
def om(r:Nat×Nat):List UInt8:=bP cq r.1.toUInt8++(if 1<r.2 - r.1 then [45] else [])++(if r.2≠r.1 then bP cq r.2.toUInt8 else [])
theorem Gm(r:Nat×Nat):(om r).length≤9:=by
 have h1:=fF cq r.1.toUInt8;have h2:=fF cq r.2.toUInt8;unfold om;simp only[Oh]
 split<;>split<;>simp only[Ol,List.length_singleton]<;>omega
def bS(l:List (Nat×Nat)):List UInt8:=l.flatMap om
theorem BD(l:List (Nat×Nat))(r:Nat×Nat):bS (l++[r])=bS l++om r:=by simp[bS]
theorem kJ:∀l:List (Nat×Nat),(bS l).length≤9 * l.length
 | []=>by simp[bS]
 | r :: l=>by
  have h1:=Gm r;have h2:=kJ l;simp only[bS,OR,Oh,Og] at h2 ⊢;omega
def Bts.all:Bts:=⟨18446744073709551615,18446744073709551615,18446744073709551615,18446744073709551615⟩
def ft(s:Bts):List UInt8:=if s=.all then [46] else [91]++bS (gG s)++[93]
theorem AM(s:Bts):(ft s).length≤3000:=by
 have h1:=kJ (gG s);have h2:=(sI s).2;unfold ft
 split
 ·simp
 ·simp only[Oh,List.length_singleton];omega
end Go.ab
namespace Go.Km
open Go Go.Vc Go.Proofs Go.ab Go.Proofs.YthebhpcjcihjgaaGreatDoor
set_option maxRecDepth 100000
set_option maxHeartbeats 0
instance(s:ByteArray):C 190 [stF s] (stF ⟨(yM s).toArray⟩) true (s.size≤1000000):=⟨fun hs=>by
 have hsl:s.data.toList.length=s.size:=by rw[Array.length_toList];rfl
 refine kf rfl rfl ?_;repeat' first|exact k9|refine k2 ?_|apply kA|apply kI;intro hc|refine k8 ?_|apply kL;intro hl
 apply kCt [0,3,4] [];conv=>whnf
 refine Lp.ind (fun z:Nat=>s.size - z) (fun z=>z≤s.size) (fun z=>[(4,InD z)]) (fun z=>[(1,.ro 0 5 1 (([34]++eA ⟨#[34]⟩ (s.data.toList.take z)).map byR))]) (fun _=>_) 0 (by simp) rfl rfl rfl ?_
 rintro G i ih hi
 have hsl2:=kT ⟨#[34]⟩ (s.data.toList.take i);rw[Ou] at hsl2
 by_cases hx:i<s.size
 ·have hpre:([34]++eA ⟨#[34]⟩ (s.data.toList.take i)).length≤900000000:=by simp only[Oh,Og,Ol];omega
  repeat' first|exact k9|refine k2 ?_|apply kA|apply kI;intro hc|refine k8 ?_|apply kL;intro hl
  apply kCt [0,3,4] [];conv=>whnf
  refine ih (i+1) _ _ _ (by omega) (by omega) rfl rfl ?_;rw[List.take_succ_eq_append_getElem (by omega),rJ,←List.append_assoc];rfl
 ·have hpre:([34]++eA ⟨#[34]⟩ (s.data.toList.take i)).length≤1000000000:=by simp only[Oh,Og,Ol];omega
  have hpre2:([34]++eA ⟨#[34]⟩ (s.data.toList.take i)++[34]).length≤1000000000:=by simp only[Oh,Og,Ol];omega
  have e:yM s=[34]++eA ⟨#[34]⟩ (s.data.toList.take i)++[34]:=by rw[Om (by omega)];rfl
  rw[e];generalize eA ⟨#[34]⟩ (s.data.toList.take i)=m at *
  repeat' first|exact k9|refine k2 ?_|apply kA|apply kI;intro hc|apply kL;intro hl|(((apply SdA.m;exact⟨⟨by simp,hpre2⟩⟩))<;>conv=>whnf)|refine k8 ?_|fail
  exact aa.s rfl rfl⟩
theorem JI{Z:Nat→Prop}{w:World}(hG:∀g cs,X1.Γ g=some cs→F.rep Z w (.pt cs.length [cs] 0 0) (.pointer (some ⟨g,0,none⟩))):EC w:=by
 have h0:X1.Γ 3=some (((List.range 64).map fun i=>Value.int .u8 ((Lib.deBruijn64tab.getD i 0:Nat):Int)).map F.vl):=by kernel_rfl
 have h:=hG _ _ h0;unfold F.rep at h;obtain⟨A,vr,hA,h1,h2,h3⟩:=h
 injection hA with hA
 injection hA with hA
 unfold F.aI at h3;obtain⟨u,us,rfl,h4,h5⟩:=h3;unfold F.aI at h5;subst h5;have:=px h4;subst this;have hA':A=⟨3,0,none⟩:=by rw[hA];simp[Addr.add]
 obtain⟨a,ha,_,hc⟩:=h1.2.2 (by simp)
 cases ha;intro i hi;have:=hc i (.int .u8 ((Lib.deBruijn64tab.getD i 0:Nat):Int)) (by simp[hi]);rw[hA',Sl.add_lit,OS] at this;exact this
instance(x:Nat):C 208 [.vl (.int .u64 (x:Int))] (inF ((Lib.ctz 64 x:Nat):Int)) true (x≠0∧x<18446744073709551616):=⟨fun h=>⟨inferInstance,fun Z w vs hZ hG hr=>by
 rw[px (l:=[.int .u64 (x:Int)]) hr];exact(Li x w h.1 h.2 (JI hG)).mono fun e w' ⟨h1,h2⟩=>⟨_,h1,h2,by unfold F.rep;rfl⟩⟩⟩
instance:C 197 [] (.ag (btF Bts.all)) true True:=⟨fun _=>⟨inferInstance,fun Z w vs hZ hG hr=>by
 rw[px (l:=[]) hr];exact(JG w).mono fun e w' ⟨h1,h2⟩=>⟨_,h1,h2,by unfold F.rep;exact⟨_,rfl,F.GJ [.int .u64 18446744073709551615,.int .u64 18446744073709551615,.int .u64 18446744073709551615,.int .u64 18446744073709551615]⟩⟩⟩⟩
theorem wsD{s:Bts}(h:s.wf){i:Nat}(hi:i<4):([D.fr (.vl (.int .u64 s.a)),D.fr (.vl (.int .u64 s.b)),D.fr (.vl (.int .u64 s.c)),D.fr (.vl (.int .u64 s.d))]:List D)[i * 1]?=some (D.fr (.vl (.int .u64 ((s.ws.getD i 0:Nat):Int)))):=by
 obtain⟨h1,h2,h3,h4⟩:=h;have e:i=0∨i=1∨i=2∨i=3:=by omega
 rcases e with rfl|rfl|rfl|rfl
 ·exact congrArg (fun z=>some (D.fr (.vl (.int .u64 z)))) (show s.a=((s.a.toNat:Nat):Int) by omega)
 ·exact congrArg (fun z=>some (D.fr (.vl (.int .u64 z)))) (show s.b=((s.b.toNat:Nat):Int) by omega)
 ·exact congrArg (fun z=>some (D.fr (.vl (.int .u64 z)))) (show s.c=((s.c.toNat:Nat):Int) by omega)
 ·exact congrArg (fun z=>some (D.fr (.vl (.int .u64 z)))) (show s.d=((s.d.toNat:Nat):Int) by omega)
theorem Kh{s:Bts}(h:s.wf){i:Nat}(hi:i<4):s.ws.getD i 0<18446744073709551616:=by
 obtain⟨h1,h2,h3,h4⟩:=h;have e:i=0∨i=1∨i=2∨i=3:=by omega
 rcases e with rfl|rfl|rfl|rfl
 ·show s.a.toNat<_;omega
 ·show s.b.toNat<_;omega
 ·show s.c.toNat<_;omega
 ·show s.d.toNat<_;omega
theorem Ax{s:Bts}{i:Nat}(hi:i<4):cD 0 (s.ws.take (i+1))=cD 0 (s.ws.take i)++(jx (s.ws.getD i 0)).map (fun b=>i * 64+b):=by
 have e:i=0∨i=1∨i=2∨i=3:=by omega
 rcases e with rfl|rfl|rfl|rfl<;>simp[Bts.ws,cD]
theorem B6{x:Nat}(hx:x<18446744073709551616)(h0:x≠0):IntKind.u64.wrap ((BitVec.ofInt IntKind.u64.bits (x:Int) &&& BitVec.ofInt IntKind.u64.bits ((x:Int) - 1)).toNat:Int)=((x &&& (x - 1):Nat):Int):=by
 have h1:(BitVec.ofInt 64 (x:Int)).toNat=x:=by
  rw[PY,PC];exact Py (by omega)
 have h2:(BitVec.ofInt 64 ((x:Int) - 1)).toNat=x - 1:=by
  rw[show(x:Int) - 1=((x - 1:Nat):Int) by omega,PY,PC];exact Py (by omega)
 show IntKind.u64.wrap ((BitVec.ofInt 64 (x:Int) &&& BitVec.ofInt 64 ((x:Int) - 1)).toNat:Int)=_
 rw[Ri,h1,h2];exact Sl.u64_in (Nat.lt_of_le_of_lt Nat.and_le_left hx)
abbrev nB(r:Nat×Nat):List F:=[byF (r.1:Int),byF (r.2:Int)]
instance(s:Bts):C 198 [.ag (btF s)] (.sl ((gG s).map nB)) true s.wf:=⟨fun hs=>by
 refine kf rfl rfl ?_;repeat' first|exact k9|refine k2 ?_|apply kA|apply kI;intro hc|refine k8 ?_|apply kL;intro hl
 apply Stp.Ip 2 223 225 2 rfl rfl;apply kCt [0,5,6] [3];conv=>whnf
 refine Lp.ind (fun z:Nat=>4 - z) (fun z=>z≤4) (fun z=>[(6,InD z)]) (fun z=>[(3,.ro 0 225 2 (((cD 0 (s.ws.take z)).foldl cV []).map nB))]) (fun _=>_) 0 (by omega) rfl rfl rfl ?_
 rintro G i ih hi
 by_cases hx:i<4
 ·have hv:(D.ag [D.fr (.vl (.int .u64 s.a)),D.fr (.vl (.int .u64 s.b)),D.fr (.vl (.int .u64 s.c)),D.fr (.vl (.int .u64 s.d))]).cells[i * 1]?=some (D.fr (.vl (.int .u64 ((s.ws.getD i 0:Nat):Int)))):=wsD hs hx;have hx64:=Kh hs hx;have hT:(cD 0 (s.ws.take (i+1))).foldl cV []=((jx (s.ws.getD i 0)).map (fun b=>i * 64+b)).foldl cV ((cD 0 (s.ws.take i)).foldl cV []):=by
   rw[←List.foldl_append,Ax hx]
  have hok:rq ((cD 0 (s.ws.take i)).foldl cV []):=(mS _ [] (fun r hr=>by cases hr) fun b hb=>qS (s:=s) (by rw[lY,oC s.ws 0 i];simp[hb])).1;generalize s.ws.getD i 0=x0 at *;generalize hR0:(cD 0 (s.ws.take i)).foldl cV []=R0 at *
  repeat' first|exact k9|refine k2 ?_|apply kA|apply kI;intro hc|refine k8 ?_|apply kL;intro hl
  apply kCt [0,3,4,5,6] [3];conv=>whnf
  have hR0l:R0.length+(jx x0).length≤64 * (i+1):=by
   have h1:=(mS (cD 0 (s.ws.take i)) [] (fun r hr=>by cases hr) fun b hb=>qS (s:=s) (by rw[lY,oC s.ws 0 i];simp[hb])).2;have h2:=nU (s.ws.take i) 0;have h3:=vX x0;rw[hR0] at h1;rw[Ou] at h2;simp only[Ol] at h1;omega
  refine Lp.ind (fun z:Nat×List (Nat×Nat)=>z.1) (fun z=>z.1<18446744073709551616∧rq z.2∧z.2.length+(jx z.1).length≤64 * (i+1)∧((jx z.1).map (fun b=>i * 64+b)).foldl cV z.2=(cD 0 (s.ws.take (i+1))).foldl cV []) (fun z=>[(4,.fr (.vl (.int .u64 (z.1:Int))))]) (fun z=>[(3,.ro 0 225 2 (z.2.map nB))]) (fun _=>_) (x0,R0) ⟨hx64,hok,hR0l,hT.symm⟩ rfl rfl rfl ?_
  rintro G' ⟨x,R⟩ ih' ⟨hxx,hRk,hRl,hRT⟩
  dsimp only at hxx hRk hRl hRT ih' ⊢
  by_cases h0:x=0
  ·subst h0;rw[AX,P0,List.foldl_nil] at hRT;subst hRT
   repeat' first|exact k9|refine k2 ?_|apply kA|apply kI;intro hc|refine k8 ?_|apply kL;intro hl
   apply kCt [0,5,6] [3];conv=>whnf
   exact ih (i+1) _ _ _ (by omega) (by omega) rfl rfl rfl
  ·obtain⟨hb1,hb2⟩:=Be h0 hxx;have hlt:=As h0;rw[hb1,OB,PJ] at hRT;rw[hb1,Og] at hRl;have hb0:(i:Int) * 64+((Lib.ctz 64 x:Nat):Int)=((i * 64+Lib.ctz 64 x:Nat):Int):=by omega
   have hb3:i * 64+Lib.ctz 64 x<256:=by omega
   have hnx:IntKind.u64.wrap ((BitVec.ofInt IntKind.u64.bits (x:Int) &&& BitVec.ofInt IntKind.u64.bits ((x:Int) - 1)).toNat:Int)=((x &&& (x - 1):Nat):Int):=B6 hxx h0;have hRT':∀R',R'=cV R (i * 64+Lib.ctz 64 x)→rq R'∧R'.length≤R.length+1∧((jx (x &&& (x - 1))).map (fun b=>i * 64+b)).foldl cV R'=(cD 0 (s.ws.take (i+1))).foldl cV []:=fun R' e=>by
    subst e;exact⟨wF hRk hb3,nQ _ _,hRT⟩
   have hx0:(x:Int)≠0:=by omega
   rcases bx R with rfl|⟨R,r,rfl⟩
   ·repeat' first|exact k9|refine k2 ?_|apply kA|apply kI;intro hc|refine k8 ?_|apply kL;intro hl
    apply kCt [0,3,4,5,6] [3];conv=>whnf
    obtain⟨c1,c2,c3⟩:=hRT' [(i * 64+Lib.ctz 64 x,i * 64+Lib.ctz 64 x)] rfl;refine ih' (x &&& (x - 1),[(i * 64+Lib.ctz 64 x,i * 64+Lib.ctz 64 x)]) _ _ _ hlt ⟨by dsimp only;omega,c1,by simp only[Og,Ol] at hRl ⊢;omega,c3⟩ rfl ?_ ?_
    ·dsimp only;rw[←hnx];rfl
    ·dsimp only;rw[OK,nB,←hb0];rfl
   ·have hlast:∀h,(R++[r])[((List.map nB (R++[r])).length - 1:Int).toNat]'h=r:=by
     intro h;simp[P3]
    have hr2:=(hRk r (by simp))
    simp only[Oh,Og,Ol] at hRl;have hwr:IntKind.i64.wrap (r.2:Int)=(r.2:Int):=wrap_i64 ⟨by omega,by omega⟩
    repeat' first|exact k9|refine k2 ?_|apply kA|apply kI;intro hc|apply kL;intro hl|((rw[hlast];rw[hwr])<;>conv=>whnf)|refine k8 ?_|fail
    ·skip
     have hcn:r.2+1=i * 64+Lib.ctz 64 x:=by omega
     apply kCt [0,3,4,5,6] [3];conv=>whnf
     obtain⟨c1,c2,c3⟩:=hRT' (R++[(r.1,i * 64+Lib.ctz 64 x)]) (by rw[dT,if_pos hcn]);refine ih' (x &&& (x - 1),R++[(r.1,i * 64+Lib.ctz 64 x)]) _ _ _ hlt ⟨by dsimp only;omega,c1,by simp only[Oh,Og,Ol] at hRl ⊢;omega,c3⟩ rfl ?_ ?_
     ·dsimp only;rw[←hnx];rfl
     ·have hrow:∀h,(List.map nB (R++[r])).set (((List.map nB (R++[r])).length:Int) - 1).toNat (setAt (nB ((R++[r])[(((List.map nB (R++[r])).length:Int) - 1).toNat]'h)) 1 [F.vl (.int .u8 ((i:Int) * 64+((Lib.ctz 64 x:Nat):Int)))])=List.map nB (R++[(r.1,i * 64+Lib.ctz 64 x)]):=by
       intro h;rw[hlast h];have e:(((List.map nB (R++[r])).length:Int) - 1).toNat=(List.map nB R).length:=by simp
       rw[e,List.map_append,OK,PF _ _ (Ov _),Pt,List.map_append,OK,hb0];rfl
      exact congrArg (fun z=>jX [(3,B.ro 0 225 2 z)] G'.h) (hrow _)
    ·skip
     have hcn:¬r.2+1=i * 64+Lib.ctz 64 x:=by omega
     apply kCt [0,3,4,5,6] [3];conv=>whnf
     obtain⟨c1,c2,c3⟩:=hRT' (R++[r]++[(i * 64+Lib.ctz 64 x,i * 64+Lib.ctz 64 x)]) (by rw[dT,if_neg hcn]);refine ih' (x &&& (x - 1),R++[r]++[(i * 64+Lib.ctz 64 x,i * 64+Lib.ctz 64 x)]) _ _ _ hlt ⟨by dsimp only;omega,c1,by simp only[Oh,Og,Ol] at hRl ⊢;omega,c3⟩ rfl ?_ ?_
     ·dsimp only;rw[←hnx];rfl
     ·have hrow:List.map nB (R++[r])++[[F.vl (.int .u8 ((i:Int) * 64+((Lib.ctz 64 x:Nat):Int))),F.vl (.int .u8 ((i:Int) * 64+((Lib.ctz 64 x:Nat):Int)))]]=List.map nB (R++[r]++[(i * 64+Lib.ctz 64 x,i * 64+Lib.ctz 64 x)]):=by
       rw[List.map_append (l₁:=R++[r]),OK,hb0]
      exact congrArg (fun z=>jX [(3,B.ro 0 225 2 z)] G'.h) hrow
 ·obtain rfl:i=4:=by omega
  repeat' first|exact k9|refine k2 ?_|apply kA|apply kI;intro hc|refine k8 ?_|apply kL;intro hl
  refine aa.j rfl ?_;simp only[cY,qw,lk,Nat.beq,cond_true];simp[F.flat,F.flat.lK]⟩
theorem LX{s t:Bts}(h:[s.a,s.b,s.c,s.d]=[t.a,t.b,t.c,t.d]):s=t:=by
 obtain⟨a,b,c,d⟩:=s;obtain⟨a',b',c',d'⟩:=t;simp only[Qd] at h;obtain⟨rfl,rfl,rfl,rfl,_⟩:=h;rfl
instance(l:List UInt8)(n:Nat)(left:ByteArray):HB X1.Γ 196 l [byF (n:Int),stF left] (.tp []) (l++bP left n.toUInt8) (n<256∧l.length≤900000000):=⟨fun h=>by
 have:=Gp l n.toUInt8 left h.2
 rwa [show n.toUInt8.toNat=n from Py h.1] at this⟩
theorem nT{l:List (Nat×Nat)}{i:Nat}(h:i<l.length):bS (l.take (i+1))=bS (l.take i)++om (l[i]):=by
 rw[List.take_succ_eq_append_getElem h,BD]
instance(s:Bts):C 191 [.ag (btF s)] (stF ⟨(ft s).toArray⟩) true s.wf:=⟨fun hs=>by
 have hrk:=sI s;refine kf rfl rfl ?_;repeat' first|exact k9|refine k2 ?_|apply kA|apply kI;intro hc|refine k8 ?_|apply kL;intro hl
 ·skip
  have e:ft s=[46]:=by rw[ft,if_pos (LX hc)]
  rw[e];exact aa.s rfl rfl
 ·skip
  have e:ft s=[91]++bS (gG s)++[93]:=by rw[ft,if_neg fun h=>hc (by rw[h])]
  rw[e];generalize gG s=l at *;apply kCt [3,11,12,13] [];conv=>whnf
  refine Lp.ind (fun z:Nat=>l.length - z) (fun z=>z≤l.length) (fun z=>[(13,InD z)]) (fun z=>[(1,.ro 0 5 1 (([91]++bS (l.take z)).map byR))]) (fun _=>_) 0 (by omega) rfl rfl rfl ?_
  rintro G i ih hi
  have hsl2:=kJ (l.take i);rw[Ou] at hsl2
  by_cases hx:i<l.length
  ·have hpre:([91]++bS (l.take i)).length≤900000000:=by simp only[Oh,Og,Ol];omega
   have hr:=hrk.1 l[i] (Of hx);have hm1:=fF cq l[i].1.toUInt8;have hm2:=fF cq l[i].2.toUInt8;rw[cq] at hm1 hm2;have hlx:∀m:List UInt8,m.length≤13→([91]++bS (l.take i)++m).length≤900000000:=fun m hm=>by rw[Oh,Oh];simp only[Og,Ol];omega
   have hl1:=hlx (bP ⟨#[93,45,94]⟩ l[i].1.toUInt8) (by omega);have hl2:=hlx (bP ⟨#[93,45,94]⟩ l[i].1.toUInt8++[45]) (by simp only[Oh,Og,Ol];omega);rw[←List.append_assoc] at hl2;have hl3:([91]++bS (l.take i)++bP ⟨#[93,45,94]⟩ l[i].1.toUInt8++[UInt8.ofNat (Int.toNat 45)]).length≤900000000:=hl2;have hrun:=nT hx;have hfin:∀m,m=om l[i]→[91]++bS (l.take i)++m=[91]++bS (l.take (i+1)):=fun m e=>by rw[hrun,e,List.append_assoc]
   repeat' first|exact k9|refine k2 ?_|apply kA|apply kI;intro hc|refine k8 ?_|apply kL;intro hl
   ·apply kCt [3,11,12,13] [];conv=>whnf
    refine ih (i+1) _ _ _ (by omega) (by omega) rfl rfl ?_;rw[←hfin (bP ⟨#[93,45,94]⟩ l[i].1.toUInt8++[45]++bP ⟨#[93,45,94]⟩ l[i].2.toUInt8) (by rw[om,if_pos (by omega),if_pos (by omega)];rfl),←List.append_assoc,←List.append_assoc];rfl
   ·apply kCt [3,11,12,13] [];conv=>whnf
    refine ih (i+1) _ _ _ (by omega) (by omega) rfl rfl ?_;rw[←hfin (bP ⟨#[93,45,94]⟩ l[i].1.toUInt8) (by rw[om,if_neg (by omega),if_neg (by omega),Oj,Oj];rfl)];rfl
   ·apply kCt [3,11,12,13] [];conv=>whnf
    refine ih (i+1) _ _ _ (by omega) (by omega) rfl rfl ?_;rw[←hfin (bP ⟨#[93,45,94]⟩ l[i].1.toUInt8++bP ⟨#[93,45,94]⟩ l[i].2.toUInt8) (by rw[om,if_neg (by omega),if_pos (by omega),Oj];rfl),←List.append_assoc];rfl
  ·have hpre2:([91]++bS (l.take i)).length≤1000000000:=by simp only[Oh,Og,Ol];omega
   have e:[91]++bS l++[93]=[91]++bS (l.take i)++[93]:=by rw[Om (by omega)]
   have hpre3:([91]++bS (l.take i)++[93]).length≤1000000000:=by simp only[Oh,Og,Ol];omega
   rw[e];generalize bS (l.take i)=m at *
   repeat' first|exact k9|refine k2 ?_|apply kA|apply kI;intro hc|apply kL;intro hl|(((apply SdA.m;exact⟨⟨by simp,hpre3⟩⟩))<;>conv=>whnf)|refine k8 ?_|fail
   exact aa.s rfl rfl⟩
end Go.Km
end
section
namespace Go.ab
open Go
def dR(n:Nat):List UInt8:=if n<10 then [UInt8.ofNat (48+n)] else [UInt8.ofNat (48+n / 10),UInt8.ofNat (48+n % 10)]
theorem iZ(n:Nat):(dR n).length≤2:=by unfold dR;split<;>simp
def lx(a b:Int):List UInt8:=
 if ¬(0≤a∧a≤99∧(b=-1∨a≤b∧b≤99)) then []
 else if a=0∧b=1 then [63] else if a=0∧b=-1 then [42] else if a=1∧b=-1 then [43]
 else if a=b then [123]++dR a.toNat++[125] else if b=-1 then [123]++dR a.toNat++[44,125] else [123]++dR a.toNat++[44]++dR b.toNat++[125]
def aQ(n:Nod):List UInt8:=
 if n.kind=0∨n.kind=2 then yM n.text else if n.kind=1 then ft n.set else if n.kind=3 then n.text.data.toList
 else if n.kind=9 then [60]++n.text.data.toList++[58,32] else if n.kind=7 then [38] else if n.kind=8 then [33] else []
def bJ(k:Int):List UInt8:=if k=4 then [32] else if k=5 then [32,47,32] else []
def a9(n:Nod):List UInt8:=if n.kind=6 then lx n.min n.max else if n.kind=9 then [62] else []
def bW(node kid:Int):Bool:=
 if node=5 then decide (kid=5) else if node=4∨node=7∨node=8 then decide (kid=4∨kid=5)
 else if node=6 then decide (kid=4∨kid=5∨kid=6∨kid=7∨kid=8) else false
end Go.ab
namespace Go.Km
open Go Go.Vc Go.Proofs Go.ab Go.Proofs.YthebhpcjcihjgaaGreatDoor
set_option maxRecDepth 100000
set_option maxHeartbeats 0
theorem cC(a b:ByteArray):szS (ff a b)=szS a+szS b:=by simp[szS,ff]
theorem bA(l:List UInt8):szS ⟨l.toArray⟩=l.length:=by simp[szS]
theorem bp(l m:List UInt8):ff ⟨l.toArray⟩ ⟨m.toArray⟩=⟨(l++m).toArray⟩:=by simp[ff]
theorem Hh(l:List UInt8)(b:ByteArray):ff ⟨l.toArray⟩ b=⟨(l++b.data.toList).toArray⟩:=by simp[ff]
theorem Fu(C:ByteArray)(hC:∀m<10,gv C m (m+1)=⟨(dR m).toArray⟩){n:Int}(h0:0≤n)(h1:n<10):gv C n.toNat (n+1).toNat=⟨(dR n.toNat).toArray⟩:=by
 rw[show(n+1).toNat=n.toNat+1 by omega];exact hC _ (by omega)
theorem Gb(C:ByteArray)(hC:∀m<100,10≤m→gv C (m * 2) (m * 2+2)=⟨(dR m).toArray⟩){n:Int}(h0:10≤n)(h1:n≤99):gv C (n * 2).toNat (n * 2+2).toNat=⟨(dR n.toNat).toArray⟩:=by
 rw[show(n * 2).toNat=n.toNat * 2 by omega,show(n * 2+2).toNat=n.toNat * 2+2 by omega];exact hC _ (by omega) (by omega)
instance(n:Int):C 212 [inF n] (stF ⟨(dR n.toNat).toArray⟩) true (0≤n∧n≤99):=⟨fun h=>by
 refine kf rfl rfl ?_;repeat' first|exact k9|refine k2 ?_|apply kA|apply kI;intro hc|refine k8 ?_|apply kL;intro hl
 ·exact⟨OA (show _≤36 by omega) (by decide)⟩
 ·exact aa.s (Fu _ (by decide +kernel) h.1 (by assumption)) rfl
 ·exact⟨OA (show _≤200 by omega) (by decide +kernel)⟩
 ·exact aa.s (Gb _ (by decide +kernel) (by assumption) h.2) rfl
⟩
instance(n:Int):C 211 [inF n,inF 10] (stF ⟨(dR n.toNat).toArray⟩) true (0≤n∧n≤99):=⟨fun h=>by
 refine kf rfl rfl ?_;repeat' (first|exact k9|refine k2 ?_|apply kA|apply kI;intro hc|refine k8 ?_|apply kL;intro hl)⟩
instance(n:Int):C 209 [inF n] (stF ⟨(dR n.toNat).toArray⟩) true (0≤n∧n≤99):=⟨fun h=>by
 refine kf rfl rfl ?_;repeat' (first|exact k9|refine k2 ?_|apply kA|apply kI;intro hc|refine k8 ?_|apply kL;intro hl)⟩
instance(n:Int):C 205 [inF n] (stF ⟨(dR n.toNat).toArray⟩) true (0≤n∧n≤99):=⟨fun h=>by
 refine kf rfl rfl ?_;repeat' (first|exact k9|refine k2 ?_|apply kA|apply kI;intro hc|refine k8 ?_|apply kL;intro hl)⟩
instance(n:Int):C 199 [inF n] (stF ⟨(dR n.toNat).toArray⟩) true (0≤n∧n≤99):=⟨fun h=>by
 refine kf rfl rfl ?_;repeat' first|exact k9|refine k2 ?_|apply kA|apply kI;intro hc|refine k8 ?_|apply kL;intro hl
⟩
abbrev Gj(a b:Int):Nod:=⟨6,⟨0,0,0,0⟩,⟨#[]⟩,a,b,[]⟩
theorem yh(a b:Int):fits (Gj a b) 1=decide (0≤a∧a≤99∧(b=-1∨a≤b∧b≤99)):=by
 show(decide _&&decide _&&decide _&&decide _&&decide _&&(decide _||decide _&&decide _))=_
 by_cases h1:0≤a<;>by_cases h2:a≤99<;>by_cases h3:b=-1<;>by_cases h4:a≤b<;>by_cases h5:b≤99<;>simp[Bts.zero, *]
instance(a b:Int):C 192 [inF a,inF b] (stF ⟨(lx a b).toArray⟩) true (Gj a b).wf:=⟨fun h=>by
 refine kf rfl rfl ?_;repeat' first|exact k9|refine k2 ?_|apply kA|apply kI;intro hc|refine k8 ?_|apply kL;intro hl
 ·rw[yh,decide_eq_true_eq] at hc;have hab:lx a b=if a=0∧b=1 then [63] else if a=0∧b=-1 then [42] else if a=1∧b=-1 then [43] else if a=b then [123]++dR a.toNat++[125] else if b=-1 then [123]++dR a.toNat++[44,125] else [123]++dR a.toNat++[44]++dR b.toNat++[125]:=by rw[lx,if_neg (fun g=>g hc)]
  have ha:(dR a.toNat).length≤2:=iZ _;have hb:(dR b.toNat).length≤2:=iZ _;apply Stp.on
  repeat' first|exact k9|refine k2 ?_|apply kA|apply kI;intro hc|refine k8 ?_|apply kL;intro hl
  all_goals try apply Stp.on
  all_goals repeat' first|exact k9|refine k2 ?_|apply kA|apply kI;intro hc|refine k8 ?_|apply kL;intro hl
  all_goals try apply Stp.on
  all_goals repeat' first|exact k9|refine k2 ?_|apply kA|apply kI;intro hc|refine k8 ?_|apply kL;intro hl
  all_goals try apply Stp.on
  all_goals repeat' first|exact k9|refine k2 ?_|apply kA|apply kI;intro hc|refine k8 ?_|apply kL;intro hl
  all_goals first
   | exact⟨by simp only[cC,bA,Og,Ol];omega⟩
   | (
     refine aa.s ?_ rfl
     try simp only[bp]
     rw[hab]
     repeat' first
      | rw[if_pos (by omega)]
      | rw[if_neg (by omega)])
 ·rw[yh,decide_eq_false_iff_not] at hc;refine aa.s ?_ rfl;rw[lx,if_pos hc]⟩
instance(a b:Int):C 178 [byF a,byF b] (boF (bW a b)) true True:=⟨fun h=>by
 refine kf rfl rfl ?_;repeat' first|exact k9|refine k2 ?_|apply kA|apply kI;intro hc|refine k8 ?_|apply kL;intro hl
 all_goals (refine aa.b ?_ rfl;simp[bW,dG, *])⟩
instance(n:Nod):C 177 [.ag (aT n)] (stF ⟨(aQ n).toArray⟩) true ((0≤n.kind∧n.kind≤9)∧n.set.wf∧n.text.size≤1000000):=⟨fun h=>by
 obtain⟨h1,h2,h3⟩:=h;obtain⟨kind,set,text,lo,hi,kids⟩:=n;dsimp only at h1 h2 h3;have hk:kind=0∨kind=1∨kind=2∨kind=3∨kind=4∨kind=5∨kind=6∨kind=7∨kind=8∨kind=9:=by omega
 rcases hk with rfl|rfl|rfl|rfl|rfl|rfl|rfl|rfl|rfl|rfl
 all_goals refine kf rfl rfl ?_;repeat' first|exact k9|refine k2 ?_|apply kA|apply kI;intro hc|refine k8 ?_|apply kL;intro hl
 all_goals try exact aa.s rfl rfl
 all_goals exact⟨by have hsz:szS text≤1000000:=h3;simp only[cC,bA,Og,Ol];omega⟩⟩
instance(n:Nod):C 179 [.ag (aT n)] (stF ⟨(a9 n).toArray⟩) true ((0≤n.kind∧n.kind≤9)∧n.wf):=⟨fun h=>by
 obtain⟨h1,h2⟩:=h;have hr:(Gj n.min n.max).wf:=⟨⟨by show(0:Int)≤6;omega,by show(6:Int)≤255;omega⟩,by simp[Bts.wf],by show(0:Nat)≤_;omega,h2.min,h2.max,⟨by simp,by simp⟩⟩
 clear h2;obtain⟨kind,set,text,lo,hi,kids⟩:=n;dsimp only at h1 hr;have hk:kind=0∨kind=1∨kind=2∨kind=3∨kind=4∨kind=5∨kind=6∨kind=7∨kind=8∨kind=9:=by omega
 rcases hk with rfl|rfl|rfl|rfl|rfl|rfl|rfl|rfl|rfl|rfl
 all_goals refine kf rfl rfl ?_;repeat' first|exact k9|refine k2 ?_|apply kA|apply kI;intro hc|refine k8 ?_|apply kL;intro hl
 all_goals exact aa.s rfl rfl⟩
end Go.Km
end
section
namespace Go.ab
open Go
theorem jj{n:Nod}{c:Int}(h:fits n c=true):(0≤n.kind∧n.kind≤9)∧n.text.size≤255:=by
 have e0:n.text=⟨#[]⟩→n.text.size≤255:=fun e=>by rw[e];decide
 have em:gj n.text=true→n.text.size≤255:=fun e=>by
  simp only[gj,Oi,decide_eq_true_eq] at e;omega
 unfold fits at h
 repeat' split at h
 all_goals try (cases h;done)
 all_goals simp only[Oi,decide_eq_true_eq,Pc] at h
 all_goals refine⟨by omega,?_⟩
 all_goals first
  | exact e0 h.1
  | exact e0 h.1.2
  | exact e0 h.1.1.2
  | exact e0 h.1.1.1
  | exact e0 h.1.1.1.2
  | exact e0 h.1.1.1.1.2
  | exact e0 h.1.1.1.1.1.2
  | exact em h.2
  | omega
def Fo.txt:Int→Bool→Fo→List UInt8
 | _,_,.nil=>[]
 | par,fst,.cons n k r=>(if fst then [] else bJ par)++((if bW par n.kind then [40] else [])++(aQ n++(k.txt n.kind true++(a9 n++((if bW par n.kind then [41] else [])++r.txt par false)))))
def eR(t:Tre):List UInt8:=if ao t=true then (foT t).txt (-1) true else []
theorem oR(k:Int):(bJ k).length≤3:=by
 unfold bJ
 repeat' split
 all_goals simp
theorem uw(a b:Int):(lx a b).length≤7:=by
 have h1:=iZ a.toNat;have h2:=iZ b.toNat;unfold lx
 repeat' split
 all_goals try simp only[Oh,Og,Ol]
 all_goals omega
theorem mo(n:Nod):(a9 n).length≤7:=by
 have h1:=uw n.min n.max;unfold a9
 repeat' split
 all_goals try simp only[Og,Ol]
 all_goals omega
theorem F0(s:ByteArray):(yM s).length≤4 * s.size+2:=by
 have h:=kT ⟨#[34]⟩ s.data.toList;have e:s.data.toList.length=s.size:=by rw[Array.length_toList];rfl
 rw[e] at h;simp only[yM,Oh,Og,Ol];omega
theorem sU{n:Nod}(h:n.text.size≤255):(aQ n).length≤3000:=by
 have h1:=F0 n.text;have h2:=AM n.set;have h3:n.text.data.toList.length=n.text.size:=by rw[Array.length_toList];rfl
 unfold aQ
 repeat' split
 all_goals try simp only[Oh,Og,Ol]
 all_goals omega
theorem pH:∀(F:Fo) (par:Int) (fst:Bool),F.fit=true→(F.txt par fst).length≤3020 * F.size
 | .nil,_,_,_=>by simp[Fo.txt]
 | .cons n k r,par,fst,h=>by
  simp only[Fo.fit,Oi] at h;have h1:=pH k n.kind true h.1.2;have h2:=pH r par false h.2;have h3:=sU (jj h.1.1).2;have h4:=mo n;have h5:=oR par;simp only[Fo.txt,Oh,Fo.size];have h6:(if fst=true then [] else bJ par).length≤3:=by
   split
   ·simp
   ·exact h5
  have h7:(if bW par n.kind=true then ([40]:List UInt8) else []).length≤1:=by split<;>simp
  have h8:(if bW par n.kind=true then ([41]:List UInt8) else []).length≤1:=by split<;>simp
  omega
theorem Nc{s:ByteArray}(h:¬s=⟨#[]⟩):s.data.toList≠[]:=fun e=>h (by
 apply Qb;apply QC;exact e)
theorem EZ(s:Bts):ft s≠[]:=by
 unfold ft
 split<;>simp
theorem By:∀(F:Fo) (par:Int) (fst:Bool),F.fit=true→F≠.nil→F.txt par fst≠[]
 | .nil,_,_,_,h=>(h rfl).elim
 | .cons n k r,par,fst,h,_=>by
  simp only[Fo.fit,Oi] at h;obtain⟨⟨h1,h2⟩,_⟩:=h;have hk:=(jj h1).1;have key:aQ n≠[]∨k.txt n.kind true≠[]:=by
   by_cases h02:n.kind=0∨n.kind=2
   ·exact .inl (by rw[aQ,if_pos h02];simp[yM])
   by_cases h01:n.kind=1
   ·exact .inl (by rw[aQ,if_neg h02,if_pos h01];exact EZ _)
   by_cases h03:n.kind=3
   ·refine .inl ?_;rw[aQ,if_neg h02,if_neg h01,if_pos h03];have e:gj n.text=true:=by
     unfold fits at h1;rw[if_neg (by omega),if_neg h01,if_neg (by omega),if_pos h03,Oi] at h1;exact h1.2
    refine Nc fun e0=>?_;rw[e0] at e
    revert e
    decide
   ·refine .inr (By k _ _ h2 fun e0=>?_);subst e0;unfold fits at h1;rw[if_neg (by omega),if_neg h01,if_neg (by omega),if_neg h03] at h1;simp[Fo.len] at h1
  intro e;simp only[Fo.txt,List.append_eq_nil_iff] at e;rcases key with h|h
  ·exact h e.2.2.1
  ·exact h e.2.2.2.1
abbrev Opn:=Int×Nat×Bool
abbrev ju(ns:List Nod)(k:Int):Nod:=ns.getD k.toNat .zero
def xE(ns:List Nod)(o:Opn):List UInt8:=if o.2.1=0 then (if o.2.2 then [40] else [])++aQ (ju ns o.1) else []
def dD(ns:List Nod)(o:Opn):List UInt8:=
 xE ns o++((aF ns ns.length ((ah ns o.1).drop o.2.1)).txt (ju ns o.1).kind (o.2.1==0)++(a9 (ju ns o.1)++(if o.2.2 then [41] else [])))
def oU(ns:List Nod)(l:List Opn):List UInt8:=l.reverse.flatMap (dD ns)
theorem ou(ns:List Nod)(l:List Opn)(o:Opn):oU ns (l++[o])=dD ns o++oU ns l:=by simp[oU]
theorem vY{ns:List Nod}{o:Opn}(h:o.2.1=(ah ns o.1).length):dD ns o=xE ns o++(a9 (ju ns o.1)++(if o.2.2 then [41] else [])):=by
 rw[dD,h,Qi,aA];rfl
theorem sQ{ns:List Nod}(hk:KOk ns){o:Opn}(h0:0≤o.1)(h1:o.1<ns.length)(h:o.2.1<(ah ns o.1).length)(c:Int)(hc:(ah ns o.1)[o.2.1]=c) :
  dD ns o=xE ns o++((if o.2.1=0 then [] else bJ (ju ns o.1).kind)++(dD ns (c,0,bW (ju ns o.1).kind (ju ns c).kind)++dD ns (o.1,o.2.1+1,o.2.2))):=by
 have hch:=hk.ah;have hcm:=hch o.1 c (by rw[←hc];exact Of h);have e1:(ah ns o.1).drop o.2.1=c :: (ah ns o.1).drop (o.2.1+1):=by rw[Oz h,hc]
 obtain⟨N,hN⟩:∃N,ns.length=N+1:=⟨ns.length - 1,by omega⟩
 have e2:aF ns N (ah ns c)=aF ns (N+1) (ah ns c):=cN hch N (N+1) _ (fun x hx=>⟨(hch c x hx).1,by have:=(hch c x hx).2;omega⟩) (fun x hx=>by have:=(hch c x hx).2;omega);have e3:∀x:List Opn,x=[]→(o.2.1+1==0)=false:=fun _ _=>by simp
 have e3:=e3 [] rfl;simp only[dD,e1,hN,aH,Fo.txt,e2,Pb,xE,e3];have d1:(dat ns c).kind=(ju ns c).kind:=rfl;have d2:aQ (dat ns c)=aQ (ju ns c):=rfl;have d3:a9 (dat ns c)=a9 (ju ns c):=rfl;rw[d1,d2,d3]
 by_cases hz:o.2.1=0
 ·simp[hz]
 ·simp[hz]
def iK(ns:List Nod)(o:Opn):Nat:=2 * (aF ns ns.length ((ah ns o.1).drop o.2.1)).size+1
def iP(ns:List Nod)(l:List Opn):Nat:=(l.map (iK ns)).sum
theorem jh(ns:List Nod)(l:List Opn)(o:Opn):iP ns (l++[o])=iK ns o+iP ns l:=by simp[iP];omega
theorem BH{ns:List Nod}(hk:KOk ns){o:Opn}(h0:0≤o.1)(h1:o.1<ns.length)(h:o.2.1<(ah ns o.1).length)(c:Int)(hc:(ah ns o.1)[o.2.1]=c)(b:Bool) :
  iK ns (c,0,b)+iK ns (o.1,o.2.1+1,o.2.2)<iK ns o:=by
 have hch:=hk.ah;have hcm:=hch o.1 c (by rw[←hc];exact Of h);have e1:(ah ns o.1).drop o.2.1=c :: (ah ns o.1).drop (o.2.1+1):=by rw[Oz h,hc]
 obtain⟨N,hN⟩:∃N,ns.length=N+1:=⟨ns.length - 1,by omega⟩
 have e2:aF ns N (ah ns c)=aF ns (N+1) (ah ns c):=cN hch N (N+1) _ (fun x hx=>⟨(hch c x hx).1,by have:=(hch c x hx).2;omega⟩) (fun x hx=>by have:=(hch c x hx).2;omega);simp only[iK,e1,hN,aH,Fo.size,e2,Pb];omega
theorem ic{ns:List Nod}{k:Int}(h:k.toNat<ns.length):ju ns k=ns[k.toNat]:=by
 rw[ju,List.getD_eq_getElem?_getD,Oe h];rfl
theorem m9{ns:List Nod}{k:Int}(h0:0≤k)(h:k.toNat<ns.length):ah ns k=(ns[k.toNat]).kids:=by
 have:=aM (Oe h);rw[Rs h0] at this;exact this.symm
section
variable {ns:List Nod} (hk:KOk ns) {k:Int} (h0:0≤k) (h1:k.toNat<ns.length) {b:Bool} {j:Nat}
include hk h0 h1
theorem th(hj:0<(ns[k.toNat]).kids.length){c:Int}(hc:(ns[k.toNat]).kids[0]=c)(hcl:c.toNat<ns.length) :
  dD ns (k,0,b)=(if b then [40] else [])++(aQ (ns[k.toNat])++(dD ns (c,0,bW (ns[k.toNat]).kind (ns[c.toNat]).kind)++dD ns (k,1,b))):=by
 have e:=m9 h0 h1;rw[sQ hk (o:=(k,0,b)) h0 (by dsimp only;omega) (by dsimp only;rw[e];exact hj) c (by simp only[e];exact hc)];simp only[xE,if_true,OH,ic h1,ic hcl,List.append_assoc,OS]
theorem Bl(h:0<j)(hj:j<(ns[k.toNat]).kids.length){c:Int}(hc:(ns[k.toNat]).kids[j]=c)(hcl:c.toNat<ns.length) :
  dD ns (k,j,b)=bJ (ns[k.toNat]).kind++(dD ns (c,0,bW (ns[k.toNat]).kind (ns[c.toNat]).kind)++dD ns (k,j+1,b)):=by
 have e:=m9 h0 h1;have hne:¬j=0:=by omega
 rw[sQ hk (o:=(k,j,b)) h0 (by dsimp only;omega) (by dsimp only;rw[e];exact hj) c (by simp only[e];exact hc)];simp only[xE,if_neg hne,OH,ic h1,ic hcl]
omit hk in
theorem vQ(hj:(ns[k.toNat]).kids.length=0):dD ns (k,0,b)=(if b then [40] else [])++(aQ (ns[k.toNat])++(a9 (ns[k.toNat])++(if b then [41] else []))):=by
 have e:=m9 h0 h1;rw[vY (by simp only[e,hj])];simp only[xE,if_true,ic h1,List.append_assoc]
omit hk in
theorem Ea(h:0<j)(hj:(ns[k.toNat]).kids.length=j):dD ns (k,j,b)=a9 (ns[k.toNat])++(if b then [41] else []):=by
 have e:=m9 h0 h1;have hne:¬j=0:=by omega
 rw[vY (by simp only[e,hj])];simp only[xE,if_neg hne,ic h1,OH]
theorem wO(hj:j<(ns[k.toNat]).kids.length){c:Int}(hc:(ns[k.toNat]).kids[j]=c)(w:Bool):iK ns (c,0,w)+iK ns (k,j+1,b)<iK ns (k,j,b):=by
 have e:=m9 h0 h1;exact BH hk (o:=(k,j,b)) h0 (by dsimp only;omega) (by dsimp only;rw[e];exact hj) c (by simp only[e];exact hc) w
end
theorem yj(ns:List Nod)(o:Opn):0<iK ns o:=by unfold iK;omega
theorem Er{t:Tre}(h:ax t):(foT t).txt (-1) true=dD t.nodes (t.root,0,false):=by
 obtain⟨h0,h1⟩:=h.root;have hch:=h.kok.ah;obtain⟨N,hN⟩:∃N,t.nodes.length=N+1:=⟨t.nodes.length - 1,by omega⟩
 have e2:aF t.nodes N (ah t.nodes t.root)=aF t.nodes (N+1) (ah t.nodes t.root):=cN hch N (N+1) _ (fun x hx=>⟨(hch _ x hx).1,by have:=(hch _ x hx).2;omega⟩) (fun x hx=>by have:=(hch _ x hx).2;omega);have d1:(dat t.nodes t.root).kind=(ju t.nodes t.root).kind:=rfl;have d2:aQ (dat t.nodes t.root)=aQ (ju t.nodes t.root):=rfl;have d3:a9 (dat t.nodes t.root)=a9 (ju t.nodes t.root):=rfl;have hw:∀x,bW (-1) x=false:=fun x=>by simp[bW]
 simp only[foT,hN,aH,aA,Fo.txt,dD,xE,e2,d1,d2,d3,hw,Pb,if_true,OH,Oj];simp
theorem r8{t:Tre}(h:ax t):(foT t).fit=true:=by
 obtain⟨n,k,e,_,hf⟩:=fX h;rw[e];exact hf
theorem Gf{t:Tre}(h:ax t):foT t≠.nil:=by
 obtain⟨n,k,e,_⟩:=fX h;rw[e];simp
theorem vu(ns:List Nod):∀l:List Opn,l.length≤iP ns l
 | []=>by simp
 | o :: l=>by
  have h1:=vu ns l;have h2:=yj ns o;simp only[iP,OB,P4,Og] at h1 ⊢;omega
theorem D4{t:Tre}(h:ax t):iK t.nodes (t.root,0,false)<2 * t.nodes.length:=by
 obtain⟨h0,h1⟩:=h.root;have hch:=h.kok.ah;have hs:=dF h;obtain⟨N,hN⟩:∃N,t.nodes.length=N+1:=⟨t.nodes.length - 1,by omega⟩
 have e2:aF t.nodes N (ah t.nodes t.root)=aF t.nodes (N+1) (ah t.nodes t.root):=cN hch N (N+1) _ (fun x hx=>⟨(hch _ x hx).1,by have:=(hch _ x hx).2;omega⟩) (fun x hx=>by have:=(hch _ x hx).2;omega);rw[foT,hN,aH,aA,e2] at hs;simp only[Fo.size] at hs;simp only[iK,Pb,hN];omega
end Go.ab
end
section
namespace Go.Km
open Go Go.Vc Go.Proofs Go.ab Go.Proofs.YthebhpcjcihjgaaGreatDoor
set_option maxRecDepth 100000
set_option maxHeartbeats 0
def opR:Opn→List F
 | (k,j,b)=>[inF k,inF (j:Int),boF b]
instance(priority:=high){α:Type}{f:α→List F}{S:List α}{x:α}{k:List F→Prop}:Arm (zR ((S++[x]).map f)[((((S++[x]).map f).length:Int) - 1).toNat]? k) (k (f x)):=⟨fun h=>by
 have e:((S++[x]).map f)[((((S++[x]).map f).length:Int) - 1).toNat]?=some (f x):=by simp
 rw[e];exact h⟩
theorem Lt{α:Type}(S:List α)(a b:α):S++[a,b]=S++[a]++[b]:=by simp
theorem bl2{h:List (Nat×B)}(bs:List (List F)){r1 r2:List (List F)}(e:r1=r2):jX [(2,B.ro 0 5 1 bs),(3,B.ro 0 214 3 r1)] h=jX [(2,B.ro 0 5 1 bs),(3,B.ro 0 214 3 r2)] h:=by rw[e]
theorem Fh{cs:List F}{kind:Int}{k:F→Prop}(hP:∀i:Nat,i<10→cs[0+i * 3+1]?=some (stF ⟨(bJ i).toArray⟩))(h:0≤kind∧kind≤9)(hk:k (stF ⟨(bJ kind).toArray⟩)):ExK cs[0+kind.toNat * 3+1]? k:=by
 refine⟨_,hP kind.toNat (by omega),?_⟩;rw[Rs h.1];exact hk
theorem NO{p:Nat→Prop}(h0:p 0)(h1:p 1)(h2:p 2)(h3:p 3)(h4:p 4)(h5:p 5)(h6:p 6)(h7:p 7)(h8:p 8)(h9:p 9):∀i,i<10→p i:=by
 intro i hi;have:i=0∨i=1∨i=2∨i=3∨i=4∨i=5∨i=6∨i=7∨i=8∨i=9:=by omega
 rcases this with rfl|rfl|rfl|rfl|rfl|rfl|rfl|rfl|rfl|rfl<;>assumption
theorem EE{α:Type}(f:α→List F)(S:List α)(x:α):((S++[x]).map f).take ((((S++[x]).map f).length:Int) - 1).toNat=S.map f:=by
 have e:((((S++[x]).map f).length:Int) - 1).toNat=(S.map f).length:=by simp
 rw[e,List.map_append,List.take_left]
theorem GR{α:Type}(f:α→List F)(S:List α)(x:α)(r:List F):((S++[x]).map f).set ((((S++[x]).map f).length:Int) - 1).toNat r=S.map f++[r]:=by
 have e:((((S++[x]).map f).length:Int) - 1).toNat=(S.map f).length:=by simp
 rw[e,List.map_append,OK,PF _ _ (Ov _),Pt];rfl
instance(t:Tre):C 157 [aw t] (stF ⟨(eR t).toArray⟩) true (t.wf∧t.nodes.length≤100000):=⟨fun h=>by
 obtain⟨hw,hlen⟩:=h
 by_cases hr:ao t=true
 ·have hR:=ak hr;obtain⟨hr0,hr1⟩:=hR.root;have e:eR t=(foT t).txt (-1) true:=by rw[eR,if_pos hr]
  rw[e];clear e;have hT:=pH (foT t) (-1) true (r8 hR);have hTn:=By (foT t) (-1) true (r8 hR) (Gf hR);rw[dF hR] at hT;rw[Er hR] at hT hTn ⊢;have hrn:t.root.toNat<t.nodes.length:=by omega
  have hfits:∀(k:Nat) (hk:k<t.nodes.length),((0≤t.nodes[k].kind∧t.nodes[k].kind≤9)∧t.nodes[k].set.wf∧t.nodes[k].text.size≤1000000)∧t.nodes[k].wf∧(aQ t.nodes[k]).length≤3000:=fun k hk=>by
   obtain⟨h1,h2⟩:=jj (hR.fits _ _ (Oe hk));have h3:=hw.nodes _ (Of hk);exact⟨⟨h1,h3.set,by omega⟩,h3,sU h2⟩
  have hkids:∀(k j:Nat) (hk:k<t.nodes.length) (hj:j<t.nodes[k].kids.length),0≤t.nodes[k].kids[j]∧(t.nodes[k].kids[j]).toNat<t.nodes.length:=fun k j hk hj=>by
   have:=hR.kok _ _ (Oe hk) _ (Of hj);omega
  obtain⟨f1,f2,f3⟩:=hfits _ hrn;have f4:=mo (t.nodes[t.root.toNat]);obtain⟨T,hTe⟩:=exEq (dD t.nodes (t.root,0,false));rw[←hTe] at hT hTn ⊢
  by_cases hj:0<(t.nodes[t.root.toNat]).kids.length
  ·obtain⟨c1,c2⟩:=hkids _ 0 hrn hj;have e:=th hR.kok hr0 hrn (b:=false) hj rfl c2;rw[←hTe] at e;have g1:([]++(⟨(aQ t.nodes[t.root.toNat]).toArray⟩:ByteArray).data.toList).length≤1000000000:=by simp;omega
   have g2:(⟨(aQ t.nodes[t.root.toNat]).toArray⟩:ByteArray).size≤1000000000:=by show(aQ t.nodes[t.root.toNat]).toArray.size≤_;simp;omega
   refine kf rfl rfl ?_;repeat' first|exact k9|refine k2 ?_|apply kA|apply kI;intro hc|refine k8 ?_|apply kL;intro hl
   apply kCt [1,3,4] [];conv=>whnf
   have hl0:=D4 hR;have hl1:iK t.nodes (t.nodes[t.root.toNat].kids[0],0,bW t.nodes[t.root.toNat].kind t.nodes[(t.nodes[t.root.toNat].kids[0]).toNat].kind)+iK t.nodes (t.root,1,false)<_:=wO hR.kok hr0 hrn (b:=false) (j:=0) hj rfl (bW t.nodes[t.root.toNat].kind t.nodes[(t.nodes[t.root.toNat].kids[0]).toNat].kind);refine Lp.ind (fun z:List UInt8×List Opn=>iP t.nodes z.2) (fun z=>z.2≠[]∧(∀o∈z.2,0≤o.1∧∃h:o.1.toNat<t.nodes.length,o.2.1≤(t.nodes[o.1.toNat]'h).kids.length)∧z.1++oU t.nodes z.2=T∧iP t.nodes z.2≤300000) (fun _=>[]) (fun z=>[(2,.ro 0 5 1 (z.1.map byR)),(3,.ro 0 214 3 (z.2.map opR))]) (fun _=>_)
    (aQ t.nodes[t.root.toNat],[(t.root,1,false),(t.nodes[t.root.toNat].kids[0],0,bW t.nodes[t.root.toNat].kind t.nodes[(t.nodes[t.root.toNat].kids[0]).toNat].kind)]) ⟨by simp,?_,?_,?_⟩ rfl rfl rfl ?_
   ·intro o ho;simp only[OD,Pz,or_false] at ho;rcases ho with rfl|rfl
    ·exact⟨hr0,hrn,hj⟩
    ·exact⟨c1,c2,Oq _⟩
   ·rw[e];simp[oU]
   ·simp only[iP,OB,P0,P4,Rw];omega
   rintro G ⟨w,st⟩ ih ⟨hne,hin,hwT,hleft⟩
   dsimp only at hne hin hwT hleft ih ⊢;rcases bx st with rfl|⟨S,⟨k,j,b⟩,rfl⟩
   ·exact(hne rfl).elim
   obtain⟨h0,hkn,hjl⟩:=hin (k,j,b) (by simp);dsimp only at h0 hkn hjl;obtain⟨f1,f2,f3⟩:=hfits _ hkn;have f4:=mo (t.nodes[k.toNat]);have f5:=oR (t.nodes[k.toNat]).kind;rw[ou] at hwT;rw[jh] at hleft;have hlen:=vu t.nodes S;have hwl:w.length≤T.length:=by rw[←hwT,Oh];omega
   have hsl:S.length≤300000:=by omega
   have hkl:(t.nodes[k.toNat]).kids.length≤1000000000000000:=OA f2.kids.1 (by decide);have ga:(⟨(aQ t.nodes[k.toNat]).toArray⟩:ByteArray).size≤1000000000:=by show(aQ t.nodes[k.toNat]).toArray.size≤_;simp;omega
   have gb:(⟨(a9 t.nodes[k.toNat]).toArray⟩:ByteArray).size≤1000000000:=by show(a9 t.nodes[k.toNat]).toArray.size≤_;simp;omega
   have gc:(⟨(bJ t.nodes[k.toNat].kind).toArray⟩:ByteArray).size≤1000000000:=by show(bJ t.nodes[k.toNat].kind).toArray.size≤_;simp;omega
   have hinS:∀o∈S,0≤o.1∧∃h:o.1.toNat<t.nodes.length,o.2.1≤(t.nodes[o.1.toNat]'h).kids.length:=fun o ho=>hin o (by simp[ho])
   rcases Pu j (t.nodes[k.toNat]).kids.length with hjk|hjk
   ·obtain⟨c1,c2⟩:=hkids _ j hkn hjk;obtain⟨c,hce⟩:=exEq ((t.nodes[k.toNat]).kids[j]);have hl2:=wO hR.kok h0 hkn (b:=b) hjk rfl (bW t.nodes[k.toNat].kind (t.nodes[((t.nodes[k.toNat]).kids[j]).toNat]).kind);have hfin:∀w',w'++(dD t.nodes ((t.nodes[k.toNat]).kids[j],0,bW t.nodes[k.toNat].kind (t.nodes[((t.nodes[k.toNat]).kids[j]).toNat]).kind)++dD t.nodes (k,j+1,b))=w++dD t.nodes (k,j,b)→(let z:List UInt8×List Opn:=(w',S++[(k,j+1,b),((t.nodes[k.toNat]).kids[j],0,bW t.nodes[k.toNat].kind (t.nodes[((t.nodes[k.toNat]).kids[j]).toNat]).kind)])
      iP t.nodes z.2<iP t.nodes (S++[(k,j,b)])∧(z.2≠[]∧(∀o∈z.2,0≤o.1∧∃h:o.1.toNat<t.nodes.length,o.2.1≤(t.nodes[o.1.toNat]'h).kids.length)∧z.1++oU t.nodes z.2=T∧iP t.nodes z.2≤300000)):=by
     intro w' hw';have el:iP t.nodes (S++[(k,j+1,b),((t.nodes[k.toNat]).kids[j],0,bW t.nodes[k.toNat].kind (t.nodes[((t.nodes[k.toNat]).kids[j]).toNat]).kind)])<iK t.nodes (k,j,b)+iP t.nodes S:=by
      rw[Lt,jh,jh];omega
     refine⟨?_,by simp,?_,?_,?_⟩
     ·rw[jh];exact el
     ·intro o ho;simp only[Oy,OD,Pz,or_false] at ho;rcases ho with ho|rfl|rfl
      ·exact hinS o ho
      ·exact⟨h0,hkn,hjk⟩
      ·exact⟨c1,c2,Oq _⟩
     ·have q:=congrArg (·++oU t.nodes S) hw';dsimp only at q ⊢;rw[←hwT,Lt,ou,ou];simpa only[List.append_assoc] using q
     ·exact Nat.le_of_lt (OY el hleft)
    have hrow:∀x:Int,x=((j+1:Nat):Int)→((S++[(k,j,b)]).map opR).set ((((S++[(k,j,b)]).map opR).length:Int) - 1).toNat (setAt (opR (k,j,b)) 1 [inF x])++[opR ((t.nodes[k.toNat]).kids[j],0,bW t.nodes[k.toNat].kind (t.nodes[((t.nodes[k.toNat]).kids[j]).toNat]).kind)]=(S++[(k,j+1,b),((t.nodes[k.toNat]).kids[j],0,bW t.nodes[k.toNat].kind (t.nodes[((t.nodes[k.toNat]).kids[j]).toNat]).kind)]).map opR:=fun x hx=>by
     subst hx;rw[GR,Lt,List.map_append,List.map_append];rfl
    rcases QF j with hj0|hj0
    ·subst hj0;have he:=th hR.kok h0 hkn (b:=b) hjk rfl c2
     cases b with
     | false=>
      simp only[OQ,if_true,if_false,OH] at he
      repeat' first|exact k9|refine k2 ?_|apply kA|apply kI;intro hc|refine k8 ?_|apply kL;intro hl
      all_goals try exact⟨⟨ga,by simp only[Oh,Og,Ol];omega⟩⟩
      apply kCt [1,3,4] [];conv=>whnf
      obtain⟨q1,q2⟩:=hfin (w++(⟨(aQ t.nodes[k.toNat]).toArray⟩:ByteArray).data.toList) (by rw[he];simp only[List.append_assoc];try rfl);exact ih _ _ _ _ q1 q2 rfl rfl (bl2 (h:=G.h) ((w++(⟨(aQ t.nodes[k.toNat]).toArray⟩:ByteArray).data.toList).map byR) (hrow _ rfl))
     | true=>
      simp only[if_true,if_false,OH] at he
      repeat' first|exact k9|refine k2 ?_|apply kA|apply kI;intro hc|refine k8 ?_|apply kL;intro hl
      all_goals try exact⟨⟨ga,by simp only[Oh,Og,Ol];omega⟩⟩
      apply kCt [1,3,4] [];conv=>whnf
      obtain⟨q1,q2⟩:=hfin (w++[UInt8.ofNat (Int.toNat 40)]++(⟨(aQ t.nodes[k.toNat]).toArray⟩:ByteArray).data.toList) (by rw[he];simp only[List.append_assoc];try rfl);exact ih _ _ _ _ q1 q2 rfl rfl (bl2 (h:=G.h) ((w++[UInt8.ofNat (Int.toNat 40)]++(⟨(aQ t.nodes[k.toNat]).toArray⟩:ByteArray).data.toList).map byR) (hrow _ rfl))
    ·have he:=Bl hR.kok h0 hkn (b:=b) hj0 hjk rfl c2;have hj0':(0:Int)<(j:Int):=by omega
     repeat' first|exact k9|refine k2 ?_|apply kA|apply kI;intro hc|(((refine Fh (NO rfl rfl rfl rfl rfl rfl rfl rfl rfl rfl) f1.1 ?_))<;>conv=>whnf)|refine k8 ?_|apply kL;intro hl
     apply kCt [1,3,4] [];conv=>whnf
     obtain⟨q1,q2⟩:=hfin (w++(⟨(bJ t.nodes[k.toNat].kind).toArray⟩:ByteArray).data.toList) (by rw[he];simp only[List.append_assoc];try rfl);exact ih _ _ _ _ q1 q2 rfl rfl (bl2 (h:=G.h) ((w++(⟨(bJ t.nodes[k.toNat].kind).toArray⟩:ByteArray).data.toList).map byR) (hrow _ rfl))
   ·have hjk:(t.nodes[k.toNat]).kids.length=j:=by omega
    have hfin:∀w',w'=w++dD t.nodes (k,j,b)→S≠[]→(let z:List UInt8×List Opn:=(w',S)
      iP t.nodes z.2<iP t.nodes (S++[(k,j,b)])∧(z.2≠[]∧(∀o∈z.2,0≤o.1∧∃h:o.1.toNat<t.nodes.length,o.2.1≤(t.nodes[o.1.toNat]'h).kids.length)∧z.1++oU t.nodes z.2=T∧iP t.nodes z.2≤300000)):=by
     intro w' hw' hS;have:=yj t.nodes (k,j,b);refine⟨by rw[jh];dsimp only;omega,hS,hinS,?_,by dsimp only;omega⟩;dsimp only;rw[hw',List.append_assoc,hwT]
    have hend:S=[]→w++dD t.nodes (k,j,b)=T:=fun e=>by
     rw[←hwT,e];simp[oU]
    have htk:=EE opR S (k,j,b);have gf:(0≤t.nodes[k.toNat].kind∧t.nodes[k.toNat].kind≤9)∧t.nodes[k.toNat].wf:=⟨f1.1,f2⟩
    rcases QF j with hj0|hj0
    ·subst hj0;have he:=vQ h0 hkn (b:=b) hjk
     cases b with
     | false=>
      simp only[OQ,if_true,if_false,OH,Oj] at he;have hW:w++(⟨(aQ t.nodes[k.toNat]).toArray⟩:ByteArray).data.toList++(⟨(a9 t.nodes[k.toNat]).toArray⟩:ByteArray).data.toList=w++dD t.nodes (k,0,false):=by rw[he];simp only[List.append_assoc];try rfl
      rcases bx S with rfl|⟨S',s',rfl⟩
      ·rw[hend rfl] at hW
       repeat' first|exact k9|refine k2 ?_|apply kA|apply kI;intro hc|refine k8 ?_|apply kL;intro hl
       all_goals first
        | (rw[hW];exact⟨⟨hTn,by omega⟩⟩)
        | (rw[hW];exact aa.s rfl rfl)
        | exact⟨⟨gb,by simp only[Oh,Og,Ol];omega⟩⟩
        | exact⟨⟨ga,by simp only[Oh,Og,Ol];omega⟩⟩
      ·simp only[Oh,Og,Ol] at hsl
       repeat' first|exact k9|refine k2 ?_|apply kA|apply kI;intro hc|refine k8 ?_|apply kL;intro hl
       all_goals try exact⟨⟨gb,by simp only[Oh,Og,Ol];omega⟩⟩
       refine Stp.gv 4 214 3 (by rfl) (by rfl) htk ?_;apply kCt [1,3,4] [];conv=>whnf
       obtain⟨q1,q2⟩:=hfin _ hW (by simp);exact ih _ _ _ _ q1 q2 rfl rfl rfl
     | true=>
      simp only[if_true,if_false,OH,Oj] at he;have hW:w++[UInt8.ofNat (Int.toNat 40)]++(⟨(aQ t.nodes[k.toNat]).toArray⟩:ByteArray).data.toList++(⟨(a9 t.nodes[k.toNat]).toArray⟩:ByteArray).data.toList++[UInt8.ofNat (Int.toNat 41)]=w++dD t.nodes (k,0,true):=by rw[he];simp only[List.append_assoc];try rfl
      rcases bx S with rfl|⟨S',s',rfl⟩
      ·rw[hend rfl] at hW
       repeat' first|exact k9|refine k2 ?_|apply kA|apply kI;intro hc|refine k8 ?_|apply kL;intro hl
       all_goals first
        | (rw[hW];exact⟨⟨hTn,by omega⟩⟩)
        | (rw[hW];exact aa.s rfl rfl)
        | exact⟨⟨gb,by simp only[Oh,Og,Ol];omega⟩⟩
        | exact⟨⟨ga,by simp only[Oh,Og,Ol];omega⟩⟩
      ·simp only[Oh,Og,Ol] at hsl
       repeat' first|exact k9|refine k2 ?_|apply kA|apply kI;intro hc|refine k8 ?_|apply kL;intro hl
       all_goals try exact⟨⟨gb,by simp only[Oh,Og,Ol];omega⟩⟩
       refine Stp.gv 4 214 3 (by rfl) (by rfl) htk ?_;apply kCt [1,3,4] [];conv=>whnf
       obtain⟨q1,q2⟩:=hfin _ hW (by simp);exact ih _ _ _ _ q1 q2 rfl rfl rfl
    ·have he:=Ea h0 hkn (b:=b) hj0 hjk;have hj0':(0:Int)<(j:Int):=by omega
     cases b with
     | false=>
      simp only[OQ,if_true,if_false,OH,Oj] at he;have hW:w++(⟨(a9 t.nodes[k.toNat]).toArray⟩:ByteArray).data.toList=w++dD t.nodes (k,j,false):=by rw[he];(try simp only[List.append_assoc]);(try rfl)
      rcases bx S with rfl|⟨S',s',rfl⟩
      ·rw[hend rfl] at hW
       repeat' first|exact k9|refine k2 ?_|apply kA|apply kI;intro hc|refine k8 ?_|apply kL;intro hl
       all_goals first
        | (rw[hW];exact⟨⟨hTn,by omega⟩⟩)
        | (rw[hW];exact aa.s rfl rfl)
        | exact⟨⟨gb,by simp only[Oh,Og,Ol];omega⟩⟩
        | exact⟨⟨ga,by simp only[Oh,Og,Ol];omega⟩⟩
      ·simp only[Oh,Og,Ol] at hsl
       repeat' first|exact k9|refine k2 ?_|apply kA|apply kI;intro hc|refine k8 ?_|apply kL;intro hl
       all_goals try exact⟨⟨gb,by simp only[Oh,Og,Ol];omega⟩⟩
       refine Stp.gv 4 214 3 (by rfl) (by rfl) htk ?_;apply kCt [1,3,4] [];conv=>whnf
       obtain⟨q1,q2⟩:=hfin _ hW (by simp);exact ih _ _ _ _ q1 q2 rfl rfl rfl
     | true=>
      simp only[if_true,if_false,OH,Oj] at he;have hW:w++(⟨(a9 t.nodes[k.toNat]).toArray⟩:ByteArray).data.toList++[UInt8.ofNat (Int.toNat 41)]=w++dD t.nodes (k,j,true):=by rw[he];(try simp only[List.append_assoc]);(try rfl)
      rcases bx S with rfl|⟨S',s',rfl⟩
      ·rw[hend rfl] at hW
       repeat' first|exact k9|refine k2 ?_|apply kA|apply kI;intro hc|refine k8 ?_|apply kL;intro hl
       all_goals first
        | (rw[hW];exact⟨⟨hTn,by omega⟩⟩)
        | (rw[hW];exact aa.s rfl rfl)
        | exact⟨⟨gb,by simp only[Oh,Og,Ol];omega⟩⟩
        | exact⟨⟨ga,by simp only[Oh,Og,Ol];omega⟩⟩
      ·simp only[Oh,Og,Ol] at hsl
       repeat' first|exact k9|refine k2 ?_|apply kA|apply kI;intro hc|refine k8 ?_|apply kL;intro hl
       all_goals try exact⟨⟨gb,by simp only[Oh,Og,Ol];omega⟩⟩
       refine Stp.gv 4 214 3 (by rfl) (by rfl) htk ?_;apply kCt [1,3,4] [];conv=>whnf
       obtain⟨q1,q2⟩:=hfin _ hW (by simp);exact ih _ _ _ _ q1 q2 rfl rfl rfl
  ·have hj0:(t.nodes[t.root.toNat]).kids.length=0:=by omega
   have e:=vQ hr0 hrn (b:=false) hj0;rw[←hTe] at e;simp only[OQ,if_false,OH,Oj] at e;have g1:([]++(⟨(aQ t.nodes[t.root.toNat]).toArray⟩:ByteArray).data.toList).length≤1000000000:=by simp;omega
   have g2:(⟨(aQ t.nodes[t.root.toNat]).toArray⟩:ByteArray).size≤1000000000:=by show(aQ t.nodes[t.root.toNat]).toArray.size≤_;simp;omega
   have g3:(⟨(a9 t.nodes[t.root.toNat]).toArray⟩:ByteArray).size≤1000000000:=by show(a9 t.nodes[t.root.toNat]).toArray.size≤_;simp;omega
   have g4:[]++(⟨(aQ t.nodes[t.root.toNat]).toArray⟩:ByteArray).data.toList++(⟨(a9 t.nodes[t.root.toNat]).toArray⟩:ByteArray).data.toList=T:=e.symm;have g5:T.length≤1000000000:=by omega
   refine kf rfl rfl ?_;repeat' first|exact k9|refine k2 ?_|apply kA|apply kI;intro hc|refine k8 ?_|apply kL;intro hl
   ·exact⟨⟨f1.1,f2⟩⟩
   ·rw[g4];exact⟨⟨hTn,g5⟩⟩
   ·rw[g4];exact aa.s rfl rfl
 ·have e:eR t=[]:=by rw[eR,if_neg hr]
  have hr:ao t=false:=by simpa using hr
  rw[e];refine kf rfl rfl ?_;repeat' (first|exact k9|refine k2 ?_|apply kA|apply kI;intro hc|refine k8 ?_|apply kL;intro hl)⟩
end Go.Km
end
section
namespace Go.ab
open Go
structure Dfn where
 name:ByteArray
 body:Tre
deriving DecidableEq
structure Dfn.wf(d:Dfn):Prop where
 name:d.name.size≤140737488355328
 body:d.body.wf
def ep(d:Dfn):List UInt8:=if eR d.body=[]∨gj d.name=false then [] else d.name.data.toList++[32,60,45,32]++eR d.body++[10]
def lU(g:List Dfn):List UInt8:=if (g.all fun d=>!decide (ep d=[]))=true then g.flatMap ep else []
theorem qq{t:Tre}:(eR t).length≤3020 * t.nodes.length:=by
 unfold eR
 split
 ·rename_i h;have hR:=ak h;have:=pH (foT t) (-1) true (r8 hR)
  rwa [dF hR] at this
 ·simp
theorem wQ{t:Tre}:eR t=[]↔ao t=false:=by
 unfold eR
 split
 ·rename_i h;have hR:=ak h;simp[By (foT t) (-1) true (r8 hR) (Gf hR),h]
 ·rename_i h;simpa using h
theorem Gg{s:ByteArray}(h:gj s=true):s.size≤32:=by
 simp only[gj,Oi,decide_eq_true_eq] at h;exact h.1.1
theorem um{d:Dfn}(h:d.body.nodes.length≤1024):(ep d).length≤3100000:=by
 unfold ep
 split
 ·simp
 ·rename_i hn;have h1:gj d.name=true:=by
   cases e:gj d.name with
   | true=>rfl
   | false=>exact(hn (.inr e)).elim
  have h2:=Gg h1;have h3:d.name.data.toList.length=d.name.size:=by rw[Array.length_toList];rfl
  have h4:=qq (t:=d.body);simp only[Oh,Og,Ol];omega
end Go.ab
namespace Go.Km
open Go Go.Vc Go.Proofs Go.ab Go.Proofs.YthebhpcjcihjgaaGreatDoor
set_option maxRecDepth 100000
set_option maxHeartbeats 0
abbrev mI(d:Dfn):List F:=[stF d.name,.sl (d.body.nodes.map aT),inF d.body.root]
instance:mb mI 3:=⟨fun _=>rfl⟩
abbrev aN(g:List Dfn):F:=.ag [.sl (g.map mI)]
instance(d:Dfn):C 147 [.ag (mI d)] (stF ⟨(ep d).toArray⟩) true (d.wf∧d.body.nodes.length≤100000):=⟨fun h=>by
 obtain⟨hw,hl⟩:=h;have hn:=hw.name;have hb:=hw.body;have hp:d.body.wf∧d.body.nodes.length≤100000:=⟨hb,hl⟩
 have hsn:szS d.name≤140737488355328:=hn;have hst:=qq (t:=d.body);have ht0:(⟨(eR d.body).toArray⟩:ByteArray)=⟨#[]⟩↔eR d.body=[]:=⟨fun e=>by simpa using e,fun e=>by rw[e]⟩
 have key1:eR d.body=[]∨gj d.name=false→(⟨(ep d).toArray⟩:ByteArray)=⟨#[]⟩:=fun e=>by rw[ep,if_pos e]
 have key2:eR d.body≠[]→gj d.name=true→(⟨(ep d).toArray⟩:ByteArray)=ff (ff (ff d.name ⟨#[32,60,45,32]⟩) ⟨(eR d.body).toArray⟩) ⟨#[10]⟩:=fun e1 e2=>by
  rw[ep,if_neg (by rintro(h|h);exact e1 h;rw[e2] at h;cases h)];simp[ff]
 refine kf rfl rfl ?_;repeat' first|exact k9|refine k2 ?_|apply kA|apply kI;intro hc|refine k8 ?_|apply kL;intro hl
 ·exact aa.s (key1 (.inl (ht0.1 (by assumption)))).symm rfl
 ·exact⟨by simp only[cC,bA,Og,Ol];omega⟩
 ·exact⟨by simp only[cC,bA,Og,Ol];omega⟩
 ·exact⟨by simp only[cC,bA,Og,Ol];omega⟩
 ·rename_i hc1;exact aa.s (key2 (fun e=>hc1.1 (ht0.2 e)) hc).symm rfl
 ·exact aa.s (key1 (.inr (by assumption))).symm rfl⟩
structure HD(g:List Dfn):Prop where
 wf:∀d∈g,d.wf
 len:∀d∈g,d.body.nodes.length≤1024
 n:g.length≤200
 pos:0<g.length
theorem pU{g:List Dfn}(h:∀d∈g,d.body.nodes.length≤1024):(g.flatMap ep).length≤3100000 * g.length:=by
 induction g with
 | nil=>simp
 | cons d g ih=>
  have h1:=um (h d (by simp));have h2:=ih fun x hx=>h x (by simp[hx])
  simp only[OR,Oh,Og];omega
theorem qv{g:List Dfn}{i:Nat}(h:i<g.length):(g.take (i+1)).flatMap ep=(g.take i).flatMap ep++ep g[i]:=by
 rw[List.take_succ_eq_append_getElem h,PE,Q5]
instance(g:List Dfn):C 129 [aN g] (stF ⟨(lU g).toArray⟩) true (HD g):=⟨fun h=>by
 obtain⟨hw,hl,hn,hpos⟩:=h;have hd:∀(i:Nat) (h:i<g.length),g[i].wf∧g[i].body.nodes.length≤100000:=fun i h=>⟨hw _ (Of h),OA (hl _ (Of h)) (by decide)⟩
 have hdl:∀(i:Nat) (h:i<g.length),(⟨(ep g[i]).toArray⟩:ByteArray).size≤1000000000:=fun i h=>by
  have:=um (hl _ (Of h));show(ep g[i]).toArray.size≤_
  simp;omega
 have he0:∀(i:Nat) (h:i<g.length),((⟨(ep g[i]).toArray⟩:ByteArray)=⟨#[]⟩↔ep g[i]=[]):=fun i h=>⟨fun e=>by simpa using e,fun e=>by rw[e]⟩
 have hbad:∀(i:Nat) (h:i<g.length),ep g[i]=[]→(⟨(lU g).toArray⟩:ByteArray)=⟨#[]⟩:=fun i h e=>by
  rw[lU,if_neg];intro q;have:=OF.1 q _ (Of h);simp[e] at this
 have hpd:=hd 0 hpos;have hps:=hdl 0 hpos;have hfl:=pU hl;have hll:=hl;refine kf rfl rfl ?_;repeat' first|exact k9|refine k2 ?_|apply kA|apply kI;intro hc|refine k8 ?_|apply kL;intro hl
 apply Stp.on
 repeat' first|exact k9|refine k2 ?_|apply kA|apply kI;intro hc|refine k8 ?_|apply kL;intro hl
 ·exact aa.s (hbad 0 hpos ((he0 0 hpos).1 (by assumption))).symm rfl
 have h0:=hc.1;apply kCt [3,8,9,10] [];conv=>whnf
 refine Lp.ind (fun z:Nat=>g.length - z) (fun z=>0<z∧z≤g.length∧∀(i:Nat) (h:i<g.length),i<z→ep g[i]≠[]) (fun z=>[(10,InD z)]) (fun z=>[(1,.ro 0 5 1 (((g.take z).flatMap ep).map byR))]) (fun _=>_) 1 ⟨by omega,hpos,?_⟩ rfl rfl ?_ ?_
 ·intro i h hi;obtain rfl:i=0:=by omega
  exact fun e=>h0 ((he0 0 hpos).2 e)
 ·have e1:(g.take 1).flatMap ep=[]++(⟨(ep g[0]).toArray⟩:ByteArray).data.toList:=by
   rw[qv hpos];simp
  rw[e1];rfl
 rintro G i ih ⟨hi0,hi,hok⟩
 have hlt:((g.take i).flatMap ep).length≤3100000 * g.length:=by
  have:=pU (g:=g.take i) (fun x hx=>hll x (OC hx));rw[Ou] at this;omega
 by_cases hx:i<g.length
 ·have hpd:=hd i hx;have hps:=hdl i hx;have hgl:((g.take i).flatMap ep).length≤1000000000:=by omega
  repeat' first|exact k9|refine k2 ?_|apply kA|apply kI;intro hc|refine k8 ?_|apply kL;intro hl
  ·exact aa.s (hbad i hx ((he0 i hx).1 (by assumption))).symm rfl
  have h0:=hc.1;apply kCt [3,8,9,10] [];conv=>whnf
  refine ih (i+1) _ _ _ (by omega) ⟨by omega,by omega,fun j hj hji=>?_⟩ rfl rfl ?_
  ·by_cases hjj:j=i
   ·subst hjj;exact fun e=>h0 ((he0 j hj).2 e)
   ·exact hok j hj (by omega)
  ·rw[qv hx];rfl
 ·obtain rfl:i=g.length:=by omega
  rw[OU] at *;have e:lU g=g.flatMap ep:=by
   rw[lU,if_pos];refine OF.2 fun d hd=>?_
   obtain⟨i,hi,rfl⟩:=OT hd;simp[hok i hi hi]
  rw[e];have hne:g.flatMap ep≠[]:=fun q=>hok 0 hpos hpos (List.flatMap_eq_nil_iff.1 q _ (Of hpos))
  repeat' first|exact k9|refine k2 ?_|apply kA|apply kI;intro hc|refine k8 ?_|apply kL;intro hl
  ·exact⟨⟨hne,by omega⟩⟩
  all_goals exact aa.s rfl rfl⟩
instance(g:List Dfn):C 97 [aN g] (inF ((lU g).length:Int)) true (HD g):=⟨fun h=>by
 refine kf rfl rfl ?_;repeat' first|exact k9|refine k2 ?_|apply kA|apply kI;intro hc|refine k8 ?_|apply kL;intro hl
 exact aa.n (by rw[bA]) rfl⟩
end Go.Km
end
section
namespace Go.ab
open Go
def bf(g:List Dfn)(s:ByteArray):Option Nat:=g.findIdx? fun d=>decide (d.name=s)
def cI(g:List Dfn)(s:ByteArray):Int:=match bf g s with
 | some i=>(i:Int)
 | none=>-1
def bw(g:List Dfn):Int:=(g.map fun d=>iF d.body).sum
def eH(g:List Dfn):Bool:=decide (64<g.length)||g.any (fun d=>!kO d.body)||decide (1024<bw g)||decide (8192<(lU g).length)
end Go.ab
namespace Go.Km
open Go Go.Vc Go.Proofs Go.ab Go.Proofs.YthebhpcjcihjgaaGreatDoor
set_option maxRecDepth 100000
set_option maxHeartbeats 0
theorem uN{g:List Dfn}{s:ByteArray}{i:Nat}(h:∀(j:Nat) (hj:j<g.length),j<i→g[j].name≠s)(hi:g.length≤i):cI g s=-1:=by
 have e:bf g s=none:=by
  rw[bf,List.findIdx?_eq_none_iff];intro d hd;obtain⟨j,hj,rfl⟩:=OT hd;simpa using h j hj (by omega)
 rw[cI,e]
theorem vG{g:List Dfn}{s:ByteArray}{i:Nat}(h:∀(j:Nat) (hj:j<g.length),j<i→g[j].name≠s)(hi:i<g.length)(he:g[i].name=s):cI g s=(i:Int):=by
 have e:bf g s=some i:=by
  rw[bf,Ql];exact⟨hi,by simpa using he,fun j hj=>by simpa using h j (by omega) hj⟩
 rw[cI,e]
instance(g:List Dfn)(s:ByteArray):C 110 [aN g,stF s] (inF (cI g s)) true (g.length≤1000000):=⟨fun hn=>by
 refine kf rfl rfl ?_;repeat' first|exact k9|refine k2 ?_|apply kA|apply kI;intro hc|refine k8 ?_|apply kL;intro hl
 apply kCt [1,8,9,10] [];conv=>whnf
 refine Lp.ind (fun z:Nat=>g.length - z) (fun z=>z≤g.length∧∀(j:Nat) (hj:j<g.length),j<z→g[j].name≠s) (fun z=>[(10,InD z)]) (fun _=>[]) (fun _=>_) 0 ⟨Oq _,fun j hj h=>by omega⟩ rfl rfl rfl ?_
 rintro G i ih ⟨hi,hne⟩
 by_cases hx:i<g.length
 ·repeat' first|exact k9|refine k2 ?_|apply kA|apply kI;intro hc|refine k8 ?_|apply kL;intro hl
  ·exact aa.n (vG hne hx (by assumption)).symm rfl
  have h0:=hc;apply kCt [1,8,9,10] [];conv=>whnf
  refine ih (i+1) _ _ _ (by omega) ⟨by omega,fun j hj hji=>?_⟩ rfl rfl rfl
  by_cases hjj:j=i
  ·subst hjj;exact h0
  ·exact hne j hj (by omega)
 ·repeat' first|exact k9|refine k2 ?_|apply kA|apply kI;intro hc|refine k8 ?_|apply kL;intro hl
  exact aa.n (uN hne (by omega)).symm rfl⟩
theorem tb{t:Tre}(h:t.wf):0≤iF t∧iF t≤2000000000000:=by
 have:=h.len;simp only[b9] at this;unfold iF
 split<;>omega
theorem mi{g:List Dfn}{i:Nat}(h:i<g.length):bw (g.take (i+1))=bw (g.take i)+iF g[i].body:=by
 rw[List.take_succ_eq_append_getElem h,bw,bw,List.map_append,List.sum_append];simp
theorem qz:∀{g:List Dfn},(∀d∈g,d.wf)→0≤bw g∧bw g≤2000000000000 * (g.length:Int)
 | [],_=>by simp[bw]
 | d :: g,h=>by
  have h1:=tb (h d (by simp)).body;have h2:=qz (g:=g) fun x hx=>h x (by simp[hx])
  simp only[bw,OB,P4,Og] at h2 ⊢;omega
instance(g:List Dfn):C 27 [aN g] (inF (bw g)) true (g.length≤1000∧∀d∈g,d.wf):=⟨fun h=>by
 obtain⟨hn,hw⟩:=h;refine kf rfl rfl ?_;repeat' first|exact k9|refine k2 ?_|apply kA|apply kI;intro hc|refine k8 ?_|apply kL;intro hl
 apply kCt [3,7,8,9] [];conv=>whnf
 refine Lp.ind (fun z:Nat=>g.length - z) (fun z=>z≤g.length) (fun z=>[(9,InD z),(3,.fr (inF (bw (g.take z))))]) (fun _=>[]) (fun _=>_) 0 (Oq _) rfl rfl rfl ?_
 rintro G i ih hi
 have hb:=qz (g:=g.take i) fun d hd=>hw d (OC hd)
 rw[Ou] at hb
 by_cases hx:i<g.length
 ·have hwi:=(hw _ (Of hx)).body;have hs:=tb hwi
  repeat' first|exact k9|refine k2 ?_|apply kA|apply kI;intro hc|refine k8 ?_|apply kL;intro hl
  apply kCt [3,7,8,9] [];conv=>whnf
  refine ih (i+1) _ _ _ (by omega) (by omega) rfl ?_ rfl;rw[mi hx];rfl
 ·obtain rfl:i=g.length:=by omega
  rw[OU]
  repeat' (first|exact k9|refine k2 ?_|apply kA|apply kI;intro hc|refine k8 ?_|apply kL;intro hl)⟩
instance(g:List Dfn):C 61 [aN g] (boF (eH g)) true (g.length≤1000∧0<g.length∧∀d∈g,d.wf):=⟨fun h=>by
 obtain⟨hn,hpos,hw⟩:=h
 by_cases h64:64<g.length
 ·have e:eH g=true:=by simp[eH,h64]
  rw[e];refine kf rfl rfl ?_;repeat' first|exact k9|refine k2 ?_|apply kA|apply kI;intro hc|refine k8 ?_|apply kL;intro hl
 have hbad:∀(i:Nat) (h:i<g.length),kO g[i].body=false→eH g=true:=fun i h e=>by
  have:(g.any fun d=>!kO d.body)=true:=Po.2 ⟨_,Of h,by simp[e]⟩;simp[eH,this]
 refine kf rfl rfl ?_;repeat' first|exact k9|refine k2 ?_|apply kA|apply kI;intro hc|refine k8 ?_|apply kL;intro hl
 apply kCt [1,10,11,12] [];conv=>whnf
 refine Lp.ind (fun z:Nat=>g.length - z) (fun z=>z≤g.length∧∀(j:Nat) (hj:j<g.length),j<z→kO g[j].body=true) (fun z=>[(12,InD z)]) (fun _=>[]) (fun _=>_) 0 ⟨Oq _,fun j hj h=>by omega⟩ rfl rfl rfl ?_
 rintro G i ih ⟨hi,hok⟩
 by_cases hx:i<g.length
 ·have hwi:=(hw _ (Of hx)).body
  cases hm:kO g[i].body with
  | true=>
   repeat' first|exact k9|refine k2 ?_|apply kA|apply kI;intro hc|refine k8 ?_|apply kL;intro hl
   apply kCt [1,10,11,12] [];conv=>whnf
   refine ih (i+1) _ _ _ (by omega) ⟨by omega,fun j hj hji=>?_⟩ rfl rfl rfl
   by_cases hjj:j=i
   ·subst hjj;exact hm
   ·exact hok j hj (by omega)
  | false=>
   rw[hbad i hx hm]
   repeat' first|exact k9|refine k2 ?_|apply kA|apply kI;intro hc|refine k8 ?_|apply kL;intro hl
 ·obtain rfl:i=g.length:=by omega
  have hall:∀d∈g,kO d.body=true:=fun d hd=>by
   obtain⟨j,hj,rfl⟩:=OT hd;exact hok j hj hj
  have hany:(g.any fun d=>!kO d.body)=false:=by
   rw[Pn];intro d hd;simp[hall d hd]
  have hgo:HD g:=⟨hw,fun d hd=>by
   have:=hall d hd;simp only[kO,Oi,decide_eq_true_eq] at this;exact this.1.1,by omega,hpos⟩
  have hp2:g.length≤1000∧∀d∈g,d.wf:=⟨hn,hw⟩
  have e:eH g=(decide (1024<bw g)||decide (8192<(lU g).length)):=by simp[eH,hany,h64]
  rw[e]
  repeat' first|exact k9|refine k2 ?_|apply kA|apply kI;intro hc|refine k8 ?_|apply kL;intro hl
  ·exact aa.b (by simp[*]) rfl
  ·refine aa.b ?_ rfl;have h1:decide (1024<bw g)=false:=decide_eq_false (by omega);rw[mB,h1,Qy];exact decide_eq_decide.2 (by omega)⟩
end Go.Km
end
section
namespace Go.ab
open Go
def mh(g:List Dfn):Bool:=!g.isEmpty&&g.all fun d=>gj d.name&&dY d.body
def eL(g:List Dfn):Bool:=!decide ((g.map (·.name)).Nodup)
def nG(g:List Dfn):Bool:=g.any fun d=>d.body.nodes.any fun n=>decide (n.kind=3)&&(bf g n.text).isNone
def b4(g:List Dfn):Int:=if mh g=false then 4 else if eH g=true then 40 else if eL g=true then 6 else if nG g=true then 41 else 0
end Go.ab
namespace Go.Km
open Go Go.Vc Go.Proofs Go.ab Go.Proofs.YthebhpcjcihjgaaGreatDoor
set_option maxRecDepth 100000
set_option maxHeartbeats 0
abbrev plR(p:Dfn×Nat):List F:=[stF p.1.name,inF (p.2:Int)]
theorem tW{l:List Dfn}{s:ByteArray}:bf l s=none↔∀d∈l,d.name≠s:=by
 rw[bf,List.findIdx?_eq_none_iff];simp
theorem fM{l:List Dfn}{s:ByteArray}{j:Nat}(h:bf l s=some j):∃h:j<l.length,l[j].name=s:=by
 rw[bf,Ql] at h;obtain⟨h1,h2,_⟩:=h;exact⟨h1,by simpa using h2⟩
theorem vF{g:List Dfn}{i j:Nat}(hi:i<g.length)(h:bf (g.take i) g[i].name=some j):eL g=true:=by
 obtain⟨h1,h2⟩:=fM h;rw[Ou] at h1;rw[List.getElem_take] at h2;rw[eL,Pc,decide_eq_false_iff_not];intro hn;refine QQ.1 hn j i (by simp;omega) (by simpa using hi) (by omega) ?_;simpa using h2
theorem Ba{g:List Dfn}{i:Nat}(hi:i<g.length)(hn:((g.take i).map (·.name)).Nodup)(h:bf (g.take i) g[i].name=none):((g.take (i+1)).map (·.name)).Nodup:=by
 rw[List.take_succ_eq_append_getElem hi,List.map_append,QK];refine⟨hn,by simp,?_⟩;intro a ha b hb;obtain⟨d,hd,rfl⟩:=Pq.1 ha;simp at hb;subst hb;exact tW.1 h d hd
theorem eT:∀(l:List Dfn) (n k:Nat) (s:ByteArray),jF (.vl (.string s)) ((l.zipIdx n).map plR) k=some (match bf l s with
  | some j=>some (k+j,inF ((n+j:Nat):Int))
  | none=>none)
 | [],_,_,_=>rfl
 | a :: l,n,k,s=>by
  have ih:=eT l (n+1) (k+1) s;rw[List.zipIdx_cons,OB];show(match AB (.vl (.string s)) (stF a.name) with
   | some true=>some (some (k,inF (n:Int)))
   | some false=>jF (.vl (.string s)) ((l.zipIdx (n+1)).map plR) (k+1)
   | none=>none)=_
  rw[show AB (.vl (.string s)) (stF a.name)=some (eqL s.data.toList a.name.data.toList) from rfl,vv,ih];rw[show bf (a :: l) s=(if decide (a.name=s) then some 0 else (bf l s).map fun i=>i+1) from List.findIdx?_cons ..]
  by_cases e:s=a.name
  ·subst e;simp
  ·have e':¬a.name=s:=fun q=>e q.symm
   rw[decide_eq_false e,decide_eq_false e'];simp only[OQ,if_false]
   cases bf l s with
   | none=>rfl
   | some j=>
    simp only[Rq];rw[show k+1+j=k+(j+1) by omega,show n+1+j=n+(j+1) by omega]
instance(g:List Dfn):C 26 [aN g] (inF (b4 g)) true (g.length≤1000∧∀d∈g,d.wf):=⟨fun h=>by
 obtain⟨hn,hw⟩:=h
 by_cases hp:0<g.length
 ·refine kf rfl rfl ?_;repeat' first|exact k9|refine k2 ?_|apply kA|apply kI;intro hc|refine k8 ?_|apply kL;intro hl
  apply kCt [1,2,19,20,21] [];conv=>whnf
  refine Lp.ind (fun z:Nat=>g.length - z) (fun z=>z≤g.length∧∀(j:Nat) (hj:j<g.length),j<z→(gj g[j].name&&dY g[j].body)=true) (fun z=>[(21,InD z)]) (fun _=>[]) (fun _=>_) 0 ⟨Oq _,fun j hj h=>by omega⟩ rfl rfl rfl ?_
  rintro G i ih ⟨hi,hok⟩
  have hne:g.isEmpty=false:=by cases g<;>simp at hp ⊢
  by_cases hx:i<g.length
  ·have hwi:=hw _ (Of hx);have hwb:=hwi.body;have hwn:=hwi.name;have hbad:(gj g[i].name&&dY g[i].body)=false→b4 g=4:=fun e=>by
    have:mh g=false:=by
     rw[mh,Bool.and_eq_false_iff];refine .inr (Bool.eq_false_iff.2 fun q=>?_);have:=OF.1 q _ (Of hx);rw[e] at this
     cases this
    rw[b4,if_pos this]
   repeat' first|exact k9|refine k2 ?_|apply kA|apply kI;intro hc|refine k8 ?_|apply kL;intro hl
   ·rename_i q1 q2;have q3:(gj g[i].name&&dY g[i].body)=true:=by simp[*]
    apply kCt [1,2,19,20,21] [];conv=>whnf
    refine ih (i+1) _ _ _ (by omega) ⟨by omega,fun j hj hji=>?_⟩ rfl rfl rfl
    by_cases hjj:j=i
    ·subst hjj;exact q3
    ·exact hok j hj (by omega)
   ·exact aa.n (hbad (by simp[*])).symm rfl
   ·exact aa.n (hbad (by simp[*])).symm rfl
  ·obtain rfl:i=g.length:=by omega
   have hform:mh g=true:=by
    rw[mh,hne,Q9,PG];refine OF.2 fun d hd=>?_
    obtain⟨j,hj,rfl⟩:=OT hd;exact hok j hj hj
   have hp3:g.length≤1000∧0<g.length∧∀d∈g,d.wf:=⟨hn,hp,hw⟩
   clear ih
   repeat' first|exact k9|refine k2 ?_|apply kA|apply kI;intro hc|refine k8 ?_|apply kL;intro hl
   ·exact aa.n (by rw[b4,hform,if_neg (by decide),if_pos (by assumption)]) rfl
   have hlarge:eH g=false:=hc;apply kCt [1,2,5,43,44,45] [];conv=>whnf
   clear hc;refine Lp.ind (fun z:Nat=>g.length - z) (fun z=>z≤g.length∧((g.take z).map (·.name)).Nodup) (fun z=>[(45,InD z)]) (fun z=>[(3,.mp 0 (((g.take z).zipIdx).map plR))]) (fun _=>_) 0 ⟨Oq _,by simp⟩ rfl rfl rfl ?_
   rintro G i ih ⟨hi,hnd⟩
   by_cases hx:i<g.length
   ·cases hfi:bf (g.take i) g[i].name with
    | some j=>
     have hf:(jF (.vl (.string g[i].name)) ((g.take i).zipIdx.map plR) 0).toList[0]?=some (some (j,inF (j:Int))):=by
      rw[eT,hfi];simp
     repeat' first|exact k9|refine k2 ?_|apply kA|apply kI;intro hc|refine k8 ?_|apply kL;intro hl
     exact aa.n (by rw[b4,hform,if_neg (by decide),hlarge,if_neg (by decide),if_pos (vF hx hfi)]) rfl
    | none=>
     have hf:(jF (.vl (.string g[i].name)) ((g.take i).zipIdx.map plR) 0).toList[0]?=some none:=by
      rw[eT,hfi];rfl
     repeat' first|exact k9|refine k2 ?_|apply kA|apply kI;intro hc|refine k8 ?_|apply kL;intro hl
     apply kCt [1,2,5,43,44,45] [];conv=>whnf
     refine ih (i+1) _ _ _ (by omega) ⟨by omega,Ba hx hnd hfi⟩ rfl rfl ?_;rw[List.take_succ_eq_append_getElem hx,List.zipIdx_append,List.map_append];have el:(g.take i).length=i:=by rw[Ou];omega
     simp only[List.zipIdx_singleton,el,OS,OK];rfl
   ·obtain rfl:i=g.length:=by omega
    rw[OU] at *;clear ih;have htw:eL g=false:=by rw[eL,decide_eq_true hnd];rfl
    have hlook:∀s,(jF (.vl (.string s)) (g.zipIdx.map plR) 0).toList[0]?=some (match bf g s with
      | some j=>some (j,inF (j:Int))
      | none=>none):=fun s=>by
     rw[eT]
     cases bf g s<;>simp
    repeat' first|exact k9|refine k2 ?_|apply kA|apply kI;intro hc|refine k8 ?_|apply kL;intro hl
    apply kCt [0,8,9,10] [1,2,5];conv=>whnf
    clear hc;refine Lp.ind (fun z:Nat=>g.length - z) (fun z=>z≤g.length∧∀(j:Nat) (hj:j<g.length),j<z→∀n∈g[j].body.nodes,(decide (n.kind=3)&&(bf g n.text).isNone)=false) (fun z=>[(10,InD z)]) (fun _=>[]) (fun _=>_) 0 ⟨Oq _,fun j hj h=>by omega⟩ rfl rfl rfl ?_
    rintro G i ih ⟨hi,hin⟩
    by_cases hx:i<g.length
    ·have hwi:=hw _ (Of hx);obtain⟨ns,hns⟩:=exEq (g[i].body.nodes);have hnl:ns.length≤2000000000000:=by rw[hns];exact OA hwi.body.len (by decide)
     repeat' first|exact k9|refine k2 ?_|apply kA|apply kI;intro hc|refine k8 ?_|apply kL;intro hl
     apply kCt [0,3,8,9,10,17,18,19] [1,2,5];conv=>whnf
     rw[←hns];refine Lp.ind (fun z:Nat=>ns.length - z) (fun z=>z≤ns.length∧∀(j:Nat) (hj:j<ns.length),j<z→(decide (ns[j].kind=3)&&(bf g ns[j].text).isNone)=false) (fun z=>[(19,InD z)]) (fun _=>[]) (fun _=>_) 0 ⟨Oq _,fun j hj h=>by omega⟩ rfl rfl rfl ?_
     rintro G' k ih' ⟨hk,hkn⟩
     by_cases hy:k<ns.length
     ·have hlk:=hlook ns[k].text
      by_cases h3:ns[k].kind=3
      ·cases hfi:bf g ns[k].text with
       | some j=>
        rw[hfi] at hlk;dsimp only at hlk
        repeat' first|exact k9|refine k2 ?_|apply kA|apply kI;intro hc|refine k8 ?_|apply kL;intro hl
        apply kCt [0,3,8,9,10,17,18,19] [1,2,5];conv=>whnf
        refine ih' (k+1) _ _ _ (by omega) ⟨by omega,fun j hj hjk=>?_⟩ rfl rfl rfl
        by_cases hjj:j=k
        ·subst hjj;simp[hfi]
        ·exact hkn j hj (by omega)
       | none=>
        rw[hfi] at hlk;dsimp only at hlk;have hlost:nG g=true:=Po.2 ⟨g[i],Of hx,Po.2 ⟨ns[k],by rw[←hns];exact Of hy,by simp[h3,hfi]⟩⟩
        repeat' first|exact k9|refine k2 ?_|apply kA|apply kI;intro hc|refine k8 ?_|apply kL;intro hl
        exact aa.n (by rw[b4,hform,if_neg (by decide),hlarge,if_neg (by decide),htw,if_neg (by decide),if_pos hlost]) rfl
      ·repeat' first|exact k9|refine k2 ?_|apply kA|apply kI;intro hc|refine k8 ?_|apply kL;intro hl
       apply kCt [0,3,8,9,10,17,18,19] [1,2,5];conv=>whnf
       refine ih' (k+1) _ _ _ (by omega) ⟨by omega,fun j hj hjk=>?_⟩ rfl rfl rfl
       by_cases hjj:j=k
       ·subst hjj;simp[h3]
       ·exact hkn j hj (by omega)
     ·obtain rfl:k=ns.length:=by omega
      repeat' first|exact k9|refine k2 ?_|apply kA|apply kI;intro hc|refine k8 ?_|apply kL;intro hl
      apply kCt [0,8,9,10] [1,2,5];conv=>whnf
      refine ih (i+1) _ _ _ (by omega) ⟨by omega,fun j hj hji n hn=>?_⟩ rfl rfl rfl
      by_cases hjj:j=i
      ·subst hjj;rw[←hns] at hn;obtain⟨q,hq,rfl⟩:=OT hn;exact hkn q hq hq
      ·exact hin j hj (by omega) n hn
    ·obtain rfl:i=g.length:=by omega
     clear ih;have hlost:nG g=false:=by
      rw[nG,Pn];intro d hd;obtain⟨j,hj,rfl⟩:=OT hd;rw[Bool.not_eq_true,Pn];intro n hn;rw[hin j hj hj n hn]
      decide
     repeat' first|exact k9|refine k2 ?_|apply kA|apply kI;intro hc|refine k8 ?_|apply kL;intro hl
     exact aa.n (by rw[b4,hform,if_neg (by decide),hlarge,if_neg (by decide),htw,if_neg (by decide),hlost,if_neg (by decide)]) rfl
 ·obtain rfl:g=[]:=OJ (by omega);refine kf rfl rfl ?_;repeat' first|exact k9|refine k2 ?_|apply kA|apply kI;intro hc|refine k8 ?_|apply kL;intro hl
  exact aa.n rfl rfl⟩
end Go.Km
end
section
namespace Go.ab
open Go
structure Fl where
 zero:Bool
 some:Bool
 fail:Bool
deriving DecidableEq
def Fl.bot:Fl:=⟨false,false,false⟩
def Fl.succ(f:Fl):Bool:=f.zero||f.some
structure Fl.le(a b:Fl):Prop where
 zero:a.zero=true→b.zero=true
 some:a.some=true→b.some=true
 fail:a.fail=true→b.fail=true
def Fl.cnt(f:Fl):Nat:=f.zero.toNat+f.some.toNat+f.fail.toNat
theorem Fl.le.refl(a:Fl):a.le a:=⟨id,id,id⟩
theorem Fl.le.trans{a b c:Fl}(h:a.le b)(k:b.le c):a.le c:=⟨fun x=>k.zero (h.zero x),fun x=>k.some (h.some x),fun x=>k.fail (h.fail x)⟩
theorem Fl.bot_le(a:Fl):Fl.bot.le a:=⟨nofun,nofun,nofun⟩
theorem Fl.le.LO{a b:Fl}(h:a.le b)(k:b.le a):a=b:=by
 obtain⟨a1,a2,a3⟩:=a;obtain⟨b1,b2,b3⟩:=b;obtain⟨h1,h2,h3⟩:=h;obtain⟨k1,k2,k3⟩:=k
 revert h1 h2 h3 k1 k2 k3
 cases a1<;>cases a2<;>cases a3<;>cases b1<;>cases b2<;>cases b3<;>simp
theorem Fl.le.cnt{a b:Fl}(h:a.le b):a.cnt≤b.cnt∧(a≠b→a.cnt<b.cnt):=by
 obtain⟨a1,a2,a3⟩:=a;obtain⟨b1,b2,b3⟩:=b;obtain⟨h1,h2,h3⟩:=h
 revert h1 h2 h3
 cases a1<;>cases a2<;>cases a3<;>cases b1<;>cases b2<;>cases b3<;>simp[Fl.cnt]
theorem Fl.KO(a:Fl):a.cnt≤3:=by
 obtain⟨a1,a2,a3⟩:=a
 cases a1<;>cases a2<;>cases a3<;>simp[Fl.cnt]
def nC(p:Fl×Bool)(k:Fl):Fl×Bool:=(⟨p.1.zero&&k.zero,p.1.some||k.some,p.1.fail||(p.2&&k.fail)⟩,p.2&&k.succ)
def Ei(l:List Fl):Fl×Bool:=l.foldl nC (⟨true,false,false⟩,true)
def sJ(l:List Fl):Fl:=⟨(Ei l).1.zero,(Ei l).1.some&&(Ei l).2,(Ei l).1.fail⟩
def rW(f k:Fl):Fl:=⟨f.zero||(f.fail&&k.zero),f.some||(f.fail&&k.some),f.fail&&k.fail⟩
def z8(l:List Fl):Fl:=l.foldl rW ⟨false,false,true⟩
def hd0(l:List Fl):Fl:=l.getD 0 .bot
def bz(n:Nod)(l:List Fl)(rule:Fl):Fl:=
 if n.kind=0 then ⟨true,false,false⟩
 else if n.kind=1 then ⟨false,!decide (n.set=.zero),true⟩
 else if n.kind=2 then ⟨false,true,true⟩
 else if n.kind=3 then rule
 else if n.kind=4 then sJ l
 else if n.kind=5 then z8 l
 else if n.kind=6 then (if n.max=0 then ⟨true,false,false⟩ else ⟨(hd0 l).zero||(decide (n.min=0)&&(hd0 l).fail),(hd0 l).some,decide (0<n.min)&&(hd0 l).fail⟩)
 else if n.kind=7 then ⟨(hd0 l).succ,false,(hd0 l).fail⟩
 else if n.kind=8 then ⟨(hd0 l).fail,false,(hd0 l).succ⟩
 else hd0 l
def dX(g:List Dfn)(l:List Fl)(s:ByteArray):Fl:=match bf g s with
 | some i=>l.getD i .bot
 | none=>.bot
def a8(out:List Fl)(ks:List Int):List Fl:=ks.map fun k=>out.getD k.toNat .bot
def ir(g:List Dfn)(l:List Fl)(out:List Fl)(n:Nod):List Fl:=out++[bz n (a8 out n.kids) (dX g l n.text)]
def aG(g:List Dfn)(l:List Fl)(ns:List Nod):List Fl:=ns.foldl (ir g l) []
def bM(g:List Dfn)(l:List Fl)(t:Tre):Fl:=(aG g l t.nodes).getD t.root.toNat .bot
def dS(g:List Dfn)(l:List Fl):List Fl:=g.map fun d=>bM g l d.body
def itJ(g:List Dfn):Nat→List Fl
 | 0=>List.replicate g.length .bot
 | k+1=>dS g (itJ g k)
def cz(g:List Dfn):List Fl:=itJ g (3 * g.length+1)
def leL(a b:List Fl):Prop:=∀i:Nat,(a.getD i .bot).le (b.getD i .bot)
theorem leL.refl(a:List Fl):leL a a:=fun _=>Fl.le.refl _
theorem leL.trans{a b c:List Fl}(h:leL a b)(k:leL b c):leL a c:=fun i=>(h i).trans (k i)
theorem leL.LO{a b:List Fl}(h:leL a b)(k:leL b a)(e:a.length=b.length):a=b:=by
 refine List.ext_getElem e fun i h1 h2=>?_;have:=(h i).LO (k i);simpa [List.getD_eq_getElem?_getD,Oe h1,Oe h2] using this
theorem ow(l:List Fl)(p:Fl)(k:Nat):(l++[p]).getD k .bot=if k<l.length then l.getD k .bot else if k=l.length then p else .bot:=by
 simp only[List.getD_eq_getElem?_getD]
 split
 ·rename_i h;rw[O6 h]
 ·split
  ·rename_i h;subst h;simp
  ·rw[OL (by omega),OG (by simp;omega)];rfl
theorem leL.snoc{a b:List Fl}{x y:Fl}(h:leL a b)(e:a.length=b.length)(k:x.le y):leL (a++[x]) (b++[y]):=fun i=>by
 rw[ow,ow,e]
 split
 ·exact h i
 ·split
  ·exact k
  ·exact Fl.le.refl _
theorem and_mono{a b c d:Bool}(h:a=true→c=true)(k:b=true→d=true):(a&&b)=true→(c&&d)=true:=by cases a<;>cases b<;>simp_all
theorem or_mono{a b c d:Bool}(h:a=true→c=true)(k:b=true→d=true):(a||b)=true→(c||d)=true:=by cases a<;>cases b<;>simp_all
theorem Fl.le.succ{a b:Fl}(h:a.le b):a.succ=true→b.succ=true:=or_mono h.zero h.some
theorem v9{p q:Fl×Bool}{a b:Fl}(h:p.1.le q.1)(h2:p.2=true→q.2=true)(k:a.le b):(nC p a).1.le (nC q b).1∧((nC p a).2=true→(nC q b).2=true):=
 ⟨⟨and_mono h.zero k.zero,or_mono h.some k.some,or_mono h.fail (and_mono h2 k.fail)⟩,and_mono h2 k.succ⟩
theorem E3{p q:Fl}{a b:Fl}(h:p.le q)(k:a.le b):(rW p a).le (rW q b):=
 ⟨or_mono h.zero (and_mono h.fail k.zero),or_mono h.some (and_mono h.fail k.some),and_mono h.fail k.fail⟩
inductive LeK:List Fl→List Fl→Prop
 | nil:LeK [] []
 | cons {a b:Fl} {l m:List Fl}:a.le b→LeK l m→LeK (a :: l) (b :: m)
theorem E1{l m:List Fl}(h:LeK l m):∀{p q:Fl×Bool},p.1.le q.1→(p.2=true→q.2=true)→(l.foldl nC p).1.le (m.foldl nC q).1∧((l.foldl nC p).2=true→(m.foldl nC q).2=true):=by
 induction h with
 | nil=>exact fun h1 h2=>⟨h1,h2⟩
 | cons k _ ih=>exact fun h1 h2=>ih (v9 h1 h2 k).1 (v9 h1 h2 k).2
theorem DZ{l m:List Fl}(h:LeK l m):∀{p q:Fl},p.le q→(l.foldl rW p).le (m.foldl rW q):=by
 induction h with
 | nil=>exact fun h1=>h1
 | cons k _ ih=>exact fun h1=>ih (E3 h1 k)
theorem Ht{l m:List Fl}(h:LeK l m):(hd0 l).le (hd0 m):=by
 cases h with
 | nil=>exact Fl.le.refl _
 | cons k _=>exact k
theorem Ah(n:Nod){l m:List Fl}{r s:Fl}(h:LeK l m)(k:r.le s):(bz n l r).le (bz n m s):=by
 have hh:=Ht h;unfold bz
 split;· exact Fl.le.refl _
 split;· exact Fl.le.refl _
 split;· exact Fl.le.refl _
 split;· exact k
 split
 ·obtain⟨h1,h2⟩:=E1 h (p:=(⟨true,false,false⟩,true)) (q:=(⟨true,false,false⟩,true)) (Fl.le.refl _) id;exact⟨h1.zero,and_mono h1.some h2,h1.fail⟩
 split;· exact DZ h (Fl.le.refl _)
 split
 ·split
  ·exact Fl.le.refl _
  ·exact⟨or_mono hh.zero (and_mono id hh.fail),hh.some,and_mono id hh.fail⟩
 split;· exact⟨hh.succ,id,hh.fail⟩
 split;· exact⟨hh.fail,id,hh.succ⟩
 exact hh
theorem rL{a b:List Fl}(h:leL a b):∀ks:List Int,LeK (a8 a ks) (a8 b ks)
 | []=>.nil
 | k :: ks=>.cons (h k.toNat) (rL h ks)
theorem Az(g:List Dfn){l m:List Fl}(h:leL l m)(s:ByteArray):(dX g l s).le (dX g m s):=by
 unfold dX
 split
 ·exact h _
 ·exact Fl.le.refl _
theorem tR(g:List Dfn){l m:List Fl}(h:leL l m):∀(ns:List Nod) {a b:List Fl},leL a b→a.length=b.length→leL (ns.foldl (ir g l) a) (ns.foldl (ir g m) b)
 | [],_,_,h1,_=>h1
 | n :: ns,a,b,h1,h2=>tR g h ns (a:=ir g l a n) (b:=ir g m b n) (h1.snoc h2 (Ah n (rL h1 _) (Az g h _))) (by simp[ir,h2])
theorem zW(g:List Dfn){l m:List Fl}(h:leL l m)(t:Tre):(bM g l t).le (bM g m t):=tR g h t.nodes (leL.refl []) rfl t.root.toNat
theorem wM(g:List Dfn)(l:List Fl):(dS g l).length=g.length:=by simp[dS]
theorem mX(g:List Dfn)(l:List Fl)(i:Nat):(dS g l).getD i .bot=match g[i]? with|some d=>bM g l d.body|none=>.bot:=by
 rw[List.getD_eq_getElem?_getD,dS,Pv]
 cases g[i]?<;>rfl
theorem lE(g:List Dfn){l m:List Fl}(h:leL l m):leL (dS g l) (dS g m):=fun i=>by
 rw[mX,mX]
 split
 ·exact zW g h _
 ·exact Fl.le.refl _
theorem ly(g:List Dfn):∀k,(itJ g k).length=g.length
 | 0=>by simp[itJ]
 | k+1=>wM g _
theorem sy(n i:Nat):(List.replicate n Fl.bot).getD i .bot=.bot:=by
 rw[List.getD_eq_getElem?_getD,Qz]
 split<;>rfl
theorem Fv(g:List Dfn):∀k,leL (itJ g k) (itJ g (k+1))
 | 0=>fun i=>by rw[itJ,sy];exact Fl.bot_le _
 | k+1=>lE g (Fv g k)
def nF(l:List Fl):Nat:=(l.map Fl.cnt).sum
theorem CI(l:List Fl):nF l≤3 * l.length:=by
 induction l with
 | nil=>simp[nF]
 | cons a l ih=>
  have:=Fl.KO a;simp only[nF,OB,P4,Og] at ih ⊢;omega
theorem leL.tail{a b:Fl}{l m:List Fl}(h:leL (a :: l) (b :: m)):a.le b∧leL l m:=⟨h 0,fun i=>h (i+1)⟩
theorem x9:∀{l m:List Fl},leL l m→l.length=m.length→nF l≤nF m∧(l≠m→nF l<nF m)
 | [],[],_,_=>⟨Ov _,fun h=>absurd rfl h⟩
 | a :: l,b :: m,h,e=>by
  obtain⟨h1,h2⟩:=h.tail;obtain⟨k1,k2⟩:=x9 h2 (by simpa using e);obtain⟨q1,q2⟩:=h1.cnt;simp only[nF,OB,P4] at k1 k2 ⊢;refine⟨by omega,fun hne=>?_⟩
  by_cases hab:a=b
  ·subst hab;have:=k2 (fun q=>hne (by rw[q]));omega
  ·have:=q2 hab;omega
 | [],_ :: _,_,e=>by simp at e
 | _ :: _,[],_,e=>by simp at e
theorem zm(g:List Dfn):∀k,k≤nF (itJ g k)∨dS g (itJ g k)=itJ g k
 | 0=>.inl (Oq _)
 | k+1=>by
  rcases zm g k with h|h
  ·by_cases e:itJ g k=itJ g (k+1)
   ·exact .inr (by rw[←e];exact e.symm)
   ·have:=(x9 (Fv g k) (by rw[ly,ly])).2 e;exact .inl (by omega)
  ·refine .inr ?_;show dS g (dS g (itJ g k))=dS g (itJ g k)
   rw[h,h]
theorem EW(g:List Dfn):dS g (cz g)=cz g:=by
 rcases zm g (3 * g.length+1) with h|h
 ·have:=CI (itJ g (3 * g.length+1));rw[ly] at this;omega
 ·exact h
theorem vD(g:List Dfn):(cz g).length=g.length:=ly g _
theorem vT(g:List Dfn){l:List Fl}(h:leL (dS g l) l):∀k,leL (itJ g k) l
 | 0=>fun i=>by rw[itJ,sy];exact Fl.bot_le _
 | k+1=>(lE g (vT g h k)).trans h
structure Up(g:List Dfn)(l:List Fl):Prop where
 len:l.length=g.length
 le:leL l (cz g)
 up:leL l (dS g l)
theorem Up.bot(g:List Dfn):Up g (List.replicate g.length .bot):=⟨by simp,fun i=>by rw[sy];exact Fl.bot_le _,fun i=>by rw[sy];exact Fl.bot_le _⟩
theorem m5(l:List Fl)(i j:Nat)(b:Fl):(l.set i b).getD j .bot=if i=j∧i<l.length then b else l.getD j .bot:=by
 simp only[List.getD_eq_getElem?_getD,Q7]
 by_cases e:i=j
 ·subst e
  by_cases h:i<l.length
  ·simp[h]
  ·simp[h]
 ·simp[e]
theorem Up.set{g:List Dfn}{l:List Fl}(h:Up g l){i:Nat}(hi:i<g.length):leL l (l.set i (bM g l g[i].body))∧Up g (l.set i (bM g l g[i].body)):=by
 have hs:(dS g l).getD i .bot=bM g l g[i].body:=by rw[mX,Oe hi]
 have h1:leL l (l.set i (bM g l g[i].body)):=fun j=>by
  rw[m5]
  split
  ·rename_i e;rw[←hs,e.1];exact h.up j
  ·exact Fl.le.refl _
 refine⟨h1,by rw[Qt];exact h.len,fun j=>?_,fun j=>?_⟩
 ·rw[m5]
  split
  ·rename_i e;have:=lE g h.le i;rw[EW,hs] at this;rw[←e.1];exact this
  ·exact h.le j
 ·have h2:=lE g h1;rw[m5]
  split
  ·rename_i e;have:=h2 i;rw[hs] at this;rw[←e.1];exact this
  ·exact(h.up j).trans (h2 j)
theorem Up.done{g:List Dfn}{l:List Fl}(h:Up g l)(hf:∀(i:Nat) (hi:i<g.length),bM g l g[i].body=l.getD i .bot):l=cz g:=by
 refine h.le.LO (vT g (fun i=>?_) _) (by rw[h.len,vD]);rw[mX]
 split
 ·rename_i d hd;obtain⟨hi,rfl⟩:=Ox.1 hd;rw[hf i hi];exact Fl.le.refl _
 ·exact Fl.bot_le _
theorem vq(g:List Dfn)(l:List Fl):∀(ns:List Nod) (a:List Fl),(ns.foldl (ir g l) a).length=a.length+ns.length
 | [],a=>rfl
 | n :: ns,a=>by rw[PJ,vq g l ns];simp[ir];omega
theorem cE(g:List Dfn)(l:List Fl)(ns:List Nod):(aG g l ns).length=ns.length:=by rw[aG,vq];simp
theorem rE(g:List Dfn)(l:List Fl){ns:List Nod}{i:Nat}(h:i<ns.length):aG g l (ns.take (i+1))=aG g l (ns.take i)++[bz ns[i] (a8 (aG g l (ns.take i)) ns[i].kids) (dX g l ns[i].text)]:=by
 rw[List.take_succ_eq_append_getElem h,aG,List.foldl_append];rfl
end Go.ab
end
section
namespace Go.Km
open Go Go.Vc Go.Proofs Go.Proofs.YthebhpcjcihjgaaGreatDoor
noncomputable abbrev Xw(i h:List Nat):Tx where
 E:=X1.E
 Γ:=X1.Γ
 fi:=X1.fi
 pu:=fun f=>!inl.elem f && !i.elem f
 Q:=fun _=>false
 bd:=fun _=>0
 bt:=fun _=>0
 u8:=0
 hp:=fun f=>ars.elem f||h.elem f
theorem pG(i h:List Nat):mA Tryz.prog (Xw i h) where
 E:=AR
 fi:=Hd
 mixed:=fH.mixed
 deep:=fH.deep
 Q:=fun _ h=>by cases h
 bd:=fun _ _ h=>by cases h
end Go.Km
end
section
namespace Go.Km
open Go Go.Vc Go.Proofs Go.ab Go.Proofs.YthebhpcjcihjgaaGreatDoor
set_option maxRecDepth 100000
set_option maxHeartbeats 0
abbrev flR(f:Fl):List F:=[boF f.zero,boF f.some,boF f.fail]
abbrev flF(f:Fl):F:=.ag (flR f)
abbrev eF(l:List Fl):F:=.sl (l.map flR)
instance(a b c:Bool):C 184 [.ag [boF a,boF b,boF c]] (boF (a||b)) true True:=⟨fun _=>by
 cases a<;>(refine kf rfl rfl ?_;repeat' (first|exact k9|refine k2 ?_|apply kA|apply kI;intro hc|refine k8 ?_|apply kL;intro hl))
 all_goals exact aa.b rfl rfl⟩
instance(k a b c d:Int)(tx:ByteArray)(lo hi:Int)(K:List (List F))(l:List Fl):C 163 [.ag (jW k a b c d tx lo hi K),eF l] (flF ⟨true,false,false⟩) true True:=⟨fun _=>by
 refine kf rfl rfl ?_;repeat' (first|exact k9|refine k2 ?_|apply kA|apply kI;intro hc|refine k8 ?_|apply kL;intro hl)⟩
theorem zw(s:Bts):xt [s.a,s.b,s.c,s.d] [0,0,0,0]=decide (s=.zero):=by
 rw[o6];obtain⟨a,b,c,d⟩:=s;simp[Bts.zero]
instance(k a b c d:Int)(tx:ByteArray)(lo hi:Int)(K:List (List F))(l:List Fl):C 164 [.ag (jW k a b c d tx lo hi K),eF l] (flF ⟨false,!decide ((⟨a,b,c,d⟩:Bts)=.zero),true⟩) true True:=⟨fun _=>by
 refine kf rfl rfl ?_;repeat' first|exact k9|refine k2 ?_|apply kA|apply kI;intro hc|refine k8 ?_|apply kL;intro hl
 refine aa.j ?_ rfl;exact congrArg (fun z=>F.ag [boF false,boF (!z),boF true]) (zw ⟨a,b,c,d⟩)⟩
instance(k a b c d:Int)(tx:ByteArray)(lo hi:Int)(K:List (List F))(l:List Fl):C 165 [.ag (jW k a b c d tx lo hi K),eF l] (flF ⟨false,true,true⟩) true True:=⟨fun _=>by
 refine kf rfl rfl ?_;repeat' (first|exact k9|refine k2 ?_|apply kA|apply kI;intro hc|refine k8 ?_|apply kL;intro hl)⟩
theorem l6{l:List Fl}(h:0<l.length):hd0 l=l[0]:=by
 cases l with
 | nil=>simp at h
 | cons a l=>rfl
instance(k a b c d:Int)(tx:ByteArray)(lo hi:Int)(K:List (List F))(l:List Fl):C 166 [.ag (jW k a b c d tx lo hi K),eF l] (flF (hd0 l)) true (0<l.length):=⟨fun h=>by
 rw[l6 h];refine kf rfl rfl ?_;repeat' (first|exact k9|refine k2 ?_|apply kA|apply kI;intro hc|refine k8 ?_|apply kL;intro hl)⟩
instance(k a b c d:Int)(tx:ByteArray)(lo hi:Int)(K:List (List F))(f:Fl):C 166 [.ag (jW k a b c d tx lo hi K),.sl (List.map flR []++[[(boF f.zero).nz,(boF f.some).nz,(boF f.fail).nz]])] (flF f) true True:=⟨fun _=>by
 rw[show(List.map flR []++[[(boF f.zero).nz,(boF f.some).nz,(boF f.fail).nz]])=List.map flR [f] from rfl];refine kf rfl rfl ?_;repeat' (first|exact k9|refine k2 ?_|apply kA|apply kI;intro hc|refine k8 ?_|apply kL;intro hl)⟩
instance(k a b c d:Int)(tx:ByteArray)(lo hi:Int)(K:List (List F))(l:List Fl):C 169 [.ag (jW k a b c d tx lo hi K),eF l] (flF (if hi=0 then ⟨true,false,false⟩ else ⟨(hd0 l).zero||(decide (lo=0)&&(hd0 l).fail),(hd0 l).some,decide (0<lo)&&(hd0 l).fail⟩)) true (hi=0∨0<l.length):=⟨fun h=>by
 by_cases hm:hi=0
 ·rw[if_pos hm];refine kf rfl rfl ?_;repeat' first|exact k9|refine k2 ?_|apply kA|apply kI;intro hc|refine k8 ?_|apply kL;intro hl
 rw[if_neg hm];have h:0<l.length:=by rcases h with h|h;exact absurd h hm;exact h
 rw[l6 h];refine kf rfl rfl ?_;repeat' first|exact k9|refine k2 ?_|apply kA|apply kI;intro hc|refine k8 ?_|apply kL;intro hl
 all_goals (refine aa.j ?_ rfl;simp_all)
 all_goals omega⟩
instance(k a b c d:Int)(tx:ByteArray)(lo hi:Int)(K:List (List F))(l:List Fl):C 170 [.ag (jW k a b c d tx lo hi K),eF l] (flF ⟨(hd0 l).succ,false,(hd0 l).fail⟩) true (0<l.length):=⟨fun h=>by
 rw[l6 h];refine kf rfl rfl ?_;repeat' first|exact k9|refine k2 ?_|apply kA|apply kI;intro hc|refine k8 ?_|apply kL;intro hl
 exact aa.j rfl rfl⟩
instance(k a b c d:Int)(tx:ByteArray)(lo hi:Int)(K:List (List F))(l:List Fl):C 171 [.ag (jW k a b c d tx lo hi K),eF l] (flF ⟨(hd0 l).fail,false,(hd0 l).succ⟩) true (0<l.length):=⟨fun h=>by
 rw[l6 h];refine kf rfl rfl ?_;repeat' first|exact k9|refine k2 ?_|apply kA|apply kI;intro hc|refine k8 ?_|apply kL;intro hl
 exact aa.j rfl rfl⟩
instance(k a b c d:Int)(tx:ByteArray)(lo hi:Int)(K:List (List F))(l:List Fl):C 167 [.ag (jW k a b c d tx lo hi K),eF l] (flF (sJ l)) true (l.length≤17592186044416):=⟨fun h=>by
 refine kf rfl rfl ?_;repeat' first|exact k9|refine k2 ?_|apply kA|apply kI;intro hc|refine k8 ?_|apply kL;intro hl
 apply kCt [4,5,6,10,11,12] [];conv=>whnf
 refine Lp.ind (fun x:Nat×Fl×Bool=>l.length - x.1) (fun x=>x.1≤l.length∧(l.take x.1).foldl nC (⟨true,false,false⟩,true)=x.2) (fun x=>[(12,InD x.1),(6,BoD x.2.2)]) (fun x=>[(1,.va 0 164 [.fr (boF x.2.1.zero),.fr (boF x.2.1.some),.fr (boF x.2.1.fail)])]) (fun _=>_) (0,⟨true,false,false⟩,true) ⟨Oq _,rfl⟩ rfl rfl rfl ?_
 rintro G ⟨i,⟨z,s,f⟩,q⟩ ih ⟨hil,hT⟩
 dsimp only at hil hT ih ⊢
 by_cases hx:i<l.length
 ·obtain⟨⟨kz,ks,kf⟩,hk⟩:∃k,k=l[i]:=⟨_,rfl⟩
  have hki:∀h:i<l.length,l[i]'h=⟨kz,ks,kf⟩:=fun _=>hk.symm
  have hS:(l.take (i+1)).foldl nC (⟨true,false,false⟩,true)=nC (⟨z,s,f⟩,q) ⟨kz,ks,kf⟩:=by
   rw[List.take_succ_eq_append_getElem hx,List.foldl_append,hT,←hk];rfl
  repeat' first|exact k9|refine k2 ?_|apply kA|apply kI;intro hc|apply kL;intro hl|((simp only[hki])<;>conv=>whnf)|refine k8 ?_|fail
  all_goals
   subst_vars
   apply kCt [4,5,6,10,11,12] [];conv=>whnf
   exact ih (i+1,nC (⟨_,_,_⟩,_) ⟨kz,ks,kf⟩) _ _ _ (by dsimp only;omega) ⟨by dsimp only;omega,hS⟩ rfl rfl rfl
 ·obtain rfl:i=l.length:=by omega
  rw[OU] at hT;have e:sJ l=⟨z,s&&q,f⟩:=by rw[sJ,Ei,hT]
  rw[e]
  repeat' first|exact k9|refine k2 ?_|apply kA|apply kI;intro hc|refine k8 ?_|apply kL;intro hl
  all_goals
   subst_vars
   exact aa.j rfl rfl⟩
instance(k a b c d:Int)(tx:ByteArray)(lo hi:Int)(K:List (List F))(l:List Fl):C 168 [.ag (jW k a b c d tx lo hi K),eF l] (flF (z8 l)) true (l.length≤17592186044416):=⟨fun h=>by
 refine kf rfl rfl ?_;repeat' first|exact k9|refine k2 ?_|apply kA|apply kI;intro hc|refine k8 ?_|apply kL;intro hl
 apply kCt [4,5,9,10,11] [];conv=>whnf
 refine Lp.ind (fun x:Nat×Fl=>l.length - x.1) (fun x=>x.1≤l.length∧(l.take x.1).foldl rW ⟨false,false,true⟩=x.2) (fun x=>[(11,InD x.1)]) (fun x=>[(1,.va 0 164 [.fr (boF x.2.zero),.fr (boF x.2.some),.fr (boF x.2.fail)])]) (fun _=>_) (0,⟨false,false,true⟩) ⟨Oq _,rfl⟩ rfl rfl rfl ?_
 rintro G ⟨i,⟨z,s,f⟩⟩ ih ⟨hil,hT⟩
 dsimp only at hil hT ih ⊢
 by_cases hx:i<l.length
 ·obtain⟨⟨kz,ks,kf⟩,hk⟩:∃k,k=l[i]:=⟨_,rfl⟩
  have hki:∀h:i<l.length,l[i]'h=⟨kz,ks,kf⟩:=fun _=>hk.symm
  have hS:(l.take (i+1)).foldl rW ⟨false,false,true⟩=rW ⟨z,s,f⟩ ⟨kz,ks,kf⟩:=by
   rw[List.take_succ_eq_append_getElem hx,List.foldl_append,hT,←hk];rfl
  repeat' first|exact k9|refine k2 ?_|apply kA|apply kI;intro hc|apply kL;intro hl|((simp only[hki])<;>conv=>whnf)|refine k8 ?_|fail
  all_goals
   subst_vars
   apply kCt [4,5,9,10,11] [];conv=>whnf
   exact ih (i+1,rW ⟨_,_,_⟩ ⟨kz,ks,kf⟩) _ _ _ (by dsimp only;omega) ⟨by dsimp only;omega,hS⟩ rfl rfl rfl
 ·obtain rfl:i=l.length:=by omega
  rw[OU] at hT;rw[z8,hT]
  repeat' (first|exact k9|refine k2 ?_|apply kA|apply kI;intro hc|refine k8 ?_|apply kL;intro hl)⟩
instance:C 151 [] (.ag [.cl 163 [],.cl 164 [],.cl 165 [],.cl 166 [],.cl 167 [],.cl 168 [],.cl 169 [],.cl 170 [],.cl 171 [],.cl 166 []]) true True:=⟨fun _=>by
 refine kf rfl rfl ?_;repeat' (first|exact k9|refine k2 ?_|apply kA|apply kI;intro hc|refine k8 ?_|apply kL;intro hl)⟩
end Go.Km
end
section
namespace Go.Proofs.YthebhpcjcihjgaaGreatDoor
open Go
theorem G6:(match Tryz.prog.underlying 164 with|some (.struct fs)=>fs.toList.map (fun f=>(f.offset,f.type,f.name== "_"))|_=>[])=[(0,4,false),(1,4,false),(2,4,false)]:=by kernel_rfl
theorem yN:Tryz.prog.underlying 4=some .bool:=by kernel_rfl
theorem Ma:Tryz.prog.stoodInHeld 164=false:=by kernel_rfl
theorem H6:Tryz.prog.eqGuardType Tryz.prog.depth 164=false:=by kernel_rfl
theorem Fc:(Tryz.prog.info? 164).map (·.size)=some 3:=by kernel_rfl
theorem ya{fs:List Field}{b:Nat}(h:fs.map (fun f=>(f.offset,f.type,f.name== "_"))=[(0,b,false),(1,b,false),(2,b,false)]):∃f0 f1 f2:Field,fs=[f0,f1,f2]∧(f0.offset=0∧f0.type=b∧f0.name≠ "_")∧(f1.offset=1∧f1.type=b∧f1.name≠ "_")∧(f2.offset=2∧f2.type=b∧f2.name≠ "_"):=by
 rcases fs with _|⟨f0,_|⟨f1,_|⟨f2,_|⟨f3,fs⟩⟩⟩⟩
 ·simp at h
 ·simp at h
 ·simp at h
 ·simp only[OB,P0,Qd,Qa,beq_eq_false_iff_ne] at h;obtain⟨h1,h2,h3,_⟩:=h;exact⟨f0,f1,f2,rfl,h1,h2,h3⟩
 ·simp at h
theorem BC(w:World)(a b c x y z:Bool):(Op.equal 164 (.agg #[.bool a,.bool b,.bool c]) (.agg #[.bool x,.bool y,.bool z])).run Tryz.prog w=.ok (a==x&&b==y&&c==z) w:=by
 have h:=G6;have hp:∀(l:Array Value) (i:Nat) (v:Value),l[i]?=some v→(part 4 l i).run Tryz.prog w=.ok v w:=by
  intro l i v hv;simp[part,isAgg,run_underlying yN,hv]
 have hq:∀x y:Bool,(Op.equalIn 9999 4 (.bool x) (.bool y)).run Tryz.prog w=.ok (x==y) w:=by
  intro x y;show(Op.equalIn (9998+1) _ _ _).run Tryz.prog w=_
  rw[Op.equalIn];simp[run_underlying yN]
 split at h
 ·rename_i fs hu;obtain⟨fs⟩:=fs;simp only at h;obtain⟨f0,f1,f2,rfl,⟨a1,a2,a3⟩,⟨b1,b2,b3⟩,⟨c1,c2,c3⟩⟩:=ya h;clear h;show(Op.equalIn (9999+1) _ _ _).run Tryz.prog w=_
  rw[Op.equalIn];have hP:∀W,(program).run Tryz.prog W=.ok Tryz.prog W:=fun W=>rfl
  have e1:=hp #[.bool a,.bool b,.bool c] 0 (.bool a) rfl;have e2:=hp #[.bool a,.bool b,.bool c] 1 (.bool b) rfl;have e3:=hp #[.bool a,.bool b,.bool c] 2 (.bool c) rfl;have e4:=hp #[.bool x,.bool y,.bool z] 0 (.bool x) rfl;have e5:=hp #[.bool x,.bool y,.bool z] 1 (.bool y) rfl;have e6:=hp #[.bool x,.bool y,.bool z] 2 (.bool z) rfl;simp[run_underlying hu,Ma,a1,a2,a3,b1,b2,b3,c1,c2,c3,e1,e2,e3,e4,e5,e6,hq]
  cases a<;>cases b<;>cases c<;>cases x<;>cases y<;>cases z<;>rfl
 ·cases h
end Go.Proofs.YthebhpcjcihjgaaGreatDoor
namespace Go.Km
open Go Go.Vc Go.Proofs Go.Proofs.YthebhpcjcihjgaaGreatDoor
theorem mK{a b:D}{l m:List D}{q:Bool}(h:ji (a :: l) (b :: m)=some q):∃x y r,a=.fr (.vl (.bool x))∧b=.fr (.vl (.bool y))∧ji l m=some r∧q=((x==y)&&r):=by
 simp only[ji] at h
 split at h
 ·rename_i x y r hr
  cases h;refine⟨x,y,r,rfl,rfl,hr,?_⟩
  cases x<;>cases y<;>rfl
 ·cases h
theorem BE{m:List D}{q:Bool}(h:ji [] m=some q):m=[]∧q=true:=by
 cases m with
 | nil=>cases h;exact⟨rfl,rfl⟩
 | cons b m=>simp[ji] at h
theorem nP{c:Cf}:∀{l:List Bool} {vs:List Value},D.aq c (l.map fun b=>.fr (.vl (.bool b))) vs→vs=l.map .bool
 | [],vs,h=>by unfold D.aq at h;exact h
 | b :: l,vs,h=>by
  rw[OB] at h;unfold D.aq at h;obtain⟨u,us,rfl,h1,h2⟩:=h;unfold D.rep F.rep at h1;rw[h1,nP h2];rfl
theorem GZ:FEq Tryz.prog 164:=by
 intro inf hinf w xs ys vs us c q hl he hv hu;have h3:inf.size=3:=by
  have:=Fc;rw[hinf] at this;simpa using this
 rw[h3] at hl;rcases xs with _|⟨x0,_|⟨x1,_|⟨x2,_|⟨x3,xs⟩⟩⟩⟩
 ·simp at hl
 ·simp at hl
 ·simp at hl
 ·rcases ys with _|⟨y0,ys⟩
  ·simp[ji] at he
  obtain⟨a0,b0,r0,rfl,rfl,he0,rfl⟩:=mK he;clear he;rcases ys with _|⟨y1,ys⟩
  ·simp[ji] at he0
  obtain⟨a1,b1,r1,rfl,rfl,he1,rfl⟩:=mK he0;clear he0;rcases ys with _|⟨y2,ys⟩
  ·simp[ji] at he1
  obtain⟨a2,b2,r2,rfl,rfl,he2,rfl⟩:=mK he1;clear he1;obtain⟨rfl,rfl⟩:=BE he2;have hv:=nP (l:=[a0,a1,a2]) hv;have hu:=nP (l:=[b0,b1,b2]) hu;subst hv;subst hu;refine⟨?_,H6⟩;rw[Qw,←Bool.and_assoc];exact BC w a0 a1 a2 b0 b1 b2
 ·simp at hl
noncomputable abbrev Xf(i h:List Nat):Tx where
 E:=X1.E
 Γ:=X1.Γ
 fi:=X1.fi
 pu:=fun f=>!inl.elem f && !i.elem f
 Q:=fun t=>Nat.beq t 164
 bd:=fun _=>0
 bt:=fun _=>0
 u8:=0
 hp:=fun f=>ars.elem f||h.elem f
theorem Nu(i h:List Nat):mA Tryz.prog (Xf i h) where
 E:=AR
 fi:=Hd
 mixed:=fH.mixed
 deep:=fH.deep
 Q:=fun t h=>by cases Nat.eq_of_beq_eq_true h;exact GZ
 bd:=fun _ _ h=>by cases h
end Go.Km
end
section
namespace Go.ab
open Go
theorem DV{g:List Dfn}{i:Nat}(hi:i<g.length)(h:eL g=false):bf (g.take i) g[i].name=none:=by
 cases e:bf (g.take i) g[i].name with
 | none=>rfl
 | some j=>rw[Go.Km.vF hi e] at h;cases h
end Go.ab
namespace Go.Km
open Go Go.Vc Go.Proofs Go.ab Go.Proofs.YthebhpcjcihjgaaGreatDoor
set_option maxRecDepth 100000
set_option maxHeartbeats 0
abbrev MF(g:List Dfn):F:=.mp (g.zipIdx.map plR)
instance(g:List Dfn):C 133 [aN g] (MF g) false (g.length≤1000∧eL g=false):=⟨fun ⟨hn,ht⟩=>by
 refine kf rfl rfl ?_;repeat' first|exact k9|refine k2 ?_|apply kA|apply kI;intro hc|(apply Sn.go hX;conv=>whnf)|refine k8 ?_|apply kL;intro hl
 apply kCt [3,13,14,15] [];conv=>whnf
 refine Lp.ind (fun z:Nat=>g.length - z) (fun z=>z≤g.length) (fun z=>[(15,InD z)]) (fun z=>[(0,.mp 0 (((g.take z).zipIdx).map plR))]) (fun _=>_) 0 (Oq _) rfl rfl rfl ?_
 rintro G i ih hi
 by_cases hx:i<g.length
 ·have hf:(jF (.vl (.string g[i].name)) ((g.take i).zipIdx.map plR) 0).toList[0]?=some none:=by
   rw[eT,DV hx ht];rfl
  repeat' first|exact k9|refine k2 ?_|apply kA|apply kI;intro hc|(apply Sn.go hX;conv=>whnf)|refine k8 ?_|apply kL;intro hl
  apply kCt [3,13,14,15] [];conv=>whnf
  refine ih (i+1) _ _ _ (by omega) (by omega) rfl rfl ?_;rw[List.take_succ_eq_append_getElem hx,List.zipIdx_append,List.map_append];have el:(g.take i).length=i:=by rw[Ou];omega
  simp only[List.zipIdx_singleton,el,OS,OK];rfl
 ·obtain rfl:i=g.length:=by omega
  rw[OU]
  repeat' (first|exact k9|refine k2 ?_|apply kA|apply kI;intro hc|(apply Sn.go hX;conv=>whnf)|refine k8 ?_|apply kL;intro hl)⟩
theorem nu{n:Nod}{c:Int}(h:fits n c=true):(0≤n.kind∧n.kind≤9)∧(6≤n.kind→c=1)∧(n.kind=3→c=0):=by
 unfold fits at h
 split at h;· simp_all
 split at h;· simp_all
 split at h;· simp_all
 split at h;· simp_all
 split at h
 ·rename_i h4;rcases h4 with h4|h4<;>simp_all
 split at h;· simp_all
 split at h
 ·rename_i h4;rcases h4 with h4|h4<;>simp_all
 split at h;· simp_all
 cases h
def kD(g:List Dfn)(ns:List Nod):Prop:=∀n∈ns,n.kind=3→(bf g n.text).isSome=true
def eE(N:Nat)(X:List Fl):List Fl:=X++List.replicate (N - X.length) .bot
theorem EL{N:Nat}{X:List Fl}{k:Nat}(h:k<(eE N X).length):(eE N X)[k]=X.getD k .bot:=by
 unfold eE at h ⊢;rw[P3]
 split
 ·rename_i h1;simp[List.getD_eq_getElem?_getD,h1]
 ·rename_i h1;simp[List.getD_eq_getElem?_getD,OG (Nat.le_of_not_lt h1)]
theorem wA{N:Nat}{X:List Fl}(h:X.length≤N):(eE N X).length=N:=by simp[eE];omega
theorem wm{N:Nat}{X:List Fl}(h:X.length<N)(x:Fl):(eE N X).set X.length x=eE N (X++[x]):=by
 unfold eE;rw[show N - X.length=(N - (X++[x]).length)+1 by simp;omega,PQ];simp
instance(g:List Dfn)(l:List Fl)(t:Tre):C 135 [MF g,eF l,aw t] (eF (aG g l t.nodes)) true (g.length≤1000∧l.length=g.length∧t.wf∧ax t∧kD g t.nodes):=⟨fun ⟨hg,hl,hw,hR,hN⟩=>by
 have hlen:=hw.len;simp only[b9] at hlen;have hlook:∀s,(jF (.vl (.string s)) (g.zipIdx.map plR) 0).toList[0]?=some (match bf g s with
   | some j=>some (j,inF (j:Int))
   | none=>none):=fun s=>by
  rw[eT]
  cases bf g s<;>simp
 obtain⟨ns,hns⟩:=exEq (t.nodes);refine kf rfl rfl ?_;repeat' first|exact k9|refine k2 ?_|apply kA|apply kI;intro hc|(apply Sn.go hX;conv=>whnf)|refine k8 ?_|apply kL;intro hl
 apply Stp.fW 9 164 3 rfl rfl;apply kCt [0,1,7,8,9,20,21,22] [];conv=>whnf
 refine Lp.ind (fun x:Nat×List Fl=>t.nodes.length - x.1) (fun x=>x.1≤t.nodes.length∧x.2.length≤17592186044417) (fun x=>[(22,InD x.1)]) (fun x=>[(1,.ro 0 164 3 ((eE t.nodes.length (aG g l (t.nodes.take x.1))).map flR)),(2,.ro 0 164 3 (x.2.map flR))]) (fun _=>_) (0,[]) ⟨Oq _,by simp⟩ rfl rfl ?_ ?_
 ·simp only[Ok];rw[show(List.take 0 t.nodes)=[] from rfl,show aG g l []=[] from rfl,eE];simp only[Ol,O9,OH,Qm];rfl
 rintro G ⟨i,K⟩ ih ⟨hi,hK⟩
 dsimp only at hi hK ih ⊢
 by_cases hx:i<t.nodes.length
 ·obtain⟨X,hX⟩:=exEq (aG g l (t.nodes.take i));have hXl:X.length=i:=by rw[hX,cE,Ou];omega
  have hsn:=rE g l hx;rw[←hX] at hsn ⊢;have hZl:=wA (N:=t.nodes.length) (X:=X) (by omega);obtain⟨n,hn⟩:=exEq (t.nodes[i]);have hni:∀h:i<t.nodes.length,t.nodes[i]'h=n:=fun _=>hn.symm
  have hnm:n∈t.nodes:=by rw[hn];exact Of hx
  have hkl:=(hw.nodes _ hnm).kids.1;simp only[eX] at hkl;have hko:∀k∈n.kids,0≤k∧k<i:=fun k hk=>hR.kok i n (by rw[hn];exact Oe hx) k hk
  have hfit:=hR.fits i n (by rw[hn];exact Oe hx);have hrl:=hN n hnm;rw[←hn] at hsn
  repeat' first|exact k9|refine k2 ?_|apply kA|apply kI;intro hc|apply kL;intro hl|(apply Sn.go hX;conv=>whnf)|((simp only[hni])<;>conv=>whnf)|refine k8 ?_|fail
  refine Stp.gv 9 164 3 (by rfl) (by rfl) (show _=([]:List Fl).map flR from rfl) ?_;apply kCt [0,1,7,8,9,10,11,20,21,22,30,31,32] [];conv=>whnf
  refine Lp.ind (fun z:Nat=>n.kids.length - z) (fun z=>z≤n.kids.length) (fun z=>[(32,InD z)]) (fun z=>[(2,.ro 0 164 3 ((a8 X (n.kids.take z)).map flR))]) (fun _=>_) 0 (Oq _) rfl rfl rfl ?_
  rintro G' j ih' hj
  have hKl:(a8 X (n.kids.take j)).length=j:=by rw[a8,Ok,Ou];omega
  by_cases hy:j<n.kids.length
  ·obtain⟨q,hq⟩:∃q:Nat,n.kids[j]=q:=⟨n.kids[j].toNat,by have:=hko _ (Of hy);omega⟩
   have hqi:∀h:j<n.kids.length,n.kids[j]'h=(q:Int):=fun _=>hq
   have hql:=hko _ (Of hy);rw[hq] at hql;have hzq:∀h:((q:Nat):Int).toNat<(eE t.nodes.length X).length,(eE t.nodes.length X)[((q:Nat):Int).toNat]'h=X.getD q .bot:=fun h=>EL h
   have hks:a8 X (n.kids.take (j+1))=a8 X (n.kids.take j)++[X.getD q .bot]:=by
    rw[List.take_succ_eq_append_getElem hy,a8,List.map_append,hq];rfl
   repeat' first|exact k9|refine k2 ?_|apply kA|apply kI;intro hc|apply kL;intro hl|(apply Sn.go hX;conv=>whnf)|((simp only[hqi])<;>conv=>whnf)|((simp only[hzq])<;>conv=>whnf)|refine k8 ?_|fail
   apply kCt [0,1,7,8,9,10,11,20,21,22,30,31,32] [];conv=>whnf
   refine ih' (j+1) _ _ _ (by omega) (by omega) rfl rfl ?_;rw[hks,List.map_append];rfl
  ·obtain rfl:j=n.kids.length:=by omega
   rw[OU] at *;clear ih';obtain⟨kf1,kf2,kf3⟩:=nu hfit;obtain⟨K',hK'⟩:∃K',K'=a8 X n.kids:=⟨_,rfl⟩
   rw[←hK'] at hKl hsn ⊢;have hset:∀v,((eE t.nodes.length X).map flR).set i (flR v)=(eE t.nodes.length (X++[v])).map flR:=fun v=>by
    rw[←List.map_set,←hXl,wm (by omega)]
   have hk:n.kind=0∨n.kind=1∨n.kind=2∨n.kind=3∨n.kind=4∨n.kind=5∨n.kind=6∨n.kind=7∨n.kind=8∨n.kind=9:=by omega
   have hKb:K'.length≤17592186044416:=by omega
   clear hkl hko hfit hni hnm;obtain⟨kind,st,tx,lo,hi',ks⟩:=n;dsimp only at *;rcases hk with rfl|rfl|rfl|rfl|rfl|rfl|rfl|rfl|rfl|rfl
   case inr.inr.inr.inl=>
    have hl3:=hlook tx;obtain⟨j,hj3⟩:=PV.1 (hrl rfl);rw[hj3] at hl3;dsimp only at hl3;obtain⟨hjl,_⟩:=fM hj3;have hjl':j<l.length:=by omega
    have hr:dX g l tx=l[j]:=by rw[dX,hj3];simp[List.getD_eq_getElem?_getD,hjl']
    have hK0:K'=[]:=OJ (by have:=kf3 rfl;omega);subst hK0;rw[show bz ⟨3,st,tx,lo,hi',ks⟩ [] (dX g l tx)=l[j] by simp[bz,hr]] at hsn
    repeat' first|exact k9|refine k2 ?_|apply kA|apply kI;intro hc|(apply Sn.go hX;conv=>whnf)|refine k8 ?_|apply kL;intro hl
    apply kCt [0,1,7,8,9,20,21,22] [];conv=>whnf
    refine ih (i+1,[l[j]]) _ _ _ (by dsimp only;omega) ⟨by dsimp only;omega,by simp⟩ rfl rfl ?_;dsimp only;rw[hsn,←hset];rfl
   all_goals
    repeat' first|exact k9|refine k2 ?_|apply kA|apply kI;intro hc|(apply Sn.go hX;conv=>whnf)|refine k8 ?_|apply kL;intro hl
    apply kCt [0,1,7,8,9,20,21,22] [];conv=>whnf
    refine ih (i+1,K') _ _ _ (by dsimp only;omega) ⟨by dsimp only;omega,by dsimp only;omega⟩ rfl rfl ?_;dsimp only;rw[hsn,←hset];rfl
 ·obtain rfl:i=t.nodes.length:=by omega
  rw[OU]
  repeat' first|exact k9|refine k2 ?_|apply kA|apply kI;intro hc|(apply Sn.go hX;conv=>whnf)|refine k8 ?_|apply kL;intro hl
  refine aa.j ?_ ?_
  ·rw[eE,cE,Pt];simp
  ·simp only[cY,qw,lk,Nat.beq,cond_true,cond_false];rw[List.all_map,OF];intro x _;rfl⟩
set_option maxRecDepth 100000
set_option maxHeartbeats 0
def cR(g:List Dfn):List Fl×Int:=if b4 g=0 then (cz g,0) else ([],b4 g)
structure zM(g:List Dfn):Prop where
 pos:0<g.length
 len:g.length≤64
 name:∀d∈g,gj d.name=true
 normal:∀d∈g,dY d.body=true
 may:∀d∈g,kO d.body=true
 Ke:eL g=false
 named:∀d∈g,kD g d.body.nodes
theorem zM.right{g:List Dfn}(h:zM g){d:Dfn}(hd:d∈g):ax d.body:=by
 have:=h.normal d hd;unfold dY at this;rw[Oi] at this;exact ak this.1
theorem zM.small{g:List Dfn}(h:zM g){d:Dfn}(hd:d∈g):d.body.nodes.length≤1024:=by
 have:=h.may d hd;simp only[kO,Oi,decide_eq_true_eq] at this;exact this.1.1
theorem eO{g:List Dfn}(h:b4 g=0):zM g:=by
 unfold b4 at h
 split at h;· cases h
 rename_i h1
 split at h;· cases h
 rename_i h2
 split at h;· cases h
 rename_i h3
 split at h;· cases h
 rename_i h4;rw[Bool.not_eq_false,mh,Oi,OF] at h1;rw[Bool.not_eq_true,eH] at h2;simp only[PX,decide_eq_false_iff_not,Pn,Pc,Bool.not_eq_false] at h2;rw[Bool.not_eq_true,nG,Pn] at h4;refine⟨?_,by omega,fun d hd=>?_,fun d hd=>?_,fun d hd=>h2.1.1.2 d hd,by simpa using h3,fun d hd n hn hk=>?_⟩
 ·have:=h1.1
  cases g<;>simp at this ⊢
 ·have:=h1.2 d hd;rw[Oi] at this;exact this.1
 ·have:=h1.2 d hd;rw[Oi] at this;exact this.2
 ·have:=h4 d hd;rw[Bool.not_eq_true,Pn] at this;have:=this n hn;simp only[hk,decide_true,PG,Bool.not_eq_true,Option.isNone_eq_false_iff] at this;exact this
theorem MJ(a b:Fl):(eqB a.zero b.zero&&(eqB a.some b.some&&(eqB a.fail b.fail&&true)))=decide (a=b):=by
 obtain⟨a1,a2,a3⟩:=a;obtain⟨b1,b2,b3⟩:=b
 cases a1<;>cases a2<;>cases a3<;>cases b1<;>cases b2<;>cases b3<;>rfl
instance(g:List Dfn):C 106 [aN g] (.tp [eF (cR g).1,inF (cR g).2]) false (g.length≤1000∧∀d∈g,d.wf):=⟨fun ⟨hn,hw⟩=>by
 have hpre:g.length≤1000∧∀d∈g,d.wf:=⟨hn,hw⟩
 have hX:=Nu [] []
 by_cases hm:b4 g=0
 ·have ok:=eO hm;have e:cR g=(cz g,0):=by rw[cR,if_pos hm]
  have hpl:g.length≤1000∧eL g=false:=⟨hn,ok.Ke⟩
  rw[e];refine fK hX rfl rfl ?_;repeat' first|exact k9|refine k2 ?_|apply kA|apply kI;intro hc|(apply Sn.go hX;conv=>whnf)|refine k8 ?_|apply kL;intro hl
  apply kCt [5,7] [];conv=>whnf
  refine Lp.ind (fun l:List Fl=>3 * g.length - nF l) (Up g) (fun _=>[]) (fun l=>[(1,.ro 0 164 3 (l.map flR))]) (fun _=>_) (List.replicate g.length .bot) (Up.bot g) rfl rfl ?_ ?_
  ·simp only[Ok,Qm];rfl
  rintro G l ih hU
  apply Sn.go hX;repeat' first|exact k9|refine k2 ?_|apply kA|apply kI;intro hc|(apply Sn.go hX;conv=>whnf)|refine k8 ?_|apply kL;intro hl
  apply kCt [1,2,4,9,10,11] [5,7];conv=>whnf
  refine Lp.ind (fun x:Nat×List Fl×Bool=>g.length - x.1) (fun x=>x.1≤g.length∧Up g x.2.1∧(x.2.2=false→x.2.1=l∧∀(j:Nat) (hj:j<g.length),j<x.1→bM g l g[j].body=l.getD j .bot)∧nF l≤nF x.2.1∧(x.2.2=true→nF l<nF x.2.1)) (fun x=>[(11,InD x.1),(4,BoD x.2.2)]) (fun x=>[(2,.ro 0 164 3 (x.2.1.map flR))]) (fun _=>_) (0,l,false) ⟨Oq _,hU,fun _=>⟨rfl,fun j hj h=>by dsimp only at h;omega⟩,Ov _,fun h=>by cases h⟩ rfl rfl rfl ?_
  rintro G' ⟨i,lz0,more⟩ ih' ⟨hi,hU',hF,hle,hlt⟩
  dsimp only at hi hU' hF hle hlt ih' ⊢
  by_cases hx:i<g.length
  ·have hwi:=(hw _ (Of hx)).body;have hmem:=Of hx;have hRt:=ok.right hmem;have hnp:g.length≤1000∧lz0.length=g.length∧g[i].body.wf∧ax g[i].body∧kD g g[i].body.nodes:=⟨hn,hU'.len,hwi,hRt,ok.named _ hmem⟩
   obtain⟨q,hq⟩:∃q:Nat,g[i].body.root=q:=⟨g[i].body.root.toNat,by have:=hRt.root;omega⟩
   have hql:=hRt.root.2;rw[hq] at hql;have hfl:=cE g lz0 g[i].body.nodes;have htr:∀h:((q:Nat):Int).toNat<(aG g lz0 g[i].body.nodes).length,(aG g lz0 g[i].body.nodes)[((q:Nat):Int).toNat]'h=bM g lz0 g[i].body:=fun h=>by
    rw[bM,hq,List.getD_eq_getElem?_getD,Oe h];rfl
   have hli:∀h:i<lz0.length,lz0[i]'h=lz0.getD i .bot:=fun h=>by simp[List.getD_eq_getElem?_getD,h]
   have hll:=hU'.len;have htq:∀h:g[i].body.root.toNat<(aG g lz0 g[i].body.nodes).length,(aG g lz0 g[i].body.nodes)[g[i].body.root.toNat]'h=bM g lz0 g[i].body:=fun h=>by
    simp only[hq];exact htr _
   obtain⟨hup,hU2⟩:=hU'.set hx;apply Sn.go hX;repeat' first|exact k9|refine k2 ?_|apply kA|apply kI;intro hc|apply kL;intro hl|(apply Sn.go hX;conv=>whnf)|((simp only[hq])<;>conv=>whnf)|((simp only[htr])<;>conv=>whnf)|((simp only[hli])<;>conv=>whnf)|refine k8 ?_|fail
   ·have he:=hc;rw[MJ,decide_eq_true_iff,htq,hli] at he;apply kCt [1,2,4,9,10,11] [5,7];conv=>whnf
    refine ih' (i+1,lz0,more) _ _ _ (by dsimp only;omega) ⟨by dsimp only;omega,hU',fun hm2=>?_,hle,hlt⟩ rfl rfl rfl;obtain⟨rfl,h2⟩:=hF hm2;refine⟨rfl,fun j hj hji=>?_⟩
    by_cases e:j=i
    ·subst e;exact he
    ·exact h2 j hj (by dsimp only at hji;omega)
   ·have hne:=hc;rw[MJ,decide_eq_false_iff_not,htq,hli] at hne;have hlt2:nF lz0<nF (lz0.set i (bM g lz0 g[i].body)):=by
     refine(x9 hup (by simp)).2 fun q2=>hne ?_;conv=>rhs;rw[q2]
     rw[m5,if_pos ⟨rfl,by omega⟩]
    apply kCt [1,2,4,9,10,11] [5,7];conv=>whnf
    refine ih' (i+1,lz0.set i (bM g lz0 g[i].body),true) _ _ _ (by dsimp only;omega) ⟨by dsimp only;omega,hU2,(fun h=>by cases h),(by dsimp only;omega),(fun _=>by dsimp only;omega)⟩ rfl rfl ?_;dsimp only;rw[List.map_set];rfl
  ·obtain rfl:i=g.length:=by omega
   apply Sn.go hX;repeat' first|exact k9|refine k2 ?_|apply kA|apply kI;intro hc|(apply Sn.go hX;conv=>whnf)|refine k8 ?_|apply kL;intro hl
   ·have h1:=hlt hc;have h2:=CI lz0;rw[hU'.len] at h2;apply kCt [5,7] [];conv=>whnf
    exact ih lz0 _ _ _ (by omega) hU' rfl rfl rfl
   ·obtain⟨rfl,h2⟩:=hF hc;rw[←hU'.done fun j hj=>h2 j hj hj];exact aa.i rfl
 ·have e:cR g=([],b4 g):=by rw[cR,if_neg hm]
  rw[e];refine fK hX rfl rfl ?_;repeat' first|exact k9|refine k2 ?_|apply kA|apply kI;intro hc|(apply Sn.go hX;conv=>whnf)|refine k8 ?_|apply kL;intro hl
  exact aa.i rfl⟩
end Go.Km
end
