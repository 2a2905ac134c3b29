/- The texts that the card needs, part 4. -/
import Derived.Test.YtoklkjkmbfebjaaGreatDoorP2
set_option linter.all false
section
namespace Go.Vc
open Go Go.RowKit Go.Sl
def yh(Q:Nat→Bool)(E:TE)(η:Env)(t:Nat)(G:CG)(ρ:Operand→Option D)(op:Op)(k:Ks):Prop:=wpOp E η t G ρ op k∨∃d rd e,opX Q E η t ρ op=some (d,rd,e)∧k d rd e
section
variable {P:Program} {n:FD} {s:List (Nat×D)} {Γ:Nat→Option (List F)} {c:Cf} {a:Act} {w:World} {W:Bs} {O:Nat→Nat→Prop} {η:Env} {k:Ks} {E:TE} {t:Nat} {o:Oper} {ρ:Operand→Option D} {G:CG} {Q:Nat→Bool}
def FEq(P:Program)(t:Nat):Prop:=∀inf,P.info? t=some inf→∀(w:World) (xs ys:List D) (vs us:List Value) (c:Cf) (b:Bool),xs.length=inf.size→ix xs ys=some b→D.ah c xs vs→D.ah c ys us→(Op.equal t (.agg vs.toArray) (.agg us.toArray)).run P w=.ok b w∧P.eqGuardType P.depth t=false
theorem yA{k:TK}(h:rT k=true):k.agg=true:=by
 cases k<;>simp[rT,TK.agg] at h ⊢
theorem Fv{P:Program}{t n:Nat}(h:LN P t n)(hn:0<n)(w:World):(isAgg t).run P w=.ok true w:=by
 have h0:=h.run ⟨0,0,none⟩ { w with heap:=#[.cells (Array.replicate n (Value.int .i64 0)) t] } (List.replicate n (Value.int .i64 0)) (by simp) (fun j v hj=>by
  obtain⟨h1,h2⟩:=List.getElem?_eq_some_iff.1 hj;simp at h1 h2;subst h2
  cases j<;>simp[World.cell?,Addr.add,h1])
 have hc:World.cell? { w with heap:=#[.cells (Array.replicate n (Value.int .i64 0)) t] } ⟨0,0,none⟩=some (.int .i64 0):=by simp[World.cell?,hn]
 cases hu:P.underlying t with
 | none=>
  exfalso
  revert h0
  simp[loadVar,isAgg,underlying,hu]
 | some d=>
  cases d<;>first
   | (simp[isAgg,run_underlying hu];done)
   | (exfalso;revert h0;simp[loadVar,isAgg,run_underlying hu,hc];done)
theorem bX{c:Bool}{x:Ot}{y}(h:(alO _).ak c x=some y):c=true∧x=some y:=qi.ak h
theorem xz{d:D}{f:Nat→Ot}{y}(h:fp (alO _) d f=some y):∃(ik:IntKind) (i:Nat),d=.fr (.vl (.int ik (i:Int)))∧f i=some y:=by
 unfold fp at h
 split at h
 ·rename_i ik m;obtain⟨i,rfl,h⟩:=qi.cE h;exact⟨ik,i,rfl,h⟩
 ·exact(qi.bot h).elim
theorem Mq{α:Type}{xs:List α}{i:Nat}{f:α→Ot}{y}(h:(alO _).bh xs i f=some y):∃x,xs[i]?=some x∧f x=some y:=qi.bh h
theorem Nr{α:Type}{o:Option α}{f:α→Ot}{y}(h:(alO _).bh o.toList 0 f=some y):∃x,o=some x∧f x=some y:=by
 obtain⟨x,hx,h⟩:=qi.bh h
 cases o with
 | none=>cases hx
 | some x'=>cases hx;exact⟨_,rfl,h⟩
theorem bI{y}(h:(alO (D×List Nat×List (Nat×B))).bot=some y):False:=qi.bot h
theorem eg{d d':D}{rd rd':List Nat}{e e':List (Nat×B)}(h:(some (d,rd,e):Ot)=some (d',rd',e')):d=d'∧rd=rd'∧e=e':=by cases h;exact⟨rfl,rfl,rfl⟩
def Bnd(a:Act)(d0:Nat)(x:Option Operand)(i:Nat):Prop:=(x=none∧i=d0)∨∃y ik,x=some y∧a.eval y=.int ik (i:Int)
def Nj(a:Act)(x hi:Option Operand)(h:Nat)(ex:Bool):Prop:=(x=none∧ex=false)∨∃y ik,x=some y∧a.eval y=.int ik (h:Int)∧ex=true∧hi≠none
theorem M8(hρ:∀x d,ρ x=some d→D.rep c d (a.eval x)){x:Option Operand}{n:Nat}{f:Nat→Ot}{y}(h:uf (alO _) n (dV ρ x) f=some y):∃i,f i=some y∧Bnd a n x i:=by
 cases x with
 | none=>exact⟨n,h,.inl ⟨rfl,rfl⟩⟩
 | some z=>
  cases hz:ρ z with
  | none=>simp only[dV,hz,uf] at h;exact(bI h).elim
  | some d=>
   simp only[dV,hz,uf] at h;obtain⟨ik,i,rfl,h⟩:=xz h;exact⟨i,h,.inr ⟨z,ik,rfl,aH (hρ z _ hz)⟩⟩
theorem GC(hρ:∀x d,ρ x=some d→D.rep c d (a.eval x)){n:Nat}{lo hi mx:Option Operand}{f:Nat→Nat→Bool→Ot}{y}(h:qX (alO _) n (dV ρ lo) (dV ρ hi) (dV ρ mx) f=some y) :
  ∃l hh ex,f l hh ex=some y∧l≤hh∧hh≤n∧Bnd a 0 lo l∧Bnd a n hi hh∧Nj a mx hi hh ex:=by
 unfold qX at h;obtain⟨l,h,h1⟩:=M8 hρ h;obtain⟨hh,h,h2⟩:=M8 hρ h;obtain⟨h0,h⟩:=bX h;rw[Bool.and_eq_true] at h0;refine⟨l,hh,?_⟩;have q1:=Nat.le_of_ble_eq_true h0.1;have q2:=Nat.le_of_ble_eq_true h0.2
 cases mx with
 | none=>exact⟨false,h,q1,q2,h1,h2,.inl ⟨rfl,rfl⟩⟩
 | some z=>
  cases hz:ρ z with
  | none=>simp only[dV,hz] at h;exact(bI h).elim
  | some d=>
   cases hi with
   | none=>simp only[dV,hz,Option.map] at h;exact(bI h).elim
   | some z2=>
    have h':fp (alO _) d (fun m=>(alO _).ak (Nat.beq m hh) (f l hh true))=some y:=by
     cases hz2:ρ z2<;>simpa only[dV,hz,hz2,Option.map] using h
    obtain⟨ik,i,rfl,h'⟩:=xz h';obtain⟨h3,h'⟩:=bX h';have h3:=Nat.eq_of_beq_eq_true h3;subst h3;exact⟨true,h',q1,q2,h1,h2,.inr ⟨z,ik,rfl,aH (hρ z _ hz),rfl,by simp⟩⟩
theorem oF {x:Operand} {t' e sz by_:Nat} {z:Value} {A:Option Addr} {m c0:Nat} {lo hi mx:Option Operand} {l h:Nat} {ex:Bool} (ht:SlT P t' e sz by_ z) (ho:o.op=.slice t' x lo hi mx) (hx:a.eval x=.slice A m c0)
  (hb:Bnd a 0 lo l∧Bnd a m hi h∧Nj a mx hi h ex) (hlh:l≤h) (hhm:h≤m) (hmc:m≤c0) :
  ∃A',(execOp a.eval o).run P w=.ok (.value (.slice A' (h - l) (bif ex then h - l else c0 - l))) w∧(l=0∨l<(bif ex then h else c0)→A'=A.map (·.add (l * sz)))∧(A=none→A'=none):=by
 have z0:A.map (·.add (0 * sz))=A:=by cases A<;>simp[Addr.add]
 obtain⟨hl,hh,hm⟩:=hb;obtain⟨inf,h1,h2,h3,h4⟩:=ht.info;rcases hm with ⟨rfl,rfl⟩|⟨ym,im,rfl,hym,rfl,hne⟩
 ·refine⟨_,nY ht ho hx hl hh hlh (Nat.le_trans hhm hmc),fun hlt=>?_,fun e=>by subst e;simp⟩;rcases hlt with rfl|hlt
  ·rw[z0];simp
  simp at hlt;rw[if_neg (by omega)]
 ·refine⟨if h=l then A else A.map (·.add (l * sz)),?_,fun hlt=>?_,fun e=>by subst e;simp⟩
  ·have hhc:h≤c0:=by omega
   rcases hl with ⟨rfl,rfl⟩|⟨y,ik,rfl,hy⟩<;>rcases hh with ⟨rfl,rfl⟩|⟨y',ik',rfl,hy'⟩
   ·exact(hne rfl).elim
   ·simp[execOp,ho,hx,hym,hy',Instr.sliceAt,Instr.slice,Instr.sliceBounds,Instr.sliceBound,asIntOf,run_underlying ht.und,hhc,sizeOf,typeInfo,h1,h3]
   ·exact(hne rfl).elim
   ·simp[execOp,ho,hx,hym,hy,hy',Instr.sliceAt,Instr.slice,Instr.sliceBounds,Instr.sliceBound,asIntOf,run_underlying ht.und,hhc,hlh,sizeOf,typeInfo,h1,h3]
  ·rcases hlt with rfl|hlt
   ·rw[z0];simp
   simp at hlt;rw[if_neg (by omega)]
theorem Cw{d:D}{u:Value}{news:List (List F)}{rd:List Nat}{sz:Nat}(hp:Hp c O η w)(hd:D.rep c d u)(h:qq η d=some (news,rd))(hs:∀r∈news,r.length=sz) :
  ∃A c' vr,u=.slice A news.length c'∧Arr sz (fun b=>b<w.heap.size) w A news.length vr∧F.aG c.Z c.R news vr∧∀r∈vr,bZ r=true:=by
 unfold qq at h
 split at h
 ·rename_i b v sz1 lo hi ex
  split at h
  ·rename_i v' e' sz' rows hb
   cases hv:(Nat.beq v v'&&Nat.beq sz1 sz') with
   | false=>rw[hv] at h;cases h
   | true=>
    rw[hv] at h;obtain⟨q1,q2⟩:=uv hv;subst q1;subst q2
    cases h;unfold D.rep at hd;obtain⟨A,m,k',hA,h1,h2,h3,A2,hxv,hA2⟩:=hd;obtain⟨A',k2,vr,hA',hvr,hone,hown⟩:=hp.pc b _ hb;rw[hA] at hA'
    cases hA';have hl:((rows.take hi).drop lo).length=hi - lo:=by rw[List.length_drop,List.length_take,Nat.min_eq_left h2]
    have harr:=Arr.vJ (A':=A2) ((own.arr hown).mono (fun g hg=>hp.lt _ g hg)) h1 h2 (fun hlt=>hA2 (.inr (by cases ex<;>simp<;>omega)));have hr:=F.dL lo (F.cT hi hvr);rw[hl];exact⟨A2,_,(vr.take hi).drop lo,hxv,ny harr hr hs,hr,fun r hr=>hone r (List.mem_of_mem_take (List.mem_of_mem_drop hr))⟩
  ·cases h
 ·rename_i rows
  cases h;unfold D.rep at hd;obtain⟨A,vr,sz',hxv,harr,hone,hvr⟩:=hd;exact⟨A,_,vr,hxv,ny ((harr.loc (fun g hg=>(hp.fz g hg).2.1)).mono (fun g hg=>(hp.fz g hg).1)) hvr hs,hvr,hone⟩
 ·exact wo hp hd h hs
theorem qu{sz:Nat}:∀(rows:List (List Value)) (m:Nat),(∀r∈rows,r.length=sz)→rows.flatten.take (m * sz)=(rows.take m).flatten
 | [],m,_=>by simp
 | r :: l,0,_=>by simp
 | r :: l,m+1,h=>by
  have hr:=h r (by simp);have ih:=qu l m (fun x hx=>h x (by simp[hx]));rw[List.flatten_cons,List.take_append,List.take_succ_cons,List.flatten_cons,←ih,List.take_of_length_le (l:=r) (by rw[hr,Nat.add_mul];omega)]
  congr 2
  rw[hr,Nat.add_mul];omega
theorem rW{e sz n c m:Nat}{A:Option Addr}{rows:List (List Value)}{S:Nat→Prop}{w:World}(hm:m≤n)(h:(own e sz A n c rows).on S w):(own e sz A m c (rows.take m)).on S w:=by
 obtain⟨⟨hl,hc⟩,h2,h3,h4⟩:=h;have hrs:∀r∈rows.take m,r.length=sz:=fun r hr=>h3 r (List.mem_of_mem_take hr)
 have hrl:(rows.take m).length=m:=by simp;omega
 refine⟨⟨?_,?_⟩,hrl,hrs,?_⟩
 ·rw[length_flatten hrs,hrl]
 ·rcases hc with ⟨hv,h0⟩|⟨g,cap,cur,hv,hg,hw,hr1,hr2,hr3,hr4⟩
  ·injection hv with hA hn hcc
   subst hA;subst hcc;have:m=0:=by omega
   subst this;exact .inl ⟨rfl,rfl⟩
  ·injection hv with hA hn hcc
   subst hA;subst hcc;refine .inr ⟨g,c,cur,rfl,hg,hw,by omega,hr2,hr3,?_⟩;have hle:m * sz≤n * sz:=Nat.mul_le_mul_right sz hm;rw[←qu rows m h3,←hr4,List.take_take,Nat.min_eq_left hle]
 ·intro g hg;refine h4 g ?_
  cases A with
  | none=>simp[Value.ownBlock] at hg
  | some a=>simpa [Value.ownBlock] using hg
theorem I9{d:D}{s:ByteArray}(h:JT d=some s):d=.fr (.vl (.string s)):=by
 unfold JT at h
 split at h
 ·cases h;rfl
 ·cases h
def mM(s:ByteArray):List (List Value):=(Lib.strCells s).map fun v=>[v]
theorem BV(s:ByteArray):(mM s).flatten=Lib.strCells s:=by
 unfold mM
 induction Lib.strCells s with
 | nil=>rfl
 | cons v l ih=>simp only[List.map_cons,List.flatten_cons,ih];rfl
theorem DE(s:ByteArray):(mM s).length=s.size:=by rw[mM,List.length_map,Lib.strCells_length]
theorem wL{Z:Nat→Prop}{w:World}:∀(l:List UInt8),F.aG Z w (l.map byR) (l.map fun x=>[.int .u8 (x.toNat:Int)])
 | []=>by simp[F.aG]
 | x :: l=>by
  rw[List.map_cons,List.map_cons];unfold F.aG;exact⟨_,_,rfl,by unfold byR F.ah;exact⟨_,_,rfl,by unfold F.rep;rfl,by unfold F.ah;rfl⟩,wL l⟩
theorem si(s:ByteArray):mM s=s.data.toList.map fun x=>[.int .u8 (x.toNat:Int)]:=by
 unfold mM Lib.strCells;rw[List.map_map];rfl
theorem tz{t' u e m c0:Nat}{ty:TypeId}{A:Option Addr}{rows:List (List Value)}{S0:Nat→Prop}{bs:ByteArray}(ht:SlT P t' e 1 1 (.int .u8 0))(hu:P.underlying u=some .string)(g2:(own e 1 A m c0 rows).on S0 w)(hb:m+bs.size≤140737488355328) :
  ∃A2 c2 w' S',(Builtin.append_ #[t',u] ty #[.slice A m c0,.string bs]).run P w=.ok (.slice A2 (m+bs.size) c2) w'∧Chg w w' S0∧(∀g,S' g→S0 g∨(w.heap.size≤g∧g<w'.heap.size))∧(own e 1 A2 (m+bs.size) c2 (rows++mM bs)).on S' w':=by
 obtain⟨inf,i1,i2,i3,i4⟩:=ht.info;have h63:m+bs.size≤maxLen:=by unfold maxLen;omega
 obtain⟨v',w',r1,r2,r3,r4⟩:=Lib.run_append_own_string (P:=P) w 0 t' u ty e inf ht.und hu i1 i2 i3 i4 (.slice A m c0) m rows.flatten g2.1 bs h63 hb (Nat.zero_le _);have r5:v'.ownBlock=(Value.slice A m c0).ownBlock∨v'.ownBlock=some w.heap.size∧w.heap.size<w'.heap.size:=by
  rcases g2.1.2 with ⟨hv,h0⟩|⟨g,cap,cur,hv,_,hg,hnc,_,hcs,_⟩
  ·injection hv with a1 a2 a3
   subst a1;subst a2;subst a3
   by_cases hs:bs.size=0
   ·exact .inl (by rw[r4.2 ⟨rfl,hs⟩])
   ·have h:=run_append_nil_string (P:=P) w t' u ty e inf _ ht.und hu i1 i2 bs (by omega) (by omega) (by rw[i4];omega);rw[h] at r1
    injection r1 with e1 e2
    subst e1;subst e2;exact .inr ⟨rfl,by simp⟩
  ·injection hv with a1 a2 a3
   subst a1;subst a3
   by_cases hr:m+bs.size≤c0
   ·have h:=Lib.run_append_room_string (P:=P) w t' u ty e inf ht.und hu i1 i3 g m c0 cur hg bs hr (by omega);rw[h] at r1
    injection r1 with e1 e2
    subst e1;exact .inl rfl
   ·have holds:∀j u,rows.flatten[j]?=some u→w.cell? ((⟨g,0,none⟩:Addr).add j)=some u:=g2.1.cells (g:=g) rfl;have h:=Lib.run_append_grow_string (P:=P) w t' u ty e inf _ ht.und hu i1 i2 ⟨g,0,none⟩ m c0 rows.flatten (by rw[i3];exact g2.1.1) holds bs (by omega) (by omega) (by rw[i4];exact growslice_fits (by omega) (by omega));rw[h] at r1
    injection r1 with e1 e2
    subst e1;subst e2;exact .inr ⟨rfl,by simp⟩
 have hval:∃A2 c2,v'=.slice A2 (m+bs.size) c2:=by
  rcases r2.2 with ⟨hv,h0⟩|⟨g,cap,cur,hv,_⟩
  ·exact⟨none,0,by rw[hv,h0]⟩
  ·exact⟨_,_,hv⟩
 obtain⟨A2,c2,rfl⟩:=hval;refine⟨A2,c2,w',fun b=>S0 b∨(w.heap.size≤b∧b<w'.heap.size),r1,Chg.grown r3 (fun g hg=>g2.2.2.2 g hg),fun b hb=>hb,by rw[List.flatten_append,BV];simpa using r2,by simp[g2.2.1,DE],?_,fun g hg=>?_⟩
 ·intro r hr;rcases List.mem_append.1 hr with hr|hr
  ·exact g2.2.2.1 r hr
  ·obtain⟨v,_,rfl⟩:=List.mem_map.1 hr;rfl
 ·rcases r5 with r5|⟨r5,r6⟩
  ·exact .inl (g2.2.2.2 g (r5▸hg))
  ·rw[r5] at hg
   injection hg with hg
   exact .inr ⟨by omega,by omega⟩
theorem L8{i:TI}(h:H2 i=true):i.z=[.int .u8 0]:=by
 unfold H2 at h
 split at h
 ·rename_i hz _;exact hz
 ·cases h
theorem K1{t' e sz by_:Nat}{z:Value}{i:TI}(ht:SlT P t' e sz by_ z)(hi:TOk P e i)(h:H2 i=true):z=.int .u8 0:=by
 obtain⟨inf,i1,i2,i3,i4⟩:=ht.info;have hz:=L8 h;have hk:i.k=.int .u8:=by
  unfold H2 at h
  split at h
  ·rename_i _ hk;exact hk
  ·cases h
 have hd:=hi.zd (by rw[hz];simp);rw[hk] at hd;have h2:=(hd _ hz).run default;have h3:(zeroValue e).run P default=.ok z default:=by
  simp[zeroValue,typeInfo,i1,i2]
 rw[h3] at h2
 cases h2;rfl
theorem qG{t' e sz by_ m m' c':Nat}{ty:TypeId}{z:Value}{A A':Option Addr}{c0:Nat}(ht:SlT P t' e sz by_ z)(hcap:m≤c0)(h0:m'=0):(Builtin.append_ #[t',t'] ty #[.slice A m c0,.slice A' m' c']).run P w=.ok (.slice A m c0) w:=by
 obtain⟨inf,i1,i2,i3,i4⟩:=ht.info;subst h0;have hfc:(Builtin.firstCells inf.size 0 (.slice A' 0 c')).run P w=.ok #[] w:=by
  cases A'<;>simp[Builtin.firstCells,loadCells,loadCellsFrom]
 cases A<;>simp[Builtin.append_,run_underlying ht.und,sizeOf,typeInfo,i1,Builtin.lenOf,hcap,hfc,storeCells]
theorem oV {t' e sz by_ m m' c':Nat} {ty:TypeId} {z:Value} {A A':Option Addr} {vr news:List (List Value)} {Z0:Nat→Prop} (ht:SlT P t' e sz by_ z) (h0:Arr sz Z0 w A m vr) (hno:∀r∈news,bZ r=true)
  (harr:Arr sz (fun b=>b<w.heap.size) w A' m' news) (hpos:0<m') (h63:m+m'≤maxLen) (hb:(m+m') * by_≤140737488355328) :
  ∃A2 c2 w',(Builtin.append_ #[t',t'] ty #[.slice A m m,.slice A' m' c']).run P w=.ok (.slice A2 (m+m') c2) w'∧Sl.St w [own e sz A2 (m+m') c2 (vr++news)] w':=by
 obtain⟨inf,i1,i2,i3,i4⟩:=ht.info
 cases A with
 | none=>
  have hm:m=0:=by
   rcases Nat.eq_zero_or_pos m with h|h
   ·exact h
   ·obtain⟨_,e1,_⟩:=h0.2.2 h
    cases e1
  subst hm;have hv:vr=[]:=List.eq_nil_of_length_eq_zero h0.1;subst hv;have hon:(own e sz none 0 0 []).on (fun _=>False) w:=⟨World.ownsRow_nil w 0 e sz,rfl,by simp,fun g hg=>by simp[Value.ownBlock] at hg⟩
  obtain⟨A2,c2,w',S',hrun,hc,hsub,hown'⟩:=gT (P:=P) (ty:=ty) (c':=c') ht hon harr hno h63 hb;refine⟨A2,c2,w',hrun,⟨⟨hc.os,hc.tape,hc.output,hc.size,fun g hg=>hc.block g hg (fun h=>h)⟩,S',fun g hg=>?_,hown',trivial⟩⟩;rcases hsub g hg with h|h
  ·exact h.elim
  ·exact h
 | some ad0=>
  have hc0:∀(j:Nat) (u:Value),vr.flatten[j]?=some u→w.cell? (ad0.add j)=some u:=by
   rcases Nat.eq_zero_or_pos m with h|h
   ·have hv:vr=[]:=List.eq_nil_of_length_eq_zero (by rw[h0.1];exact h);subst hv;intro j u hj;simp at hj
   ·obtain⟨_,e1,_,hc0⟩:=h0.2.2 h
    cases e1;exact hc0
  obtain⟨ad,rfl,_,hc⟩:=harr.2.2 hpos;have hol:vr.flatten.length=m * sz:=by rw[length_flatten h0.2.1,h0.1]
  have hnl:news.flatten.length=m' * sz:=by rw[length_flatten harr.2.1,harr.1]
  obtain⟨v',w',r1,r2,r3⟩:=run_append_arg_grows (P:=P) w t' ty e inf z sz by_ ht.und i1 i2 i3 i4 ht.zsz ht.pos ad0 m m vr.flatten hol hc0 ad m' c' news.flatten hnl hc (by omega) h63 hb;rcases r2.2 with ⟨hv,hz⟩|⟨g,cap,cur,hv,hg,hw,hr⟩
  ·omega
  ·subst hv;have hw':w'.heap[g]?.isSome=true:=by rw[hw];rfl
   have hglt:g<w'.heap.size:=by
    cases h:w'.heap[g]? with
    | none=>rw[h] at hw';cases hw'
    | some _=>exact(Array.getElem?_eq_some_iff.1 h).1
   refine⟨_,_,w',r1,⟨⟨r3.os,r3.tape,r3.output,r3.size,fun q hq=>r3.block q hq (by simp)⟩,fun q=>q=g,fun q hq=>⟨by subst hq;exact hg,by subst hq;exact hglt⟩,⟨?_,by simp[h0.1,harr.1],?_,fun q hq=>by simpa [Value.ownBlock] using hq.symm⟩,trivial⟩⟩
   ·have r2':=r2;rw[←List.flatten_append] at r2';exact⟨r2'.1,.inr ⟨g,cap,cur,rfl,Nat.zero_le _,hw,by simpa using hr⟩⟩
   ·intro r hr';rcases List.mem_append.1 hr' with hr'|hr'
    ·exact h0.2.1 r hr'
    ·exact harr.2.1 r hr'
theorem G9{t:Nat}{ei:TI}(ht:TOk P t ei)(h:Aj ei=true):∃zv,ZV P t zv∧D.rep c (vQ ei) zv:=by
 have hzd:=ht.zd;unfold Aj at h;unfold vQ
 split at h
 ·rename_i v hk hz;rw[hk,hz] at hzd ⊢;exact⟨v,hzd (by simp) v rfl,aV v⟩
 ·rename_i v l hk hz;rw[hk] at hzd ⊢;refine⟨.agg ei.z.toArray,hzd (by rw[hz];simp),?_⟩;dsimp only;unfold D.rep;exact⟨_,rfl,sC _⟩
 ·cases h
theorem je{sz:Nat}{rows:List (List F)}(h:om sz rows=true):∀r∈rows,r.length=sz:=fun r hr=>Nat.eq_of_beq_eq_true (List.all_eq_true.1 h r hr)
theorem zx{a b:IntKind}(h:ya a b=true):a=b:=by cases a<;>cases b<;>simp[ya] at h<;>rfl
theorem La(a b:Int):eqN a b=(a==b):=by
 cases a<;>cases b<;>simp[eqN]<;>rw[Bool.eq_iff_iff]<;>simp<;>omega
theorem HC:∀(l m:List UInt8),eqL l m=true↔l=m
 | [],[]=>by simp[eqL]
 | [],_ :: _=>by simp[eqL]
 | _ :: _,[]=>by simp[eqL]
 | x :: l,y :: m=>by
  simp only[eqL,Bool.and_eq_true,HC l m,List.cons.injEq]
  constructor
  ·rintro⟨h1,h2⟩;exact⟨UInt8.toNat_inj.1 (Nat.eq_of_beq_eq_true h1),h2⟩
  ·rintro⟨h1,h2⟩;subst h1;exact⟨Nat.beq_refl _,h2⟩
theorem uK(s t:ByteArray):eqL s.data.toList t.data.toList=decide (s=t):=by
 rw[Bool.eq_iff_iff,HC,decide_eq_true_iff]
 constructor
 ·intro h;exact ByteArray.ext (Array.ext' h)
 ·rintro rfl;rfl
theorem zh{Z:Nat→Prop}{w':World}{desc:TypeDesc}{u v:Value}{x:F}{q:Bool}(hk:MapKept.IsKey desc u)(h:xH (.vl u) x=some q)(hx:F.rep Z w' x v):Instr.sameNow desc u v=some q∧(q=true→v=u):=by
 unfold xH at h
 split at h
 ·rename_i k1 a1 k2 b1 e
  cases e
  cases hkb:ya k1 k2 with
  | false=>rw[hkb] at h;cases h
  | true=>
   rw[hkb] at h;have:=zx hkb;subst this;unfold F.rep at hx;subst hx;simp only[cond_true,Option.some.injEq] at h;subst h;rw[La]
   cases desc<;>simp[MapKept.IsKey] at hk
   subst hk;exact⟨by simp[Instr.sameNow],fun e=>by rw[beq_iff_eq] at e;rw[e]⟩
 ·rename_i s1 s2 e
  cases e;unfold F.rep at hx;subst hx;simp only[Option.some.injEq] at h;subst h;rw[uK]
  cases desc<;>simp[MapKept.IsKey] at hk
  exact⟨by simp only[Instr.sameNow];congr 1;rw[Bool.eq_iff_iff,MapKept.bytes_beq,decide_eq_true_iff],fun e=>by rw[decide_eq_true_iff] at e;rw[e]⟩
 ·cases h
theorem kQ{Z:Nat→Prop}{w':World}{desc:TypeDesc}{u:Value}(hk:MapKept.IsKey desc u):∀{rows:List (List F)} {es:List MapEntry} {i:Nat} {r:Option (Nat×F)},F.aG Z w' rows (es.map fun e=>[e.key,e.val])→gZ (.vl u) rows i=some r→
  (r=none∧Instr.findNow desc u es i=some none)∨∃j x e,r=some (j,x)∧i≤j∧es[j - i]?=some e∧e.key=u∧F.rep Z w' x e.val∧Instr.findNow desc u es i=some (some (j,e.val))
 | [],es,i,r,hr,h=>by
  simp only[gZ,Option.some.injEq] at h;subst h;unfold F.aG at hr;have:es=[]:=by simpa using hr
  subst this;exact .inl ⟨rfl,rfl⟩
 | row :: rows,[],i,r,hr,h=>by
  unfold F.aG at hr;obtain⟨a1,b1,h1,_⟩:=hr
  cases h1
 | row :: rows,e :: es,i,r,hr,h=>by
  unfold F.aG at hr;obtain⟨a1,b1,h1,h2,h3⟩:=hr
  cases h1;simp only[gZ] at h
  split at h
  ·rename_i k' v;unfold F.ah at h2;obtain⟨u1,us1,q1,q2,q3⟩:=h2
   cases q1;unfold F.ah at q3;obtain⟨u2,us2,q4,q5,q6⟩:=q3
   cases q4
   split at h
   ·rename_i hs;obtain⟨r1,r2⟩:=zh hk hs q2
    cases h;exact .inr ⟨i,v,e,rfl,Nat.le_refl _,by simp,r2 rfl,q5,by simp[Instr.findNow,r1]⟩
   ·rename_i hs;obtain⟨r1,_⟩:=zh hk hs q2;rcases kQ hk h3 h with ⟨p1,p2⟩|⟨j,x,e',p1,p2,p3,p4,p5,p6⟩
    ·exact .inl ⟨p1,by simp[Instr.findNow,r1,p2]⟩
    ·refine .inr ⟨j,x,e',p1,by omega,?_,p4,p5,by simp[Instr.findNow,r1,p6]⟩;rw[show j - i=(j - (i+1))+1 by omega];simpa using p3
   ·cases h
  ·cases h
theorem MN{kt:Nat}{ki:TI}{dk:D}{kf:F}{u:Value}(ht:TOk P kt ki)(h1:CL ki dk=true)(h2:D3 dk=some kf)(hd:D.rep c dk u):kf=.vl u∧∃desc,P.underlying kt=some desc∧MapKept.IsKey desc u:=by
 have hkk:=ht.k;unfold CL at h1
 split at h1
 ·rename_i k1 k2 m hk;have:=zx h1;subst this;have hu:=aH hd;simp only[D3] at h2
  cases h2;rw[hk] at hkk;simp only at hkk;exact⟨by rw[hu],_,hkk.eq,by rw[hu];rfl⟩
 ·rename_i s1 hk;have hu:=aH hd;simp only[D3] at h2
  cases h2;rw[hk] at hkk;simp only at hkk;exact⟨by rw[hu],_,hkk.eq,by rw[hu];trivial⟩
 ·cases h1
section
variable (hE:∀t i,E t=some i→TOk P t i) (hp:Hp c O η w) (hold:Old W c O w) {d:D} {rd:List Nat} {e:List (Nat×B)} (hk:k d rd e)
include hE hp hold hk
theorem DS{x y:Operand}{t':Nat}{dx dy:D}(ho:o.op=.index t' x y)(hx:D.rep c dx (a.eval x))(hy:D.rep c dy (a.eval y))(h:lP (alO _) E t' dx dy (fun d rd e=>some (d,rd,e))=some (d,rd,e)):aw P o a w (Res W η c k):=by
 unfold lP at h
 split at h
 ·rename_i sz0 z0 len el sz hi;obtain⟨ik,i,rfl,h⟩:=xz h;have hyv:=aH hy;have ht:=((hE _ _ hi).k).1;obtain⟨inf,g1,g2⟩:=ht.info
  split at h
  ·rename_i ie hie
   cases hst:rT ie.k
   rotate_left
   ·rw[hst] at h;obtain⟨h0,h⟩:=bX h;simp only[Bool.and_eq_true] at h0;obtain⟨⟨⟨⟨h1,h2⟩,h3⟩,h4⟩,h5⟩:=h0;have h2:=bD h2;have h3:=Nat.eq_of_beq_eq_true h3;have h4:=bD h4;have h5:=Nat.le_of_ble_eq_true h5;obtain⟨rfl,rfl,rfl⟩:=eg h;have hcells:∃vs:List Value,a.eval x=.agg vs.toArray∧D.ah c dx.cells vs:=by
     cases dx with
     | ag cs=>unfold D.rep at hx;exact hx
     | fr f=>
      cases f with
      | ag cs=>unfold D.rep F.rep at hx;obtain⟨vs,q1,q2⟩:=hx;exact⟨vs,q1,D.eL q2⟩
      | _=>simp[jy] at h1
     | _=>simp[jy] at h1
    obtain⟨vs,hxv,hvs⟩:=hcells;have hagg:ie.k.agg=true:=yA hst;have hag:=Fv ((hE _ _ hie).ldA hagg) (by omega) w;have e:vs.toArray.extract (i * sz) (i * sz+sz)=((vs.drop (i * sz)).take sz).toArray:=by
     apply Array.ext';simp[List.extract_eq_take_drop]
    refine aw.av (v:=.agg ((vs.drop (i * sz)).take sz).toArray) ?_ (Res.val hk (by unfold D.rep;exact⟨_,rfl,D.cX _ (D.cW _ hvs)⟩) hp hold);simp[execOp,ho,hxv,hyv,Instr.index,asIntOf,run_underlying ht.und,part,hag,sizeOf,typeInfo,g1,g2,h2,e]
   rw[hst] at h;obtain⟨h0,h⟩:=bX h;rw[Bool.and_eq_true,Bool.and_eq_true] at h0;obtain⟨⟨h1,h2⟩,h3⟩:=h0;have h2:=bD h2;obtain⟨q,hq,h⟩:=Mq h;obtain⟨rfl,rfl,rfl⟩:=eg h;have hcells:∃vs:List Value,a.eval x=.agg vs.toArray∧D.ah c dx.cells vs:=by
    cases dx with
    | ag cs=>unfold D.rep at hx;exact hx
    | fr f=>
     cases f with
     | ag cs=>unfold D.rep F.rep at hx;obtain⟨vs,q1,q2⟩:=hx;exact⟨vs,q1,D.eL q2⟩
     | _=>simp[jy] at h1
    | _=>simp[jy] at h1
   obtain⟨vs,hxv,hvs⟩:=hcells;obtain⟨u,hu,hqu⟩:=D.bT hvs hq;have hag:(isAgg el).run P w=.ok false w:=by
    have hkk:=(hE _ _ hie).k
    revert hkk h3
    cases ie.k
    case fn=>
     intro _ ⟨q1,q2,q3,hkk⟩;simp[isAgg,run_underlying hkk.eq]
    all_goals simp[F5,isAgg]
    all_goals intro hkk
    all_goals simp[run_underlying hkk.eq]
   refine aw.av (v:=u) ?_ (Res.val hk hqu hp hold);simp[execOp,ho,hxv,hyv,Instr.index,asIntOf,run_underlying ht.und,part,hag,sizeOf,typeInfo,g1,g2,h2,hu]
  ·exact(bI h).elim
 ·exact(bI h).elim
theorem wF{f:FuncId}{fst cap:Array Operand}(hρ:∀x d,ρ x=some d→D.rep c d (a.eval x))(ho:o.op=.makeFunc (.func f) fst cap)(h:opX Q E η t ρ (.makeFunc (.func f) fst cap)=some (d,rd,e)):aw P o a w (Res W η c k):=by
 unfold opX nk at h;dsimp only at h
 split at h
 ·exact(bI h).elim
 ·rename_i f1 fr hf
  split at h
  ·rename_i l m hl hm;obtain⟨rfl,rfl,rfl⟩:=eg h;have hl:=jX hρ hl;have hm:=jX hρ hm;refine aw.av (v:=.func (.func f) (fst.toList.map a.eval).toArray (cap.toList.map a.eval).toArray) ?_ (Res.val hk (by unfold D.rep;exact⟨_,_,rfl,by rw[hf];exact hl,hm⟩) hp hold);simp[execOp,ho,Instr.makeFunc,←Array.toList_map]
  ·exact(bI h).elim
theorem ID{op:BinOp}{ty ty2:Nat}{x y:Operand}{dx dy:D}(hQ:∀t,Q t=true→FEq P t)(ho:o.op=.binOp op ty x y ty2)(hx:D.rep c dx (a.eval x))(hy:D.rep c dy (a.eval y))(h:uR (alO _) Q E op ty dx dy (fun d rd e=>some (d,rd,e))=some (d,rd,e)):aw P o a w (Res W η c k):=by
 have fin:∀{r:Option Bool},mN (alO _) op r (fun d rd e=>some (d,rd,e))=some (d,rd,e)→∃b,r=some b∧rd=[]∧e=[]∧((op=.eql∧d=Bo b)∨(op=.neq∧d=Bo (!b))):=by
  intro r h;unfold mN at h
  split at h
  ·rename_i b _;obtain⟨rfl,rfl,rfl⟩:=eg h;exact⟨b,rfl,rfl,rfl,.inl ⟨rfl,rfl⟩⟩
  ·rename_i b _;obtain⟨rfl,rfl,rfl⟩:=eg h;exact⟨b,rfl,rfl,rfl,.inr ⟨rfl,rfl⟩⟩
  ·exact(bI h).elim
 have run:∀{b:Bool},rd=[]→e=[]→((op=.eql∧d=Bo b)∨(op=.neq∧d=Bo (!b)))→(eqGuard op ty x y (a.eval x) (a.eval y)).run P w=.ok () w→(Op.equal ty (a.eval x) (a.eval y)).run P w=.ok b w→
   (binOp .eql ty (a.eval x) (a.eval y)=(do pure (.bool (←Op.equal ty (a.eval x) (a.eval y))))∧binOp .neq ty (a.eval x) (a.eval y)=(do pure (.bool !(←Op.equal ty (a.eval x) (a.eval y)))))→aw P o a w (Res W η c k):=by
  rintro b rfl rfl hd h1 h2 ⟨h3,h4⟩
  rcases hd with ⟨rfl,rfl⟩|⟨rfl,rfl⟩
  ·refine aw.av (v:=.bool b) ?_ (Res.val hk (aV _) hp hold);simp[execOp,ho,h1,h3,h2]
  ·refine aw.av (v:=.bool (!b)) ?_ (Res.val hk (aV _) hp hold);simp[execOp,ho,h1,h4,h2]
 unfold uR at h
 split at h
 ·rename_i sz0 z0 hi;obtain⟨b,hb,hrd,he,hd⟩:=fin h;have ht:=(hE _ _ hi).k;simp only at ht;obtain⟨p1,p2,p3,ht⟩:=ht;have key:∀{z:D} {u:Value} {q:Bool},wH z=some q→D.rep c z u→(q=true∧u=.nilFunc)∨(q=false∧∃f l m,u=.func f l m):=by
   intro z u q hz hu;unfold wH at hz
   split at hz<;>cases hz
   ·exact .inl ⟨rfl,aH hu⟩
   ·unfold D.rep at hu;obtain⟨vs,rfl,_⟩:=hu;exact .inr ⟨rfl,_,_,_,rfl⟩
   ·unfold D.rep F.rep at hu;obtain⟨vs,rfl,_⟩:=hu;exact .inr ⟨rfl,_,_,_,rfl⟩
   ·unfold D.rep at hu;obtain⟨us,vs,rfl,_⟩:=hu;exact .inr ⟨rfl,_,_,_,rfl⟩
   ·unfold D.rep at hu;obtain⟨g,_,rfl⟩:=hu;exact .inr ⟨rfl,_,_,_,rfl⟩
  have eq:∀(u v:Value) (q:Bool),((u=.nilFunc∧v=.nilFunc∧q=true)∨(u=.nilFunc∧(∃f l m,v=.func f l m)∧q=false)∨(v=.nilFunc∧(∃f l m,u=.func f l m)∧q=false))→(Op.equal ty u v).run P w=.ok q w∧(eqGuard op ty x y u v).run P w=.ok () w∧
    (binOp .eql ty u v=(do pure (.bool (←Op.equal ty u v)))∧binOp .neq ty u v=(do pure (.bool !(←Op.equal ty u v)))):=by
   intro u v q h;rcases h with ⟨rfl,rfl,rfl⟩|⟨rfl,⟨f,l,m,rfl⟩,rfl⟩|⟨rfl,⟨f,l,m,rfl⟩,rfl⟩
   all_goals
    refine⟨?_,?_,rfl,rfl⟩
    ·show(Op.equalIn (9999+1) ty _ _).run P w=_
     rw[Op.equalIn];simp[run_underlying ht.eq]
    ·unfold eqGuard
     cases op<;>simp
  unfold IU at hb
  cases h1:isT (wH dy) with
  | true=>
   rw[h1] at hb;simp only[cond_true] at hb;have h1':wH dy=some true:=by
    revert h1;cases wH dy with
    | none=>simp[isT]
    | some q=>cases q<;>simp[isT]
   rcases key h1' hy with ⟨_,hyv⟩|⟨h0,_⟩
   ·rcases key hb hx with ⟨rfl,hxv⟩|⟨rfl,f,l,m,hxv⟩
    ·obtain⟨r1,r2,r3⟩:=eq (a.eval x) (a.eval y) true (.inl ⟨hxv,hyv,rfl⟩);exact run hrd he hd r2 r1 r3
    ·obtain⟨r1,r2,r3⟩:=eq (a.eval x) (a.eval y) false (.inr (.inr ⟨hyv,⟨f,l,m,hxv⟩,rfl⟩));exact run hrd he hd r2 r1 r3
   ·cases h0
  | false=>
   rw[h1] at hb;simp only[cond_false] at hb
   cases h2:isT (wH dx) with
   | false=>rw[h2] at hb;cases hb
   | true=>
    rw[h2] at hb;simp only[cond_true] at hb;have h2':wH dx=some true:=by
     revert h2;cases wH dx with
     | none=>simp[isT]
     | some q=>cases q<;>simp[isT]
    rcases key h2' hx with ⟨_,hxv⟩|⟨h0,_⟩
    ·rcases key hb hy with ⟨rfl,hyv⟩|⟨rfl,f,l,m,hyv⟩
     ·obtain⟨r1,r2,r3⟩:=eq (a.eval x) (a.eval y) true (.inl ⟨hxv,hyv,rfl⟩);exact run hrd he hd r2 r1 r3
     ·obtain⟨r1,r2,r3⟩:=eq (a.eval x) (a.eval y) false (.inr (.inl ⟨hxv,⟨f,l,m,hyv⟩,rfl⟩));exact run hrd he hd r2 r1 r3
    ·cases h0
 ·rename_i sz0 z0 hi;obtain⟨b,hb,hrd,he,hd⟩:=fin h;have ht:=(hE _ _ hi).k;simp only at ht;obtain⟨p1,p2,ht,hsz,hpos⟩:=ht;have key:∀{z:D} {u:Value} {q:Bool},wI z=some q→D.rep c z u→(q=true∧u=.pointer none)∨(q=false∧∃A,u=.pointer (some A)):=by
   intro z u q hz hu;unfold wI at hz
   split at hz<;>cases hz
   ·exact .inl ⟨rfl,aH hu⟩
   ·unfold D.rep at hu;obtain⟨g,_,rfl⟩:=hu;exact .inr ⟨rfl,_,rfl⟩
   ·unfold D.rep at hu;obtain⟨A,m,k',_,rfl⟩:=hu;exact .inr ⟨rfl,_,rfl⟩
   ·unfold D.rep F.rep at hu;obtain⟨A,vr,rfl,_⟩:=hu;exact .inr ⟨rfl,_,rfl⟩
  have eq:∀(u v:Value) (q:Bool),((u=.pointer none∧v=.pointer none∧q=true)∨(u=.pointer none∧(∃A,v=.pointer (some A))∧q=false)∨(v=.pointer none∧(∃A,u=.pointer (some A))∧q=false))→(Op.equal ty u v).run P w=.ok q w∧(eqGuard op ty x y u v).run P w=.ok () w∧
    (binOp .eql ty u v=(do pure (.bool (←Op.equal ty u v)))∧binOp .neq ty u v=(do pure (.bool !(←Op.equal ty u v)))):=by
   intro u v q h;rcases h with ⟨rfl,rfl,rfl⟩|⟨rfl,⟨A,rfl⟩,rfl⟩|⟨rfl,⟨A,rfl⟩,rfl⟩
   all_goals
    refine⟨?_,?_,rfl,rfl⟩
    ·show(Op.equalIn (9999+1) ty _ _).run P w=_
     rw[Op.equalIn];simp[run_underlying ht.eq]
    ·unfold eqGuard
     cases op<;>simp
  unfold IU at hb
  cases h1:isT (wI dy) with
  | true=>
   rw[h1] at hb;simp only[cond_true] at hb;have h1':wI dy=some true:=by
    revert h1;cases wI dy with
    | none=>simp[isT]
    | some q=>cases q<;>simp[isT]
   rcases key h1' hy with ⟨_,hyv⟩|⟨h0,_⟩
   ·rcases key hb hx with ⟨rfl,hxv⟩|⟨rfl,A,hxv⟩
    ·obtain⟨r1,r2,r3⟩:=eq (a.eval x) (a.eval y) true (.inl ⟨hxv,hyv,rfl⟩);exact run hrd he hd r2 r1 r3
    ·obtain⟨r1,r2,r3⟩:=eq (a.eval x) (a.eval y) false (.inr (.inr ⟨hyv,⟨A,hxv⟩,rfl⟩));exact run hrd he hd r2 r1 r3
   ·cases h0
  | false=>
   rw[h1] at hb;simp only[cond_false] at hb
   cases h2:isT (wI dx) with
   | false=>rw[h2] at hb;cases hb
   | true=>
    rw[h2] at hb;simp only[cond_true] at hb;have h2':wI dx=some true:=by
     revert h2;cases wI dx with
     | none=>simp[isT]
     | some q=>cases q<;>simp[isT]
    rcases key h2' hx with ⟨_,hxv⟩|⟨h0,_⟩
    ·rcases key hb hy with ⟨rfl,hyv⟩|⟨rfl,A,hyv⟩
     ·obtain⟨r1,r2,r3⟩:=eq (a.eval x) (a.eval y) true (.inl ⟨hxv,hyv,rfl⟩);exact run hrd he hd r2 r1 r3
     ·obtain⟨r1,r2,r3⟩:=eq (a.eval x) (a.eval y) false (.inr (.inl ⟨hxv,⟨A,hyv⟩,rfl⟩));exact run hrd he hd r2 r1 r3
    ·cases h0
 ·rename_i sz0 z0 e0 s0 b0 hi;have ht:=(hE _ _ hi).k;simp only at ht;obtain⟨z,ht⟩:=ht;have eq:∀(u:Value) (q:Bool),((u=.slice none 0 0∧q=true)∨((∃A n m,u=.slice (some A) n m)∧q=false))→(Op.equal ty u (.slice none 0 0)).run P w=.ok q w∧(eqGuard op ty x y u (.slice none 0 0)).run P w=.ok () w∧
    (binOp .eql ty u (.slice none 0 0)=(do pure (.bool (←Op.equal ty u (.slice none 0 0))))∧binOp .neq ty u (.slice none 0 0)=(do pure (.bool !(←Op.equal ty u (.slice none 0 0))))):=by
   intro u q h;rcases h with ⟨rfl,rfl⟩|⟨⟨A,n,m,rfl⟩,rfl⟩
   all_goals
    refine⟨?_,?_,rfl,rfl⟩
    ·show(Op.equalIn (9999+1) ty _ _).run P w=_
     rw[Op.equalIn];simp[run_underlying ht.und]
    ·unfold eqGuard
     cases op<;>simp
  split at h
  ·rename_i rows;obtain⟨h0,h⟩:=bX h;obtain⟨b,hb,hrd,he,hd⟩:=fin h
   cases hb;have hyv:=aH hy;unfold D.rep F.rep at hx;obtain⟨A,cp,vr,sz,hxv,_,har,_⟩:=hx;have hpos:0<rows.length:=Nat.le_of_ble_eq_true h0;obtain⟨A',rfl,_⟩:=har.2.2 hpos;obtain⟨r1,r2,r3⟩:=eq (a.eval x) false (.inr ⟨⟨_,_,_,hxv⟩,rfl⟩);rw[←hyv] at r1 r2 r3;exact run hrd he hd r2 r1 r3
  ·obtain⟨b,hb,hrd,he,hd⟩:=fin h
   cases hb;have hyv:=aH hy;have hxv:=aH hx;obtain⟨r1,r2,r3⟩:=eq (a.eval x) true (.inl ⟨hxv,rfl⟩);rw[←hyv] at r1 r2 r3;exact run hrd he hd r2 r1 r3
  ·exact(bI h).elim
 ·rename_i i _ _ _ hi;obtain⟨h0,h⟩:=bX h;obtain⟨b,hb,hrd,he,hd⟩:=fin h;simp only[Bool.and_eq_true] at h0;obtain⟨⟨⟨⟨q1,q2⟩,q3⟩,q4⟩,q5⟩:=h0;have agx:∀{z:D} {u:Value},jy z=true→D.rep c z u→∃vs:List Value,u=.agg vs.toArray∧D.ah c z.cells vs:=by
   intro z u hz hu
   cases z with
   | ag cs=>unfold D.rep at hu;exact hu
   | fr f=>
    cases f with
    | ag cs=>unfold D.rep F.rep at hu;obtain⟨vs,q1,q2⟩:=hu;exact⟨vs,q1,D.eL q2⟩
    | _=>simp[jy] at hz
   | _=>simp[jy] at hz
  obtain⟨vs,hxv,hvs⟩:=agx q2 hx;obtain⟨us,hyv,hus⟩:=agx q3 hy;obtain⟨inf,hinf,hsz⟩:=(hE _ _ hi).sz.info;obtain⟨r1,r2⟩:=hQ ty q1 inf hinf w _ _ _ _ c b (by rw[hsz];exact Nat.eq_of_beq_eq_true q4) hb hvs hus;refine run hrd he hd ?_ (by rw[hxv,hyv];exact r1) ?_
  ·rw[hxv,hyv];exact run_eqGuard_agg w _ _ _ _ _ _ r2
  ·rw[hxv,hyv];exact⟨rfl,rfl⟩
 ·exact(bI h).elim
theorem I0{x:Operand}{t':Nat}{dx:D}(ho:o.op=.call ⟨.builtin .len,#[x],#[t']⟩)(hx:D.rep c dx (a.eval x))(h:oR (alO _) E η t' dx (fun d rd e=>some (d,rd,e))=some (d,rd,e)):aw P o a w (Res W η c k):=by
 unfold oR at h
 split at h
 ·rename_i sz0 z0 el sz by_ hi;have hkk:=(hE _ _ hi).k;simp only at hkk;obtain⟨zv,ht⟩:=hkk
  split at h
  ·rename_i b v sz' lo hi' ex;obtain⟨rfl,rfl,rfl⟩:=eg h;unfold D.rep at hx;obtain⟨A,m,k',h1,h2,h3,h4,A',hxv,_⟩:=hx;refine aw.av (v:=.int .i64 ((hi' - lo:Nat):Int)) ?_ (Res.val hk (aV _) hp hold);simp[execOp,ho,resolve,hxv,invoke,builtin,Builtin.len_,run_underlying ht.und,goInt]
  ·rename_i rows;obtain⟨rfl,rfl,rfl⟩:=eg h;unfold D.rep at hx;obtain⟨A,vr,sz',hxv,_⟩:=hx;refine aw.av (v:=.int .i64 (rows.length:Int)) ?_ (Res.val hk (aV _) hp hold);simp[execOp,ho,resolve,hxv,invoke,builtin,Builtin.len_,run_underlying ht.und,goInt]
  ·exact(bI h).elim
 ·rename_i sz0 z0 kt et hi;have ht:=(hE _ _ hi).k;simp only at ht
  split at h
  ·rename_i b v
   split at h
   ·rename_i v' rows hb;obtain⟨hv,h2⟩:=bX h;clear h;have hv:=Nat.eq_of_beq_eq_true hv;subst hv;obtain⟨rfl,rfl,rfl⟩:=eg h2;unfold D.rep at hx;obtain⟨g,hg,hxv⟩:=hx;obtain⟨g',es,ck,hg',hS,hw,hrep⟩:=hp.pc b _ hb;rw[hg] at hg'
    cases hg';have hlen:=F.iU hrep;simp at hlen;refine aw.av (v:=.int .i64 (rows.length:Int)) ?_ (Res.val hk (aV _) hp hold);simp[execOp,ho,resolve,hxv,invoke,builtin,Builtin.len_,run_underlying ht.eq,goInt,MapKept.run_getObj_map hw,hlen]
   ·exact(bI h).elim
  ·rename_i rows;obtain⟨rfl,rfl,rfl⟩:=eg h;unfold D.rep F.rep at hx;obtain⟨g,es,ck,hxv,hz,hw,hrep⟩:=hx;have hlen:=F.iU hrep;simp at hlen;have hw':=(hp.fz g hz).2.1.trans hw;refine aw.av (v:=.int .i64 (rows.length:Int)) ?_ (Res.val hk (aV _) hp hold);simp[execOp,ho,resolve,hxv,invoke,builtin,Builtin.len_,run_underlying ht.eq,goInt,MapKept.run_getObj_map hw',hlen]
  ·exact(bI h).elim
 ·exact(bI h).elim
theorem uE{x y:Operand}{t':Nat}{dx dy:D}(ho:o.op=.indexAddr t' x y)(hx:D.rep c dx (a.eval x))(hy:D.rep c dy (a.eval y))(h:cL (alO _) E η t' dx dy (fun d rd e=>some (d,rd,e))=some (d,rd,e)):aw P o a w (Res W η c k):=by
 unfold cL at h
 split at h
 ·rename_i sz0 z0 el sz by_ hi;have hkk:=(hE _ _ hi).k;simp only at hkk;obtain⟨z,ht⟩:=hkk;obtain⟨inf,g1,g2,g3,g4⟩:=ht.info;obtain⟨ik,i,rfl,hh⟩:=xz h;clear h;have hyv:=aH hy
  split at hh
  ·rename_i b v sz' lo hi' ex
   split at hh
   ·rename_i v' e' sz1 rows hb;obtain⟨h0,h2⟩:=bX hh;clear hh;rw[Bool.and_eq_true,Bool.and_eq_true,Bool.and_eq_true] at h0;obtain⟨⟨⟨q1,q2⟩,q3⟩,q4⟩:=h0;have q1:=Nat.eq_of_beq_eq_true q1;have q2:=Nat.eq_of_beq_eq_true q2;have q3:=Nat.eq_of_beq_eq_true q3;have q4:=bD q4;subst q1;subst q2;subst q3;obtain⟨rfl,rfl,rfl⟩:=eg h2;clear h2;unfold D.rep at hx;obtain⟨A,m,k',hA,h1,h2,h3,A2,hxv,hA2⟩:=hx;obtain⟨A',k2,vr,hA',hvr,hone,hown⟩:=hp.pc b _ hb;rw[hA] at hA'
    cases hA';have hs:=(own.arr hown).some_ (by omega)
    cases A with
    | none=>simp at hs
    | some A=>
     have hA2:=hA2 (.inr (by cases ex<;>simp<;>omega));subst hA2;refine aw.av (v:=.pointer (some (A.add ((lo+i) * sz)))) ?_ (Res.val hk (by unfold D.rep;exact⟨A,_,k',hA,by simp⟩) hp hold);simp[execOp,ho,hxv,hyv,Instr.indexAt,asIntOf,run_underlying ht.und,sizeOf,typeInfo,g1,g3,q4,add_add,Nat.add_mul]
   ·exact(bI hh).elim
  ·rename_i rows;obtain⟨r,hr,h⟩:=Mq hh;obtain⟨hrl,h⟩:=bX h;have hrl:=Nat.eq_of_beq_eq_true hrl;obtain⟨rfl,rfl,rfl⟩:=eg h;have hlt:i<rows.length:=(List.getElem?_eq_some_iff.1 hr).1;unfold D.rep at hx;obtain⟨A,vr,sz',hxv,harr,hone,hvr⟩:=hx;obtain⟨rv,hrv,hrr⟩:=F.eR hvr hr;have hszz:sz'=sz:=by
    rw[←hrl,←F.aW hrr];exact(harr.2.1 rv (List.mem_of_getElem? hrv)).symm
   subst hszz;have hs:=harr.some_ (by omega)
   cases A with
   | none=>simp at hs
   | some A=>
    refine aw.av (v:=.pointer (some (A.add (i * sz')))) ?_ (Res.val hk (by unfold D.rep F.rep;exact⟨A,vr,by simp,harr,hone,hvr⟩) hp hold);simp[execOp,ho,hxv,hyv,Instr.indexAt,asIntOf,run_underlying ht.und,sizeOf,typeInfo,g1,g3,hlt]
  ·exact(bI hh).elim
 ·exact(bI h).elim
theorem EN{x:Operand}{t':Nat}{lo hi mx:Option Operand}{dx:D}(hρ:∀x d,ρ x=some d→D.rep c d (a.eval x))(ho:o.op=.slice t' x lo hi mx)(hx:D.rep c dx (a.eval x))(h:gC (alO _) E η t' dx (dV ρ lo) (dV ρ hi) (dV ρ mx) (fun d rd e=>some (d,rd,e))=some (d,rd,e)):aw P o a w (Res W η c k):=by
 unfold gC at h
 split at h
 ·rename_i sz0 z0 el sz by_ hi0;have hkk:=(hE _ _ hi0).k;simp only at hkk;obtain⟨z,ht⟩:=hkk
  split at h
  ·rename_i b v
   split at h
   ·rename_i v' e' sz' rows hb;obtain⟨h0,h2⟩:=bX h;clear h;obtain⟨q1,q2⟩:=uv h0;subst q1;subst q2;obtain⟨l,hh,ex,h,h3,h4,hc⟩:=GC hρ h2;obtain⟨rfl,rfl,rfl⟩:=eg h;unfold D.rep at hx;obtain⟨A,m,k',hA,hxv⟩:=hx;obtain⟨A',k2,vr,hA',hvr,hone,hown⟩:=hp.pc b _ hb;rw[hA] at hA'
    cases hA';have hcap:=rL hown;obtain⟨A2,hrun,hA2,hA3⟩:=oF (P:=P) (w:=w) ht ho hxv hc h3 h4 hcap;refine aw.av hrun (Res.val hk ?_ hp hold);unfold D.rep;exact⟨A,_,k',hA,h3,h4,hcap,A2,rfl,hA2⟩
   ·exact(bI h).elim
  ·rename_i b v sz' lo0 hi1 ex0;obtain⟨h0,h2⟩:=bX h;clear h;have h0:=Nat.eq_of_beq_eq_true h0;subst h0;obtain⟨l,hh,ex,h,h3,h4,hc⟩:=GC hρ h2;obtain⟨h5,h⟩:=bX h;obtain⟨rfl,rfl,rfl⟩:=eg h;unfold D.rep at hx;obtain⟨A,m,k',hA,r1,r2,r3,A1,hxv,hA1⟩:=hx;have hcap:hi1 - lo0≤(bif ex0 then hi1 - lo0 else k' - lo0):=by cases ex0<;>simp;omega
   obtain⟨A2,hrun,hA2,hA3⟩:=oF (P:=P) (w:=w) ht ho hxv hc h3 h4 hcap;refine aw.av hrun (Res.val hk ?_ hp hold);unfold D.rep;refine⟨A,m,k',hA,by omega,by omega,r3,A2,?_,fun hlt=>?_⟩
   ·congr 1
    ·omega
    ·cases ex<;>cases ex0<;>simp at h5 ⊢<;>omega
   ·have g12:(l=0∨l<(bif ex then hh else bif ex0 then hi1 - lo0 else k' - lo0))∧(lo0=0∨lo0<(bif ex0 then hi1 else k')):=by
     rcases hlt with hlt|hlt
     ·exact⟨.inl (by omega),.inl (by omega)⟩
     ·have g1:l<(bif ex then hh else bif ex0 then hi1 - lo0 else k' - lo0):=by
       cases ex<;>cases ex0<;>simp at h5 hlt ⊢<;>omega
      exact⟨.inr g1,.inr (by cases ex<;>cases ex0<;>simp at h5 hlt g1 ⊢<;>omega)⟩
    rw[hA2 g12.1,hA1 g12.2,Option.map_map]
    congr 1
    funext q
    simp[add_add,Nat.add_mul]
  ·rename_i rows;obtain⟨l,hh,ex,h,h3,h4,hc⟩:=GC hρ h;obtain⟨h5,h⟩:=bX h;obtain⟨rfl,rfl,rfl⟩:=eg h;rw[Bool.and_eq_true] at h5;unfold D.rep at hx;obtain⟨A,vr,sz',hxv,harr,hone,hvr⟩:=hx;obtain⟨A2,hrun,hA2,hA3⟩:=oF (P:=P) (w:=w) ht ho hxv hc h3 h4 (Nat.le_refl _);have harr:=ny harr hvr (je h5.2);refine aw.av hrun (Res.val hk ?_ hp hold);unfold D.rep;have hl:((rows.take hh).drop l).length=hh - l:=by rw[List.length_drop,List.length_take,Nat.min_eq_left h4]
   refine⟨A2,(vr.take hh).drop l,sz,?_,?_,fun r hr=>hone r (List.mem_of_mem_take (List.mem_of_mem_drop hr)),F.dL _ (F.cT _ hvr)⟩
   ·rw[hl]
    congr 1
    have h6:=h5.1
    cases ex<;>simp at h6 ⊢<;>omega
   ·rw[hl];exact Arr.vJ harr h3 h4 (fun hlt=>hA2 (.inr (by cases ex<;>simp<;>omega)))
  ·rename_i rows;obtain⟨l,hh,ex,h,h3,h4,hc⟩:=GC hρ h;obtain⟨h5,h⟩:=bX h;obtain⟨rfl,rfl,rfl⟩:=eg h;rw[Bool.and_eq_true] at h5;unfold D.rep F.rep at hx;obtain⟨A,c',vr,sz',hxv,hcap,harr,hone,hvr⟩:=hx;obtain⟨A2,hrun,hA2,hA3⟩:=oF (P:=P) (w:=w) ht ho hxv hc h3 h4 hcap;have harr:=ny harr hvr (je h5.2);have h6:=h5.1;subst h6;refine aw.av hrun (Res.val hk ?_ hp hold);unfold D.rep;have hl:((rows.take hh).drop l).length=hh - l:=by rw[List.length_drop,List.length_take,Nat.min_eq_left h4]
   refine⟨A2,(vr.take hh).drop l,sz,?_,?_,fun r hr=>hone r (List.mem_of_mem_take (List.mem_of_mem_drop hr)),F.dL _ (F.cT _ hvr)⟩
   ·rw[hl];rfl
   ·rw[hl];exact Arr.vJ harr h3 h4 (fun hlt=>hA2 (.inr (by simp;omega)))
  ·obtain⟨l,hh,ex,h,h3,h4,hc⟩:=GC hρ h;obtain⟨rfl,rfl,rfl⟩:=eg h;have hxv:=aH hx;obtain⟨A2,hrun,hA2,hA3⟩:=oF (P:=P) (w:=w) ht ho hxv hc h3 h4 (Nat.le_refl _);refine aw.av hrun (Res.val hk ?_ hp hold);rw[hA3 rfl,show hh - l=0 by omega];unfold D.rep F.rep
   cases ex<;>simp
  ·exact(bI h).elim
 ·exact(bI h).elim
theorem An{x y:Operand}{t':Nat}{dx dy:D}(ho:o.op=.call ⟨.builtin .append,#[x,y],#[t',t']⟩)(hx:D.rep c dx (a.eval x))(hy:D.rep c dy (a.eval y))(h:eZ (alO _) E η t t' dx dy (fun d rd e=>some (d,rd,e))=some (d,rd,e)):aw P o a w (Res W η c k):=by
 unfold eZ at h
 split at h
 ·rename_i sz0 z0 el sz by_ news rd0 hi hsrc;have hkk:=(hE _ _ hi).k;simp only at hkk;obtain⟨zv,ht⟩:=hkk;obtain⟨h0,h1⟩:=bX h;clear h;obtain⟨A',c',nr,hyv,harr,hnr,hno⟩:=Cw (sz:=sz) hp hy hsrc (je h0);have grow:∀(b v:Nat) (rows:List (List F)) (A:Option Addr) (m c0:Nat) (v0:Nat) (vr:List (List Value)) (e0:Nat) (rows0:List (List F)),η b=some (.ro v e0 sz rows0)→a.eval x=.slice A m c0→m=rows.length→F.aG c.Z c.R rows vr→(∀r∈vr,bZ r=true)→(own el sz A m c0 vr).on (O b) w→
    rows.length+news.length≤maxLen→(rows.length+news.length) * by_≤140737488355328→k (.own b (v+1)) rd [(b,.ro (v+1) el sz (rows++news))]→aw P o a w (Res W η c k):=by
   intro b v rows A m c0 v0 vr e0 rows0 hb hxv hm hvr hone hown h63 hby hk';subst hm;obtain⟨A2,c2,w',S',hrun,hc,hsub,hown'⟩:=gT (P:=P) (ty:=o.type) (c':=c') ht hown harr hno h63 hby;have hnv:nv η b=v+1:=by unfold nv;rw[hb];rfl
   have hfr:=hp.fresh b;have hle:c.le (c.add b (nv η b) (A2,rows.length+news.length,c2)):=Cf.eT hfr;refine aw.av (v:=.slice A2 (rows.length+news.length) c2) (w':=w') ?_ ⟨_,_,_,_,_,hk',hle,?_,hp.upd hc hsub hle rfl rfl (hp.cF (by rw[hnv];rfl)) ⟨A2,c2,vr++nr,?_,F.aG.ext hle.ext _ _ (F.fV hvr hnr),?_,?_⟩,hold.upd hc hsub rfl rfl⟩
   ·simp[execOp,ho,resolve,hxv,hyv,invoke,builtin,hrun]
   ·unfold D.rep;exact⟨A2,_,c2,by rw[←hnv];exact Cf.cY,rfl⟩
   ·rw[←hnv,List.length_append];exact Cf.cY
   ·intro r hr;rcases List.mem_append.1 hr with hr|hr
    ·exact hone r hr
    ·exact hno r hr
   ·rw[List.length_append];exact hown'
  split at h1
  ·rename_i b v
   split at h1
   ·rename_i v' e' sz' rows hb;obtain⟨q,h2⟩:=bX h1;clear h1;simp only[Bool.and_eq_true] at q;obtain⟨⟨⟨⟨q1,q2⟩,q3⟩,q4⟩,q5⟩:=q;have q1:=Nat.eq_of_beq_eq_true q1;have q2:=Nat.eq_of_beq_eq_true q2;have q3:=Nat.eq_of_beq_eq_true q3;have q4:=Nat.le_of_ble_eq_true q4;have q5:=Nat.le_of_ble_eq_true q5;subst q1;subst q2;subst q3;obtain⟨rfl,rfl,rfl⟩:=eg h2;unfold D.rep at hx;obtain⟨A,m,k',hA,hxv⟩:=hx;obtain⟨A0,k2,vr,hA',hvr,hone,hown⟩:=hp.pc b _ hb;rw[hA] at hA'
    cases hA';exact grow b v rows A _ k' v vr _ _ hb hxv rfl hvr hone hown q4 q5 hk
   ·exact(bI h1).elim
  ·obtain⟨q,h2⟩:=bX h1;clear h1;simp only[Bool.and_eq_true] at q;have q4:=Nat.le_of_ble_eq_true q.1;have q5:=Nat.le_of_ble_eq_true q.2;obtain⟨rfl,rfl,rfl⟩:=eg h2;have hxv:=aH hx;have hon:(own el sz none 0 0 []).on (fun _=>False) w:=⟨World.ownsRow_nil w 0 el sz,rfl,by simp,fun g hg=>by simp[Value.ownBlock] at hg⟩
   obtain⟨A2,c2,w',S',hrun,hc,hsub,hown'⟩:=gT (P:=P) (ty:=o.type) (c':=c') ht hon harr hno (by omega) (by simpa using q5);rw[Nat.zero_add] at hrun hown';rw[List.nil_append] at hown';have hst:Sl.St w [own el sz A2 news.length c2 nr] w':=by
    refine⟨⟨hc.os,hc.tape,hc.output,hc.size,fun g hg=>hc.block g hg (fun h=>h)⟩,S',fun g hg=>?_,hown',trivial⟩;rcases hsub g hg with h|h
    ·exact h.elim
    ·exact h
   refine aw.av (v:=.slice A2 news.length c2) (w':=w') ?_ (Res.s4 hp hold hst rfl hnr hno hk);simp[execOp,ho,resolve,hxv,hyv,invoke,builtin,hrun]
  ·rename_i b v sz1 lo hi' ex
   split at h1
   ·rename_i v' e' sz' rows hb;obtain⟨q,h2⟩:=bX h1;clear h1;simp only[Bool.and_eq_true] at q;obtain⟨⟨⟨⟨⟨q1,q2⟩,q3⟩,q4⟩,q5⟩,q6⟩:=q;have q1:=Nat.eq_of_beq_eq_true q1;have q2:=Nat.eq_of_beq_eq_true q2;have q3:=Nat.eq_of_beq_eq_true q3;have q4:=Nat.eq_of_beq_eq_true q4;have q5:=Nat.le_of_ble_eq_true q5;have q6:=Nat.le_of_ble_eq_true q6;subst q1;subst q2;subst q3;subst q4;unfold D.rep at hx;obtain⟨A,m,k',hA,r1,r2,r3,A2,hxv,hA2⟩:=hx;obtain⟨A0,k2,vr,hA',hvr,hone,hown⟩:=hp.pc b _ hb;rw[hA] at hA'
    cases hA'
    split at h2
    ·obtain⟨p,h3⟩:=bX h2;clear h2;simp only[Bool.and_eq_true] at p;have p1:=Nat.eq_of_beq_eq_true p.1.1;have p2:=Nat.le_of_ble_eq_true p.1.2;have p3:=Nat.le_of_ble_eq_true p.2;obtain⟨rfl,rfl,rfl⟩:=eg h3;subst p1;have hA3:A2=A:=by rw[hA2 (.inl rfl)];cases A<;>simp[Addr.add]
     subst hA3;simp only[cond_false,Nat.sub_zero] at hxv;have htk:=rW r2 hown;have hlr:(rows.take hi').length=hi':=by rw[List.length_take];omega
     exact grow b v (rows.take hi') A2 hi' k' v (vr.take hi') _ _ hb hxv hlr.symm (F.cT hi' hvr) (fun r hr=>hone r (List.mem_of_mem_take hr)) htk (by rw[hlr];exact p2) (by rw[hlr];exact p3) hk
    ·split at h2
     ·obtain⟨rfl,rfl,rfl⟩:=eg h2;refine aw.av (v:=a.eval x) (w':=w) ?_ (Res.val hk (by unfold D.rep;exact⟨A,_,k',hA,r1,r2,r3,A2,hxv,hA2⟩) hp hold);have hnone:=qG (P:=P) (w:=w) (ty:=o.type) (A:=A2) (c0:=hi' - lo) (A':=A') (c':=c') (m':=0) ht (Nat.le_refl _) rfl;simp only[cond_true] at hxv;simp[execOp,ho,resolve,hxv,hyv,invoke,builtin,hnone]
     ·rename_i n0 ns;obtain⟨p,h3⟩:=bX h2;clear h2;simp only[Bool.and_eq_true] at p;have p1:=bD p.1.1;have p2:=Nat.le_of_ble_eq_true p.1.2;have p3:=Nat.le_of_ble_eq_true p.2;obtain⟨rfl,rfl,rfl⟩:=eg h3;have harr0:=Arr.vJ (A':=A2) (own.arr hown) r1 r2 (fun hlt=>hA2 (.inr (by simp;omega)));have hl:((rows.take hi').drop lo).length=hi' - lo:=by rw[List.length_drop,List.length_take,Nat.min_eq_left r2]
      obtain⟨A3,c3,w',hrun,hst⟩:=oV (P:=P) (ty:=o.type) (c':=c') ht harr0 hno harr (by simp) (by simpa using p2) (by simpa using p3);simp only[cond_true] at hxv;refine aw.av (v:=.slice A3 (hi' - lo+(n0 :: ns).length) c3) (w':=w') ?_ (Res.s4 hp hold hst (by simp[hl]) (F.fV (F.dL lo (F.cT hi' hvr)) hnr) ?_ hk)
      ·simp only[List.length_cons] at hrun hyv ⊢;simp[execOp,ho,resolve,hxv,hyv,invoke,builtin,hrun]
      ·intro r hr;rcases List.mem_append.1 hr with hr|hr
       ·exact hone r (List.mem_of_mem_take (List.mem_of_mem_drop hr))
       ·exact hno r hr
   ·exact(bI h1).elim
  ·rename_i rows;unfold D.rep at hx;obtain⟨A,vr,sz',hxv,harr0,hone,hvr⟩:=hx
   split at h1
   ·obtain⟨rfl,rfl,rfl⟩:=eg h1;refine aw.av (v:=a.eval x) (w':=w) ?_ (Res.val hk (by unfold D.rep;exact⟨A,vr,sz',hxv,harr0,hone,hvr⟩) hp hold);have hnone:=qG (P:=P) (w:=w) (ty:=o.type) (A:=A) (c0:=rows.length) (A':=A') (c':=c') (m':=0) ht (Nat.le_refl _) rfl;simp[execOp,ho,resolve,hxv,hyv,invoke,builtin,hnone]
   ·rename_i n0 ns;obtain⟨p,h3⟩:=bX h1;clear h1;simp only[Bool.and_eq_true] at p;have p1:=p.1.1;have p2:=Nat.le_of_ble_eq_true p.1.2;have p3:=Nat.le_of_ble_eq_true p.2;obtain⟨rfl,rfl,rfl⟩:=eg h3;have harr1:=ny ((harr0.loc (fun g hg=>(hp.fz g hg).2.1))) hvr (je p1);obtain⟨A3,c3,w',hrun,hst⟩:=oV (P:=P) (ty:=o.type) (c':=c') ht harr1 hno harr (by simp) (by simpa using p2) (by simpa using p3);refine aw.av (v:=.slice A3 (rows.length+(n0 :: ns).length) c3) (w':=w') ?_ (Res.s4 hp hold hst (by simp) (F.fV hvr hnr) ?_ hk)
    ·simp only[List.length_cons] at hrun hyv ⊢;simp[execOp,ho,resolve,hxv,hyv,invoke,builtin,hrun]
    ·intro r hr;rcases List.mem_append.1 hr with hr|hr
     ·exact hone r hr
     ·exact hno r hr
  ·exact(bI h1).elim
 ·exact(bI h).elim
theorem D1{x y:Operand}{t' u:Nat}{dx:D}{s:ByteArray}(ho:o.op=.call ⟨.builtin .append,#[x,y],#[t',u]⟩)(hx:D.rep c dx (a.eval x))(hyv:a.eval y=.string s)(hs:isStr E u=true)(h:gH (alO _) E η t t' dx s (fun d rd e=>some (d,rd,e))=some (d,rd,e)):aw P o a w (Res W η c k):=by
 unfold gH at h;have hu:P.underlying u=some .string:=by
  unfold isStr at hs
  split at hs
  ·rename_i hi;have:=(hE _ _ hi).k;exact this.eq
  ·cases hs
 split at h
 ·rename_i sz0 z0 el sz by_ hi;have hkk:=(hE _ _ hi).k;simp only at hkk;obtain⟨zv,ht⟩:=hkk
  split at h
  ·rename_i ie hie;obtain⟨h0,h1⟩:=bX h;clear h;simp only[Bool.and_eq_true] at h0;obtain⟨⟨h0,h2⟩,h3⟩:=h0;have h2:=Nat.eq_of_beq_eq_true h2;have h3:=Nat.eq_of_beq_eq_true h3;have hz:=K1 ht (hE _ _ hie) h0;subst h2;subst h3;subst hz;have hsl:s.data.toList.length=s.size:=by rw[Array.length_toList];rfl
   have hone:∀r∈mM s,bZ r=true:=by
    intro r hr;rw[si] at hr;obtain⟨v,_,rfl⟩:=List.mem_map.1 hr;rfl
   split at h1
   ·rename_i b v
    split at h1
    ·rename_i v' e' sz' rows hb;obtain⟨q,h2⟩:=bX h1;clear h1;obtain⟨q4,h2⟩:=bX h2;simp only[Bool.and_eq_true] at q;obtain⟨⟨q1,q2⟩,q3⟩:=q;have q1:=Nat.eq_of_beq_eq_true q1;have q2:=Nat.eq_of_beq_eq_true q2;have q3:=Nat.eq_of_beq_eq_true q3;have q4:=Nat.le_of_ble_eq_true q4;subst q1;subst q2;subst q3;obtain⟨rfl,rfl,rfl⟩:=eg h2;unfold D.rep at hx;obtain⟨A,m,k',hA,hxv⟩:=hx;obtain⟨A0,k2,vr,hA',hvr,hone',hown⟩:=hp.pc b _ hb;rw[hA] at hA'
     cases hA';obtain⟨A2,c2,w',S',hrun,hc,hsub,hown'⟩:=tz (P:=P) (ty:=o.type) ht hu hown q4;have hnv:nv η b=v+1:=by unfold nv;rw[hb];rfl
     have hfr:=hp.fresh b;have hle:c.le (c.add b (nv η b) (A2,rows.length+s.size,c2)):=Cf.eT hfr;refine aw.av (v:=.slice A2 (rows.length+s.size) c2) (w':=w') ?_ ⟨_,_,_,_,_,hk,hle,?_,hp.upd hc hsub hle rfl rfl (hp.cF (by rw[hnv];rfl)) ⟨A2,c2,vr++mM s,?_,F.aG.ext hle.ext _ _ (F.fV hvr (by rw[si];exact wL _)),?_,?_⟩,hold.upd hc hsub rfl rfl⟩
     ·simp[execOp,ho,resolve,hxv,hyv,invoke,builtin,hrun]
     ·unfold D.rep;exact⟨A2,_,c2,by rw[←hnv];exact Cf.cY,rfl⟩
     ·rw[←hnv,List.length_append,List.length_map,hsl];exact Cf.cY
     ·intro r hr;rcases List.mem_append.1 hr with hr|hr
      ·exact hone' r hr
      ·exact hone r hr
     ·rw[List.length_append,List.length_map,hsl];exact hown'
    ·exact(bI h1).elim
   ·obtain⟨q,h2⟩:=bX h1;clear h1;have q5:=Nat.le_of_ble_eq_true q;obtain⟨rfl,rfl,rfl⟩:=eg h2;have hxv:=aH hx;have hon:(own el 1 none 0 0 []).on (fun _=>False) w:=⟨World.ownsRow_nil w 0 el 1,rfl,by simp,fun g hg=>by simp[Value.ownBlock] at hg⟩
    obtain⟨A2,c2,w',S',hrun,hc,hsub,hown'⟩:=tz (P:=P) (ty:=o.type) ht hu hon (by omega:0+s.size≤_);rw[Nat.zero_add] at hrun hown';rw[List.nil_append] at hown';have hfr:=hp.fresh t;have hle:c.le (c.add t (nv η t) (A2,s.size,c2)):=Cf.eT hfr;have hc2:Chg w w' (O t):=⟨hc.os,hc.tape,hc.output,hc.size,fun g hg _=>hc.block g hg (fun h=>h)⟩
    have hsub2:∀g,S' g→O t g∨(w.heap.size≤g∧g<w'.heap.size):=fun g hg=>.inr ((hsub g hg).resolve_left fun h=>h)
    refine aw.av (v:=.slice A2 s.size c2) (w':=w') ?_ ⟨_,_,_,_,_,hk,hle,?_,hp.upd hc2 hsub2 hle rfl rfl (hp.cF rfl) ⟨A2,c2,mM s,?_,by rw[si];exact wL _,hone,?_⟩,hold.upd hc2 hsub2 rfl rfl⟩
    ·simp[execOp,ho,resolve,hxv,hyv,invoke,builtin,hrun]
    ·unfold D.rep;exact⟨A2,_,c2,Cf.cY,rfl⟩
    ·rw[List.length_map,hsl];exact Cf.cY
    ·rw[List.length_map,hsl];exact hown'
   ·exact(bI h1).elim
  ·exact(bI h).elim
 ·exact(bI h).elim
theorem Fx{x y:Operand}{t':Nat}{dx dy:D}(ho:o.op=.call ⟨.builtin .copy,#[x,y],#[t',t']⟩)(hx:D.rep c dx (a.eval x))(hy:D.rep c dy (a.eval y))(h:jQ (alO _) E η t' dx dy (fun d rd e=>some (d,rd,e))=some (d,rd,e)):aw P o a w (Res W η c k):=by
 unfold jQ at h
 split at h
 ·rename_i sz0 z0 el sz by_ src rd0 hi hsrc;have hkk:=(hE _ _ hi).k;simp only at hkk;obtain⟨zv,ht⟩:=hkk;obtain⟨h0,h1⟩:=bX h;clear h;obtain⟨A',c',nr,hyv,harr,hnr,hno⟩:=Cw (sz:=sz) hp hy hsrc (je h0)
  split at h1
  ·rename_i b v
   split at h1
   ·rename_i v' e' sz' rows hb;obtain⟨q,h2⟩:=bX h1;clear h1;rw[Bool.and_eq_true] at q;obtain⟨q12,q3⟩:=q;obtain⟨q1,q2⟩:=uv q12;have q3:=Nat.eq_of_beq_eq_true q3;subst q1;subst q2;subst q3;obtain⟨rfl,rfl,rfl⟩:=eg h2;unfold D.rep at hx;obtain⟨A,m,k',hA,hxv⟩:=hx;obtain⟨A0,k2,vr,hA',hvr,hone,hown⟩:=hp.pc b _ hb;rw[hA] at hA'
    cases hA';obtain⟨w',hrun,hc,hown'⟩:=own.copy (P:=P) (t:=t') (ty:=o.type) (c':=c') (ht:=ht) hown harr hno;have hlen:(src.take rows.length++rows.drop src.length).length=rows.length:=by simp;omega
    have hsub:∀g,O b g→O b g∨(w.heap.size≤g∧g<w'.heap.size):=fun g hg=>.inl hg
    refine aw.av (v:=.int .i64 (min src.length rows.length:Nat)) (w':=w') ?_ ⟨_,_,_,c,_,hk,Cf.le.refl c,?_,hp.upd (S':=O b) hc hsub (Cf.le.refl c) rfl rfl (hp.cq hb rfl) ⟨A,k',nr.take rows.length++vr.drop src.length,by rw[hlen];exact hA,F.fV (F.cT _ hnr) (F.dL _ hvr),?_,by rw[hlen];exact hown'⟩,hold.upd hc hsub rfl rfl⟩
    ·simp[execOp,ho,resolve,hxv,hyv,invoke,builtin,hrun]
    ·rw[Nat.min_comm];exact aV _
    ·intro r hr;rcases List.mem_append.1 hr with hr|hr
     ·exact hno r (List.mem_of_mem_take hr)
     ·exact hone r (List.mem_of_mem_drop hr)
   ·exact(bI h1).elim
  ·exact(bI h1).elim
 ·exact(bI h).elim
theorem BW{x y:Operand}{t':Nat}{cm:Bool}{dx dy:D}(ho:o.op=.lookup t' x y cm)(hx:D.rep c dx (a.eval x))(hy:D.rep c dy (a.eval y))(h:eM (alO _) E η t' dx dy cm (fun d rd e=>some (d,rd,e))=some (d,rd,e)):aw P o a w (Res W η c k):=by
 unfold eM at h;dsimp only at h
 split at h
 ·rename_i sz0 z0 kt et hi;have ht:=(hE _ _ hi).k;simp only at ht
  split at h
  ·rename_i ki ei kf hki hei hkf;obtain⟨h0,hL⟩:=bX h;clear h;rw[Bool.and_eq_true] at h0;obtain⟨rfl,desc,hdesc,hisk⟩:=MN (hE _ _ hki) h0.1 hkf hy;obtain⟨zv,hz1,hzrep⟩:=G9 (c:=c) (hE _ _ hei) h0.2;have core:∀(g:Nat) (es:Array MapEntry) (ck:Nat) (rows:List (List F)) (rd0:List Nat),a.eval x=.map (some g)→w.heap[g]?=some (.map es ck)→F.aG c.Z c.R rows (es.toList.map fun e=>[e.key,e.val])→
     ((alO (D×List Nat×List (Nat×B))).bh (gZ (.vl (a.eval y)) rows 0).toList 0 fun r=>match r with
      | some (_,v)=>(some (bif cm then .tp [v.toD,Bo true] else v.toD,rd0,[]):Ot)
      | none=>some (bif cm then .tp [vQ ei,Bo false] else vQ ei,rd0,[]))=some (d,rd,e)→aw P o a w (Res W η c k):=by
    intro g es ck rows rd0 hxv hw hrep hf;obtain⟨rr,hfk,hf⟩:=Nr hf
    split at hf
    ·rename_i j v;obtain⟨rfl,rfl,rfl⟩:=eg hf;rcases kQ hisk hrep hfk with ⟨q1,_⟩|⟨j',v',e',q1,q2,q3,q4,q5,q6⟩
     ·cases q1
     ·cases q1;have hv:D.rep c v.toD e'.val:=oS q5
      cases cm with
      | true=>
       refine aw.av (v:=.tuple #[e'.val,.bool true]) ?_ (Res.val hk (by unfold D.rep;exact⟨_,rfl,by unfold D.ah;exact⟨_,_,rfl,hv,by unfold D.ah;exact⟨_,_,rfl,aV _,by unfold D.ah;rfl⟩⟩⟩) hp hold);simp[execOp,ho,hxv,Instr.lookup,run_underlying ht.eq,MapKept.run_getObj_map hw,MapKept.run_checkKey hdesc hisk,MapKept.run_findKey hdesc q6]
      | false=>
       refine aw.av (v:=e'.val) ?_ (Res.val hk hv hp hold);simp[execOp,ho,hxv,Instr.lookup,run_underlying ht.eq,MapKept.run_getObj_map hw,MapKept.run_checkKey hdesc hisk,MapKept.run_findKey hdesc q6]
    ·skip
     obtain⟨rfl,rfl,rfl⟩:=eg hf;rcases kQ hisk hrep hfk with ⟨_,q6⟩|⟨j',v',e',q1,_⟩
     ·cases cm with
      | true=>
       refine aw.av (v:=.tuple #[zv,.bool false]) ?_ (Res.val hk (by unfold D.rep;exact⟨_,rfl,by unfold D.ah;exact⟨_,_,rfl,hzrep,by unfold D.ah;exact⟨_,_,rfl,aV _,by unfold D.ah;rfl⟩⟩⟩) hp hold);simp[execOp,ho,hxv,Instr.lookup,run_underlying ht.eq,MapKept.run_getObj_map hw,MapKept.run_checkKey hdesc hisk,MapKept.run_findKey hdesc q6,hz1.run]
      | false=>
       refine aw.av (v:=zv) ?_ (Res.val hk hzrep hp hold);simp[execOp,ho,hxv,Instr.lookup,run_underlying ht.eq,MapKept.run_getObj_map hw,MapKept.run_checkKey hdesc hisk,MapKept.run_findKey hdesc q6,hz1.run]
     ·cases q1
   split at hL
   ·rename_i b v
    split at hL
    ·rename_i v' rows hb;obtain⟨hv,h2⟩:=bX hL;clear hL;have hv:=Nat.eq_of_beq_eq_true hv;subst hv;unfold D.rep at hx;obtain⟨g,hg,hxv⟩:=hx;obtain⟨g',es,ck,hg',hS,hw,hrep⟩:=hp.pc b _ hb;rw[hg] at hg'
     cases hg';exact core g es ck rows [b] hxv hw hrep h2
    ·exact(bI hL).elim
   ·rename_i rows;unfold D.rep F.rep at hx;obtain⟨g,es,ck,hxv,hz,hw,hrep⟩:=hx;exact core g es ck rows [] hxv ((hp.fz g hz).2.1.trans hw) hrep hL
   ·exact(bI hL).elim
  ·exact(bI h).elim
 ·exact(bI h).elim
theorem yi{t':Nat}{r:Option Operand}(hρ:∀x d,ρ x=some d→D.rep c d (a.eval x))(ho:o.op=.makeMap t' r)(h:opX Q E η t ρ (.makeMap t' r)=some (d,rd,e)):aw P o a w (Res W η c k):=by
 have fin:k (.mv t (nv η t)) [t] [(t,.mp (nv η t) [])]→Res W η c k (.map (some w.heap.size)) (w.alloc (.map #[] 0)):=by
  intro hk;have hfr:=hp.fresh t;have hle:c.le (c.add t (nv η t) (some ⟨w.heap.size,0,none⟩,0,0)):=Cf.eT hfr;have hc:Chg w (w.alloc (.map #[] 0)) (O t):=⟨rfl,rfl,rfl,by show _≤(w.heap.push _).size;simp,fun b hb _=>Below.heap_alloc w _ b hb⟩
  have hn:∀g,g=w.heap.size→O t g∨(w.heap.size≤g∧g<(w.alloc (.map #[] 0)).heap.size):=fun g hg=>.inr ⟨by omega,by subst hg;show _<(w.heap.push _).size;simp⟩
  refine⟨_,_,_,_,_,hk,hle,?_,hp.upd (S':=fun g=>g=w.heap.size) hc hn hle rfl rfl (hp.cF rfl) ⟨w.heap.size,#[],0,Cf.cY,rfl,by show(w.heap.push _)[w.heap.size]?=_;simp,by simp[F.aG]⟩,hold.upd hc hn rfl rfl⟩;unfold D.rep;exact⟨w.heap.size,Cf.cY,rfl⟩
 unfold opX nk at h;dsimp only at h
 split at h
 ·rename_i sz0 z0 kt et hi;have ht:=(hE _ _ hi).k;simp only at ht
  split at h
  ·obtain⟨rfl,rfl,rfl⟩:=eg h;refine aw.av (v:=.map (some w.heap.size)) (w':=w.alloc (.map #[] 0)) ?_ (fin hk);simp[execOp,ho,Instr.makeMap]
  ·rename_i x
   split at h
   ·rename_i ik m hx;obtain⟨rfl,rfl,rfl⟩:=eg h;have hxv:=aH (hρ x _ hx);refine aw.av (v:=.map (some w.heap.size)) (w':=w.alloc (.map #[] 0)) ?_ (fin hk);simp[execOp,ho,Instr.makeMap,run_underlying ht.eq,hxv,asInt,asIntOf]
   ·exact(bI h).elim
 ·exact(bI h).elim
theorem AS{x y z:Operand}{t':Nat}{dx dy dz:D}(ho:o.op=.mapUpdate t' x y z)(hx:D.rep c dx (a.eval x))(hy:D.rep c dy (a.eval y))(hz:D.rep c dz (a.eval z))(h:eW (alO _) E η t' dx dy dz (fun d rd e=>some (d,rd,e))=some (d,rd,e)):aw P o a w (Res W η c k):=by
 unfold eW at h
 split at h
 ·rename_i sz0 z0 kt et hi;have ht:=(hE _ _ hi).k;simp only at ht
  split at h
  ·rename_i ki kf yf is hki hkf hdz
   split at h
   ·rename_i b v;obtain⟨h0,h1⟩:=bX h;clear h;rw[Bool.and_eq_true] at h0;obtain⟨rfl,desc,hdesc,hisk⟩:=MN (hE _ _ hki) h0.1 hkf hy;have hnb:b ∉ is:=by simpa using h0.2
    split at h1
    ·rename_i v' rows hb;obtain⟨hv,h2⟩:=bX h1;clear h1;have hv:=Nat.eq_of_beq_eq_true hv;subst hv;unfold D.rep at hx;obtain⟨g,hg,hxv⟩:=hx;obtain⟨g',es,ck,hg',hS,hw,hrep⟩:=hp.pc b _ hb;rw[hg] at hg'
     cases hg';have hids:∀i∈is,∃x,η i=some x:=gG 4 _ _ _ hdz;have hfz:=jR hp is 4 _ _ _ _ hdz (fun i hi=>hi) hz;have hp1:=hp.fz_ is hids;have hold1:=hold.fz_ hp is;have hb1:Res.lk2 (aS η is) η b=some (.mp v rows):=by rw[(aY η η is b).1 hnb];exact hb
     have hrep1:=F.aG.ext (Zf.ext hp is) _ _ hrep;have hO1:Ofz O is b g:=⟨hnb,hS⟩
     have hlt:=hp.lt b g hS;have fin:∀(rows':List (List F)) (es':Array MapEntry) (ck':Nat),F.aG (Zf c O is) w rows' (es'.toList.map fun e=>[e.key,e.val])→k Un (b :: is) ((b,.mp v rows') :: aS η is)→Res W η c k undef { w with heap:=w.heap.setIfInBounds g (.map es' ck') }:=by
      intro rows' es' ck' hr' hk';have hc:Chg w { w with heap:=w.heap.setIfInBounds g (.map es' ck') } (Ofz O is b):=⟨rfl,rfl,rfl,by simp,fun q _ hn=>by
       have:q≠g:=fun e=>hn (e▸hO1)
       simp[Ne.symm this]⟩
      have hn:∀q,Ofz O is b q→Ofz O is b q∨(w.heap.size≤q∧q<(w.heap.setIfInBounds g (.map es' ck')).size):=fun q hq=>.inl hq
      refine Res.after hp (ids:=is) (k':=fun d rd e=>k d (b :: is) (e++aS η is)) ?_ (fun d rd e h=>h);refine⟨Un,[],[(b,.mp v rows')],cfz c O is w,_,hk',Cf.le.refl _,aV _,hp1.upd (S':=Ofz O is b) hc hn (Cf.le.refl _) rfl rfl (fun i q y' hy'=>?_) ⟨g,es',ck',hg,hO1,by simp[hlt],hr'⟩,hold1.upd hc hn rfl rfl⟩;obtain⟨x0,hx0,hle⟩:=hp1.bound i q y' hy'
      by_cases e:b=i
      ·subst e;rw[hb1] at hx0
       cases hx0;exact⟨_,bj,hle⟩
      ·exact⟨x0,by rw[aF e];exact hx0,hle⟩
     obtain⟨rr,hfk,h2⟩:=Nr h2
     split at h2
     ·rename_i i x0;obtain⟨rfl,rfl,rfl⟩:=eg h2;rcases kQ hisk hrep hfk with ⟨q1,_⟩|⟨j',v2,e',q1,q2,q3,q4,q5,q6⟩
      ·cases q1
      ·cases q1;rw[Nat.sub_zero] at q3;have hej:es[i]?=some e':=by simpa using q3
       have hlti:i<es.size:=(Array.getElem?_eq_some_iff.1 hej).1;refine aw.rD ?_ (fin _ (es.modify i fun e=>{ e with key:=a.eval y,val:=a.eval z }) ck ?_ hk)
       ·simp[execOp,ho,hxv,Instr.mapUpdate,run_underlying ht.eq,MapKept.run_getObj_map hw,MapKept.run_checkKey hdesc hisk,MapKept.run_findKey hdesc q6,hej,q4,MapKept.run_keyThatStays hisk,MapKept.run_setObj_map _ hw]
       ·have e1:((es.modify i fun e=>{ e with key:=a.eval y,val:=a.eval z }).toList.map fun e=>[e.key,e.val])=(es.toList.map fun e=>[e.key,e.val]).set i [a.eval y,a.eval z]:=by
         apply List.ext_getElem
         ·simp
         ·intro q h1 h2
          by_cases e0:i=q
          ·subst e0;simp
          ·simp[e0,Array.getElem_modify]
        rw[e1];refine F.sM i hrep1 ?_;unfold F.ah;refine⟨_,_,rfl,by unfold F.rep;rfl,?_⟩;unfold F.ah;exact⟨_,_,rfl,hfz,by unfold F.ah;rfl⟩
     ·skip
      obtain⟨rfl,rfl,rfl⟩:=eg h2;rcases kQ hisk hrep hfk with ⟨_,q6⟩|⟨j',v2,e',q1,_⟩
      ·refine aw.rD ?_ (fin _ (es.push ⟨a.eval y,a.eval z,ck⟩) (ck+1) ?_ hk)
       ·simp[execOp,ho,hxv,Instr.mapUpdate,run_underlying ht.eq,MapKept.run_getObj_map hw,MapKept.run_checkKey hdesc hisk,MapKept.run_findKey hdesc q6,MapKept.run_setObj_map _ hw]
       ·rw[Array.toList_push,List.map_append];refine F.fV hrep1 ?_;rw[List.map_singleton];unfold F.aG;refine⟨_,_,rfl,?_,by unfold F.aG;rfl⟩;unfold F.ah;refine⟨_,_,rfl,by unfold F.rep;rfl,?_⟩;unfold F.ah;exact⟨_,_,rfl,hfz,by unfold F.ah;rfl⟩
      ·cases q1
    ·exact(bI h1).elim
   ·exact(bI h).elim
  ·exact(bI h).elim
 ·exact(bI h).elim
end
theorem EH(hQ:∀t,Q t=true→FEq P t)(hG:GOk Γ c)(hs:iA c n s a)(hE:∀t i,E t=some i→TOk P t i)(hp:Hp c O η w)(hold:Old W c O w){d:D}{rd:List Nat}{e:List (Nat×B)}(h:opX Q E η t (evD Γ s) o.op=some (d,rd,e))(hk:k d rd e):aw P o a w (Res W η c k):=by
 have hρ:∀x d,evD Γ s x=some d→D.rep c d (a.eval x):=fun x d hx=>mm hs hG hx
 cases ho:o.op<;>rw[ho] at h<;>try exact(bI h).elim
 case slice t' x lo hi mx=>
  unfold opX nk at h;dsimp only at h
  split at h
  ·rename_i dx hx;exact EN hE hp hold hk hρ ho (hρ _ _ hx) h
  ·exact(bI h).elim
 case indexAddr t' x y=>
  unfold opX nk at h;dsimp only at h
  split at h
  ·rename_i dx dy hx hy;exact uE hE hp hold hk ho (hρ _ _ hx) (hρ _ _ hy) h
  ·exact(bI h).elim
 case index t' x y=>
  unfold opX nk at h;dsimp only at h
  split at h
  ·rename_i dx dy hx hy;exact DS hE hp hold hk ho (hρ _ _ hx) (hρ _ _ hy) h
  ·exact(bI h).elim
 case makeMap t' r=>exact yi hE hp hold hk hρ ho h
 case lookup t' x y cm=>
  unfold opX nk at h;dsimp only at h
  split at h
  ·rename_i dx dy hx hy;exact BW hE hp hold hk ho (hρ _ _ hx) (hρ _ _ hy) h
  ·exact(bI h).elim
 case mapUpdate t' x y z=>
  unfold opX nk at h;dsimp only at h
  split at h
  ·rename_i dx dy dz hx hy hz;exact AS hE hp hold hk ho (hρ _ _ hx) (hρ _ _ hy) (hρ _ _ hz) h
  ·exact(bI h).elim
 case binOp op ty x y ty2=>
  unfold opX nk at h;dsimp only at h
  split at h
  ·rename_i dx dy hx hy;exact ID hE hp hold hk hQ ho (hρ _ _ hx) (hρ _ _ hy) h
  ·exact(bI h).elim
 case makeFunc f fst cap=>
  cases f with
  | func f=>exact wF hE hp hold hk hρ ho h
  | _=>exact(bI h).elim
 case call c0=>
  obtain⟨cal,args,tys⟩:=c0;unfold opX nk at h;dsimp only at h
  split at h
  ·split at h
   ·rename_i x t' e1 e2;have q1:args=#[x]:=by simpa using congrArg List.toArray e1
    have q2:tys=#[t']:=by simpa using congrArg List.toArray e2
    subst q1;subst q2
    split at h
    ·rename_i dx hx;exact I0 hE hp hold hk ho (hρ _ _ hx) h
    ·exact(bI h).elim
   ·exact(bI h).elim
  ·split at h
   ·rename_i x y t' t'' e1 e2;have q1:args=#[x,y]:=by simpa using congrArg List.toArray e1
    have q2:tys=#[t',t'']:=by simpa using congrArg List.toArray e2
    subst q1;subst q2
    split at h
    ·rename_i dx dy hx hy
     split at h
     ·rename_i s hs;obtain⟨h0,h2⟩:=bX h;have hs:=I9 hs;subst hs;exact D1 hE hp hold hk ho (hρ _ _ hx) (aH (hρ _ _ hy)) h0 h2
     obtain⟨h0,h2⟩:=bX h;have h0:=Nat.eq_of_beq_eq_true h0;subst h0;exact An hE hp hold hk ho (hρ _ _ hx) (hρ _ _ hy) h2
    ·exact(bI h).elim
   ·exact(bI h).elim
  ·split at h
   ·rename_i x y t' t'' e1 e2;have q1:args=#[x,y]:=by simpa using congrArg List.toArray e1
    have q2:tys=#[t',t'']:=by simpa using congrArg List.toArray e2
    subst q1;subst q2
    split at h
    ·rename_i dx dy hx hy;obtain⟨h0,h2⟩:=bX h;have h0:=Nat.eq_of_beq_eq_true h0;subst h0;exact Fx hE hp hold hk ho (hρ _ _ hx) (hρ _ _ hy) h2
    ·exact(bI h).elim
   ·exact(bI h).elim
  ·exact(bI h).elim
theorem F1(hQ:∀t,Q t=true→FEq P t)(hdp:2≤P.depth)(hG:kW P Γ G)(hΓ:GOk Γ c)(hs:iA c n s a)(hE:∀t i,E t=some i→TOk P t i)(hp:Hp c O η w)(hold:Old W c O w)(h:yh Q E η t G (evD Γ s) o.op k):aw P o a w (Res W η c k):=by
 rcases h with h|⟨d,rd,e,h,hk⟩
 ·exact Ko hdp hG hΓ hs hE hp hold h
 ·exact EH hQ hΓ hs hE hp hold h hk
theorem ru(hG:xC G){op:Op}(h:yh Q E η t G ρ op k):∃d rd e,k d rd e∧∀η' ρ',(∀x∈op.operands.toList,ρ' x=ρ x)→(∀b∈rd,η' b=η b)→yh Q E η' t G ρ' op (Is3 d rd e):=by
 rcases h with h|⟨d,rd,e,h,hk⟩
 ·obtain⟨d,rd,e,h1,h2⟩:=Mg hG h;exact⟨d,rd,e,h1,fun η' ρ' h3 h4=>.inl (h2 η' ρ' h3 h4)⟩
 ·exact⟨d,rd,e,hk,fun η' ρ' h3 h4=>.inr ⟨d,rd,e,DG h h3 h4,rfl,rfl,rfl⟩⟩
end
theorem GOk.old{Γ:Nat→Option (List F)}{W:Bs}{c:Cf}{O:Nat→Nat→Prop}{w:World}(h:GOk Γ W.c)(ho:Old W c O w):GOk Γ c:=h.ext ho.le
structure XOk(P:Program)(X:Cx):Prop where
 E:∀t i,X.E t=some i→TOk P t i
 G:kW P X.Γ X.G
 GD:kW P X.Γ X.GD
 GL:xC X.GD
 mixed:P.follows .mixedOrders=true
 deep:2≤P.depth
 Q:∀t,X.Q t=true→FEq P t
section
variable {P:Program} {X:Cx} {W:Bs} {n:FD} {st:A} {a:Act} {w:World} {c:Cf} {O:Nat→Nat→Prop}
theorem Is.put (h:Is W n st a w c O) {dst:Option Nat} (hd:yv X dst=true) (hn:n.sz=X.N) {d:D} {v:Value} {e:List (Nat×B)} {c':Cf} {O':Nat→Nat→Prop} {w':World} (hle:c.le c') (hv:D.rep c' d v)
  (hp:Hp c' O' (Res.lk2 e (lk st.h)) w') (ho:Old W c' O' w'):Is W n (st.put dst d e) (a.put dst v) w' c' O':=by
 have hh:lk (st.put dst d e).h=Res.lk2 e (lk st.h):=by
  cases dst<;>cases e<;>simp only[A.put]<;>first|rfl|exact p7 _ _
 refine⟨?_,by rw[hh];exact hp,ho⟩
 cases dst with
 | none=>
  have:(st.put none d e).s=st.s:=rfl;rw[this];exact h.tv.le hle
 | some t=>
  have:(st.put (some t) d e).s=(t,d) :: st.s:=rfl;rw[this];exact(h.tv.le hle).put (by rw[hn];exact hd) hv
end
abbrev Sl':=Nat→Option D
def evF(Γ:Nat→Option (List F))(σ:Sl'):Operand→Option D
 | .tmp t=>σ t
 | .const v=>some (.fr (.vl v))
 | .global g=>match Γ g with
  | some cs=>some (.fr (.pt cs.length [cs] 0 0))
  | none=>none
 | .func f=>some (.fr (.cl f []))
theorem LH(Γ:Nat→Option (List F))(s:List (Nat×D)):evF Γ (lk s)=evD Γ s:=by
 funext x
 cases x<;>rfl
def zA(X:Cx)(ops:Array Oper)(o:Oper)(σ:Sl'):Prop:=match o.guard with
 | none=>True
 | some (j,want)=>∃dj,gd ops j=some dj∧Nat.blt dj X.N=true∧σ dj=some (.fr (.vl (.bool want)))
def gno(X:Cx)(ops:Array Oper)(o:Oper)(σ:Sl'):Prop:=match o.guard with
 | none=>False
 | some (j,want)=>∃dj,gd ops j=some dj∧Nat.blt dj X.N=true∧(σ dj=some (.fr (.vl (.bool (!want))))∨∃vs,σ dj=some (.fr (.vl (.tuple vs))))
def VA(X:Cx)(ops:Array Oper)(o:Oper)(ac:Ac)(σ:Sl')(η:Env):Prop:=yv X o.dst=true∧match ac with
 | .ex d rd e=>zA X ops o σ∧yh X.Q X.E η (X.B+o.dst.getD 0) X.GD (evF X.Γ σ) o.op (Is3 d rd e)
 | .sk=>gno X ops o σ
def Ac.d:Ac→D
 | .ex d _ _=>d
 | .sk=>Un
def Ac.e:Ac→List (Nat×B)
 | .ex _ _ e=>e
 | .sk=>[]
def apS(o:Oper)(ac:Ac)(σ:Sl'):Sl':=match o.dst with
 | none=>σ
 | some t=>up σ t ac.d
def apH(ac:Ac)(η:Env):Env:=Res.lk2 ac.e η
def uu(X:Cx)(ops:Array Oper)(acs:List Ac)(K:Sl'→Env→Prop):List Nat→Sl'→Env→Prop
 | [],σ,η=>K σ η
 | i :: r,σ,η=>∃o ac,ops[i]?=some o∧acs[i]?=some ac∧VA X ops o ac σ η∧uu X ops acs K r (apS o ac σ) (apH ac η)
section
variable {P:Program} {X:Cx} {W:Bs} {n:FD} {st:A} {a:Act} {w:World} {c:Cf} {O:Nat→Nat→Prop} {ops:Array Oper} {acs:List Ac} {K:Sl'→Env→Prop}
theorem uQ{l m:List Nat}(h:um l m=true):∀x∈l,x ∉ m:=by
 intro x hx hm;unfold um at h;rw[List.all_eq_true] at h;have h1:=h x hx;rw[List.all_eq_true] at h1;have h2:=h1 x hm;simp at h2
theorem fh:∀{e:List (Nat×B)} {η:Env} {b:Nat},b ∉ e.map (·.1)→Res.lk2 e η b=η b
 | [],η,b,_=>rfl
 | (b0,x) :: l,η,b,h=>by
  simp only[List.map_cons,List.mem_cons,not_or] at h;simp only[Res.lk2];rw[aF (Ne.symm h.1)];exact fh h.2
theorem pG:∀{e:List (Nat×B)} {η η':Env} {b:Nat},b∈e.map (·.1)→Res.lk2 e η b=Res.lk2 e η' b
 | [],η,η',b,h=>by simp at h
 | (b0,x) :: l,η,η',b,h=>by
  simp only[Res.lk2]
  by_cases e:b0=b
  ·subst e;rw[bj,bj]
  ·rw[aF e,aF e];simp only[List.map_cons,List.mem_cons] at h;rcases h with h|h
   ·exact absurd h.symm e
   ·exact pG h
theorem HQ{e e':List (Nat×B)}{η:Env}(h:um (e.map (·.1)) (e'.map (·.1))=true):Res.lk2 e (Res.lk2 e' η)=Res.lk2 e' (Res.lk2 e η):=by
 funext b
 by_cases hb:b∈e.map (·.1)
 ·have hb':=uQ h b hb;rw[fh (e:=e') hb'];exact pG hb
 ·rw[fh hb]
  by_cases hb':b∈e'.map (·.1)
  ·exact pG hb'
  ·rw[fh hb',fh hb',fh hb]
theorem FI{l m m':List Nat}(h:um l (m++m')=true):um l m=true∧um l m'=true:=by
 unfold um at *;simp only[List.all_eq_true,List.all_append,Bool.and_eq_true] at *;exact⟨fun x hx=>(h x hx).1,fun x hx=>(h x hx).2⟩
theorem DO{o1 o2:Oper}{ac:Ac}{σ:Sl'}(h:∀d,o1.dst=some d→d ∉ o2.looksAt ops):∀x∈o2.op.operands.toList,evF X.Γ (apS o1 ac σ) x=evF X.Γ σ x:=by
 intro x hx
 cases x with
 | tmp t=>
  simp only[evF,apS]
  cases hd:o1.dst with
  | none=>rfl
  | some d=>
   have:=h d hd;refine aF (fun e=>this ?_);subst e;simp only[Oper.looksAt,List.mem_append,List.mem_filterMap];exact .inl ⟨_,hx,rfl⟩
 | const v=>rfl
 | global g=>rfl
 | func f=>rfl
theorem wY{o1 o2:Oper}{ac:Ac}{σ:Sl'}(h:∀d,o1.dst=some d→d ∉ o2.looksAt ops){j dj:Nat}{want:Bool}(hg:o2.guard=some (j,want))(hj:gd ops j=some dj):apS o1 ac σ dj=σ dj:=by
 simp only[apS]
 cases hd:o1.dst with
 | none=>rfl
 | some d=>
  refine aF (fun e=>h d hd ?_);subst e;unfold gd at hj;simp only[Oper.looksAt,hg,List.mem_append];refine .inr ?_;rw[hj];simp
theorem Dr(hG:xC X.GD){o1 o2:Oper}{ac1 ac2:Ac}{σ:Sl'}{η:Env}(h:∀d,o1.dst=some d→d ∉ o2.looksAt ops)(hd:um ac1.wr ac2.rd=true) :
  (VA X ops o2 ac2 (apS o1 ac1 σ) (apH ac1 η)→VA X ops o2 ac2 σ η)∧(VA X ops o2 ac2 σ η→VA X ops o2 ac2 (apS o1 ac1 σ) (apH ac1 η)):=by
 have hη:∀b∈ac2.rd,apH ac1 η b=η b:=by
  intro b hb;refine fh fun hm=>?_
  have:b∈ac1.wr:=by
   cases ac1 with
   | ex d rd e=>exact hm
   | sk=>simp[Ac.e] at hm
  exact uQ hd b this hb
 have hev:=DO (X:=X) (ac:=ac1) (σ:=σ) h;have hgy:zA X ops o2 (apS o1 ac1 σ)↔zA X ops o2 σ:=by
  unfold zA
  split
  ·exact Iff.rfl
  ·rename_i j want hg
   constructor
   ·rintro⟨dj,h1,h2,h3⟩
    exact⟨dj,h1,h2,by rw[←wY (ac:=ac1) (σ:=σ) h hg h1];exact h3⟩
   ·rintro⟨dj,h1,h2,h3⟩
    exact⟨dj,h1,h2,by rw[wY h hg h1];exact h3⟩
 have hgn:gno X ops o2 (apS o1 ac1 σ)↔gno X ops o2 σ:=by
  unfold gno
  split
  ·exact Iff.rfl
  ·rename_i j want hg
   constructor
   ·rintro⟨dj,h1,h2,h3⟩
    exact⟨dj,h1,h2,by rw[←wY (ac:=ac1) (σ:=σ) h hg h1];exact h3⟩
   ·rintro⟨dj,h1,h2,h3⟩
    exact⟨dj,h1,h2,by rw[wY h hg h1];exact h3⟩
 cases ac2 with
 | sk=>exact⟨fun hh=>⟨hh.1,hgn.1 hh.2⟩,fun hh=>⟨hh.1,hgn.2 hh.2⟩⟩
 | ex d rd e=>
  refine⟨fun ⟨h0,h1,h2⟩=>⟨h0,hgy.1 h1,?_⟩,fun ⟨h0,h1,h2⟩=>⟨h0,hgy.2 h1,?_⟩⟩
  ·obtain⟨d',rd',e',⟨rfl,rfl,rfl⟩,g⟩:=ru hG h2;exact g η (evF X.Γ σ) (fun x hx=>(hev x hx).symm) (fun b hb=>(hη b hb).symm)
  ·obtain⟨d',rd',e',⟨rfl,rfl,rfl⟩,g⟩:=ru hG h2;exact g _ _ hev hη
theorem EL(hG:xC X.GD){j i:Nat}{r:List Nat}{σ:Sl'}{η:Env}(hp:vL ops acs j i=true)(h:uu X ops acs K (j :: i :: r) σ η):uu X ops acs K (i :: j :: r) σ η:=by
 obtain⟨oj,aj,h1,h2,h3,oi,ai,h4,h5,h6,h7⟩:=h;unfold vL at hp;rw[h1,h4,h2,h5] at hp;simp only[Bool.and_eq_true] at hp;obtain⟨⟨p1,p2⟩,p3⟩:=hp;obtain⟨q1,q2,q3⟩:=Oper.apart_spec p1;obtain⟨p4,p5⟩:=FI p2;have g1:=(Dr hG (ac1:=aj) (ac2:=ai) (σ:=σ) (η:=η) q1 p4).1 h6;have g2:=(Dr hG (ac1:=ai) (ac2:=aj) (σ:=σ) (η:=η) q3 p3).2 h3;refine⟨oi,ai,h4,h5,g1,oj,aj,h1,h2,g2,?_⟩;have es:apS oj aj (apS oi ai σ)=apS oi ai (apS oj aj σ):=by
  unfold apS
  cases hj:oj.dst with
  | none=>rfl
  | some dj=>
   cases hi:oi.dst with
   | none=>rfl
   | some di=>
    have hne:di≠dj:=fun e=>q2 dj hj (by rw[hi,e])
    funext x
    simp only
    by_cases e1:dj=x
    ·subst e1;rw[bj,aF hne,bj]
    ·rw[aF e1]
     by_cases e2:di=x
     ·subst e2;rw[bj,bj]
     ·rw[aF e2,aF e2,aF e1]
 have eh:apH aj (apH ai η)=apH ai (apH aj η):=by
  unfold apH;refine HQ ?_;have e1:∀ac:Ac,ac.e.map (·.1)=ac.wr:=by intro ac;cases ac<;>rfl
  rw[e1,e1];exact p5
 rw[es,eh];exact h7
theorem r7(hG:xC X.GD){i:Nat}{post:List Nat}:∀(pre:List Nat),(∀k∈pre,vL ops acs k i=true)→∀(σ:Sl') (η:Env),uu X ops acs K (pre++i :: post) σ η→uu X ops acs K (i :: (pre++post)) σ η
 | [],_,σ,η,h=>h
 | k :: pre,hp,σ,η,h=>by
  obtain⟨o,ac,h1,h2,h3,h4⟩:=h;have ih:=r7 hG (post:=post) pre (fun x hx=>hp x (by simp[hx])) _ _ h4;exact EL hG (hp k (by simp)) ⟨o,ac,h1,h2,h3,ih⟩
structure IsF(W:Bs)(n:FD)(σ:Sl')(η:Env)(a:Act)(w:World)(c:Cf)(O:Nat→Nat→Prop):Prop where
 size:a.tmps.size=n.sz
 defers:a.defers=n.ds
 get:∀k d,σ k=some d→D.rep c d (a.tmps.getD k undef)
 hp:Hp c O η w
 old:Old W c O w
theorem Jq (hX:XOk P X) (hΓ:GOk X.Γ W.c) (hn:n.sz=X.N) {i:Nat} {o:Oper} {ac:Ac} {σ:Sl'} {η:Env} {a:Act} {w:World} {c:Cf} {O:Nat→Nat→Prop} (ho:ops[i]?=some o) (hi:IsF W n σ η a w c O) (hv:VA X ops o ac σ η)
  {Q:Exit→Act→World→Prop} {R:Act→World→Prop} (k:∀a w c' O',c.le c'→IsF W n (apS o ac σ) (apH ac η) a w c' O'→R a w):Go.wpOp P ops Q i R a w:=by
 have put:∀{v:Value} {w':World} {c':Cf} {O':Nat→Nat→Prop},yv X o.dst=true→c.le c'→D.rep c' ac.d v→Hp c' O' (apH ac η) w'→Old W c' O' w'→R (a.put o.dst v) w':=by
  intro v w' c' O' hd hle hv hp ho;refine k _ _ c' O' hle ⟨?_,?_,fun x d hx=>?_,hp,ho⟩
  ·cases hdst:o.dst<;>simp[Act.put,hi.size]
  ·cases hdst:o.dst<;>simp[Act.put,hi.defers]
  ·cases hdst:o.dst with
   | none=>
    simp only[apS,hdst] at hx;exact D.rep.le hle _ _ (hi.get x d hx)
   | some t=>
    rw[hdst] at hd;have ht:t<a.tmps.size:=by rw[hi.size,hn];exact bD hd
    simp only[apS,hdst] at hx
    by_cases e:t=x
    ·subst e;rw[bj] at hx
     cases hx;simpa [Act.put,ht] using hv
    ·rw[aF e] at hx;have:=D.rep.le hle _ _ (hi.get x d hx);simpa [Act.put,e] using this
 have yl:∀{j dj:Nat} {x:Value},gd ops j=some dj→Nat.blt dj X.N=true→σ dj=some (.fr (.vl x))→yielded ops a.tmps j=(match x with | .bool b=>some b|_=>none):=by
  intro j dj x hj hb hs;have h1:=aH (hi.get dj _ hs);have hlt:dj<a.tmps.size:=by rw[hi.size,hn];exact bD hb
  have h2:a.tmps[dj]?=some x:=by
   rw[←h1];simp[hlt]
  unfold yielded;unfold gd at hj;rw[hj];simp only[Option.bind_some,h2]
  cases x<;>rfl
 unfold Go.wpOp;rw[ho];simp only
 cases ac with
 | ex d rd e=>
  obtain⟨hd,hg,hw⟩:=hv;have hwant:Region.wanted o (yielded ops a.tmps)=true:=by
   unfold zA at hg
   split at hg
   ·rename_i h0;simp[Region.wanted,h0]
   ·rename_i j want h0;obtain⟨dj,h1,h2,h3⟩:=hg;simp only[Region.wanted,h0,yl h1 h2 h3];simp
  rw[if_pos hwant];refine .inl (aw.wp ?_);have hL:∃s:List (Nat×D),iA c n s a∧∀x∈o.op.operands.toList,evD X.Γ s x=evF X.Γ σ x:=by
   have key:∀l:List Operand,∃s:List (Nat×D),(∀k d,lk s k=some d→σ k=some d)∧∀x∈l,evD X.Γ s x=evF X.Γ σ x:=by
    intro l
    induction l with
    | nil=>exact⟨[],fun k d h=>by simp[lk] at h,by simp⟩
    | cons y l ih=>
     obtain⟨s,h1,h2⟩:=ih
     cases y with
     | tmp t=>
      cases ht:σ t with
      | none=>
       refine⟨s,h1,fun x hx=>?_⟩;rcases List.mem_cons.1 hx with rfl|hx
       ·simp only[evD,evF]
        cases hl:lk s t with
        | none=>rw[ht]
        | some d=>have:=h1 t d hl;rw[ht] at this;cases this
       ·exact h2 x hx
      | some d0=>
       refine⟨(t,d0) :: s,fun k d hk=>?_,fun x hx=>?_⟩
       ·rw[bW] at hk
        by_cases e:t=k
        ·subst e;rw[bj] at hk;cases hk;exact ht
        ·rw[aF e] at hk;exact h1 k d hk
       ·rcases List.mem_cons.1 hx with rfl|hx
        ·simp only[evD,evF];rw[bW,bj,ht]
        ·have h3:=h2 x hx
         cases x with
         | tmp u=>
          simp only[evD,evF] at h3 ⊢;rw[bW]
          by_cases e:t=u
          ·subst e;rw[bj,ht]
          ·rw[aF e];exact h3
         | _=>exact h3
     | _=>
      refine⟨s,h1,fun x hx=>?_⟩;rcases List.mem_cons.1 hx with rfl|hx
      ·rfl
      ·exact h2 x hx
   obtain⟨s,h1,h2⟩:=key o.op.operands.toList;exact⟨s,⟨hi.size,hi.defers,fun k d hk=>hi.get k d (h1 k d hk)⟩,h2⟩
  obtain⟨s,hs,hsx⟩:=hL;obtain⟨d',rd',e',⟨rfl,rfl,rfl⟩,g⟩:=ru hX.GL hw;have hw':=g η (evD X.Γ s) hsx (fun _ _=>rfl);have:=F1 hX.Q hX.deep hX.GD (hΓ.old hi.old) hs hX.E hi.hp hi.old hw';refine this.mono fun v w' ⟨d1,rd1,e1,c',O',⟨q1,q2,q3⟩,h2,h3,h4,h5⟩=>?_
  subst q1;subst q2;subst q3;exact put hd h2 h3 h4 h5
 | sk=>
  obtain⟨hd,hg⟩:=hv;have hwant:¬Region.wanted o (yielded ops a.tmps)=true:=by
   have hg:gno X ops o σ:=hg;unfold gno at hg
   split at hg
   ·exact hg.elim
   ·rename_i j want h0;obtain⟨dj,h1,h2,h3⟩:=hg;rcases h3 with h3|⟨vs,h3⟩
    ·simp only[Region.wanted,h0,yl h1 h2 h3]
     cases want<;>simp
    ·simp only[Region.wanted,h0,yl h1 h2 h3];simp
  rw[if_neg hwant];exact put hd (Cf.le.refl c) (aV _) hi.hp hi.old
theorem IX {Q:Exit→Act→World→Prop} {Rn:List Nat→Act→World→Prop} {PB:Nat→Nat→Bool} (hend:∀a w,Rn [] a w→Q .normal a w)
  (hstep:∀pre i post,(∀k∈pre,PB k i=true)→i<ops.size→∀a w,Rn (pre++i :: post) a w→Go.wpOp P ops Q i (fun a w=>Rn (pre++post) a w) a w)
  (hok:∀i,i<ops.size→(match ops[i]? with|some o=>(o.after.all fun e=>!Region.binds .any e||Nat.blt e.on i)=true|none=>True)∧∀k,k<i→(ct ops 6 i k||PB k i)=true) :
  ∀(fuel:Nat) (rem:List Nat) (listed:Array Bool) (a:Act) (w:World),rem.length=fuel→MS ops rem listed→Rn rem a w→wpAny P .any ops Q fuel listed a w:=by
 intro fuel
 induction fuel with
 | zero=>
  intro rem listed a w hl inv h;have hr:rem=[]:=List.eq_nil_of_length_eq_zero hl;subst hr;refine⟨?_,hend a w h⟩;rw[List.eq_nil_iff_forall_not_mem];intro j hj;obtain⟨h1,o,ho,_⟩:=mem_ready.1 hj;have:=(inv.mem j).2 ⟨(Array.getElem?_eq_some_iff.1 ho).1,h1⟩;simp at this
 | succ fuel ih=>
  intro rem listed a w hl inv h;refine⟨fun hnil=>?_,fun i hi=>?_⟩
  ·cases rem with
   | nil=>simp at hl
   | cons i rest=>
    have hi:=(inv.mem i).1 (by simp);have:i∈Region.ready .any ops listed:=by
     refine mem_ready.2 ⟨hi.2,_,Array.getElem?_eq_getElem hi.1,fun e he hb=>?_⟩;have h1:=(hok i hi.1).1;rw[Array.getElem?_eq_getElem hi.1] at h1;simp only at h1;have h2:=(Array.all_eq_true_iff_forall_mem.1 h1) e he;simp only[hb,Bool.not_true,Bool.false_or] at h2;have hlt:e.on<i:=bD h2
     cases hle:listed.getD e.on false with
     | true=>rfl
     | false=>
      have hm:e.on∈i :: rest:=(inv.mem e.on).2 ⟨by omega,by rw[lL (by rw[inv.size];omega)];exact hle⟩;have hs:=inv.sorted;rw[List.pairwise_cons] at hs;rcases List.mem_cons.1 hm with hm|hm
      ·omega
      ·have:=hs.1 _ hm;omega
    rw[hnil] at this
    cases this
  ·obtain⟨hun,oi,hoi,hall⟩:=mem_ready.1 hi;have hilt:i<ops.size:=(Array.getElem?_eq_some_iff.1 hoi).1;have hmem:=(inv.mem i).2 ⟨hilt,hun⟩;obtain⟨pre,post,rfl⟩:=List.append_of_mem hmem;have hs:=inv.sorted;rw[List.pairwise_append] at hs;obtain⟨hs1,hs2,hs3⟩:=hs;rw[List.pairwise_cons] at hs2;have hpre:∀k∈pre,PB k i=true:=by
    intro k hk;have hki:k<i:=hs3 k hk i (by simp);have hku:=(inv.mem k).1 (by simp[hk]);have h1:=(hok i hilt).2 k hki;simp only[Bool.or_eq_true] at h1;rcases h1 with h1|h1
    ·have h2:=jL inv.closed 6 i k oi hoi hall h1;rw[←lL (by rw[inv.size];omega),hku.2] at h2
     cases h2
    ·exact h1
   refine wpOp_mono (fun a' w' hh=>?_) (hstep pre i post hpre hilt a w h);refine ih (pre++post) (listed.setIfInBounds i true) a' w' (by simp at hl ⊢;omega) ⟨by simp[inv.size],fun j=>?_,?_,fun j o hj hlj e he hb=>?_⟩ hh
   ·have hj:=inv.mem j;have hij:i ∉ pre++post:=by
     intro hmm;rcases List.mem_append.1 hmm with hmm|hmm
     ·have:=hs3 i hmm i (by simp);omega
     ·have:=hs2.1 i hmm;omega
    by_cases hji:j=i
    ·subst hji
     constructor
     ·intro hm;exact absurd hm hij
     ·rintro⟨_,hm⟩
      have:j<listed.size:=by rw[inv.size];exact hilt
      simp[this] at hm
    ·have e1:(listed.setIfInBounds i true).getD j true=listed.getD j true:=getD_set_ne true (fun e=>hji e.symm);rw[e1,←hj];simp[hji]
   ·rw[List.pairwise_append];exact⟨hs1,hs2.2,fun x hx y hy=>hs3 x hx y (by simp[hy])⟩
   ·by_cases hji:i=j
    ·subst hji;have:o=oi:=Option.some.inj (hj.symm.trans hoi);subst this;exact getD_set_true (hall e he hb)
    ·rw[getD_set_ne false hji] at hlj;exact getD_set_true (inv.closed j o hj hlj e he hb)
theorem Aa {K':Sl'→Env→Prop} {Q:Exit→Act→World→Prop} {J:Cf→Prop} (hJ:∀c c':Cf,c.le c'→J c→J c') (hJ0:J c) (hX:XOk P X) (hΓ:GOk X.Γ W.c) (hn:n.sz=X.N) (hQ:∀σ η a w c O,J c→K' σ η→IsF W n σ η a w c O→Q .normal a w) (hi:Is W n st a w c O) {acs:List Ac} (g1:okD ops acs=true)
  (g2:uu X ops acs K' (List.range' 0 ops.toList.length) (lk st.s) (lk st.h)):wpAny P .any ops Q ops.size (Array.replicate ops.size false) a { w with drawn:=w.drawn+1 }:=by
 unfold okD at g1;rw[Bool.and_eq_true] at g1;obtain⟨_,g1⟩:=g1;rw[List.all_eq_true] at g1
 let Rn:List Nat→Act→World→Prop:=fun rem a w=>∃σ η c O,J c∧IsF W n σ η a w c O∧uu X ops acs K' rem σ η
 refine IX (Rn:=Rn) (PB:=vL ops acs) ?_ ?_ ?_ ops.size (List.range ops.size) _ _ _ (by simp) ⟨by simp,fun i=>?_,List.pairwise_lt_range,fun j o hj hl=>?_⟩ ?_
 ·rintro a w ⟨σ,η,c,O,hj,hf,hk⟩
  exact hQ σ η a w c O hj hk hf
 ·rintro pre i post hpre hlt a w ⟨σ,η,c,O,hj,hf,hr⟩
  obtain⟨o,ac,h1,h2,h3,h4⟩:=r7 hX.GL pre hpre σ η hr;exact Jq hX hΓ hn h1 hf h3 (fun a w c' O hle hf=>⟨_,_,c',O,hJ _ _ hle hj,hf,h4⟩)
 ·intro i hlt;have:=g1 i (by simpa using hlt);rw[Bool.and_eq_true] at this;refine⟨?_,fun k hk=>?_⟩
  ·have h1:=this.1
   split
   ·rename_i o ho;rw[ho] at h1;exact h1
   ·trivial
  ·have h2:=this.2;rw[List.all_eq_true] at h2;exact h2 k (by simpa using hk)
 ·rw[List.mem_range]
  constructor
  ·intro hi;exact⟨hi,by simp[hi]⟩
  ·exact fun hi=>hi.1
 ·rw[getD_replicate_false] at hl;exact absurd hl (by simp)
 ·refine⟨lk st.s,lk st.h,c,O,hJ0,⟨hi.tv.size,hi.tv.defers,hi.tv.get,?_,?_⟩,?_⟩
  ·exact⟨fun b x hx=>B.on.le (w:=w) (w':={ w with drawn:=w.drawn+1 }) (Cf.le.refl _) (fun _ _=>rfl) (hi.hp.pc b x hx),hi.hp.bound,hi.hp.apart,hi.hp.fz,hi.hp.lt⟩
  ·exact⟨hi.old.os,hi.old.tape,hi.old.output,hi.old.size,hi.old.b4,hi.old.own,hi.old.mW,hi.old.le⟩
  ·rw[List.range_eq_range'];have:ops.size=ops.toList.length:=by simp
   rw[this];exact g2
end
def MH(P:Program)(Γ:Nat→Option (List F))(f:FuncId)(l:List F)(r:F)(fr:Bool):Prop:=
 ∀(Z:Nat→Prop) (w:World) (vs:List Value),(∀g,Z g→g<w.heap.size)→(∀g cs,Γ g=some cs→F.rep Z w (.pt cs.length [cs] 0 0) (.pointer (some ⟨g,0,none⟩)))→F.ah Z w l vs→
  Calls P f vs.toArray w (fun e w'=>∃v,e=.returned v∧Below w.heap.size w w'∧F.rep (fun g=>(fr=false∧Z g)∨(w.heap.size≤g∧g<w'.heap.size)) w' r v)
structure Pure(P:Program)(Γ:Nat→Option (List F))(f:FuncId)(l:List F)(r:F)(fr:Bool):Prop where
 cf:CF P f
 run:MH P Γ f l r fr
def EB(E:TE)(st:A):ResultVar→Option D
 | .tmp t=>lk st.s t
 | .cell t ty=>match lk st.s t,E ty with
  | some (.ptr b v 0),some i=>(match lk st.h b with
   | some (.va v' _ cs)=>bif Nat.beq v v' then (bif i.k.agg then (bif Nat.beq cs.length i.sz then some (.ag cs) else none) else cs[0]?) else none
   | _=>none)
  | _,_=>none
def oL:List D→D
 | [d]=>d
 | l=>.tp l
section
variable {P:Program} {X:Cx}
theorem GV{W:Bs}{n:FD}{st:A}{a:Act}{w:World}{c:Cf}{O:Nat→Nat→Prop}(hX:XOk P X)(hi:Is W n st a w c O){rv:ResultVar}{d:D}(h:EB X.E st rv=some d):∃v,(kS a.tmps rv).run P w=.ok v w∧D.rep c d v:=by
 cases rv with
 | tmp t=>exact⟨_,rfl,hi.tv.get t d h⟩
 | cell t ty=>
  simp only[EB] at h
  split at h
  ·rename_i b v i hb hE;have hTi:=hX.E _ _ hE
   split at h
   ·rename_i v' bt cs hbl
    cases hv:Nat.beq v v' with
    | false=>rw[hv] at h;cases h
    | true=>
     rw[hv] at h;have:=Nat.eq_of_beq_eq_true hv;subst this;simp only[cond_true] at h;have hd:=hi.tv.get t _ hb;unfold D.rep at hd;obtain⟨g,hg,hx⟩:=hd;obtain⟨g',vs,hg',hvs,hone,hblk⟩:=hi.hp.pc b _ hbl;rw[hg] at hg'
     cases hg';have hlen:=D.aW hvs;have hcell:∀j v,vs[j]?=some v→w.cell? ((⟨g,0,none⟩:Addr).add j)=some v:=by
      intro j v hj;rw[add_lit,Nat.zero_add,cell_of_row w g _ _ _ _ hblk.2];simpa using hj
     cases ha:i.k.agg with
     | true=>
      rw[ha] at h;simp only[cond_true] at h
      cases hl:Nat.beq cs.length i.sz with
      | false=>rw[hl] at h;cases h
      | true=>
       rw[hl] at h;simp only[cond_true] at h
       cases h;have hl:=Nat.eq_of_beq_eq_true hl;refine⟨.agg vs.toArray,?_,by unfold D.rep;exact⟨vs,rfl,hvs⟩⟩;have:=(hTi.ldA ha).run ⟨g,0,none⟩ w vs (by omega) hcell;simp[kS,hx,asAddr,this]
     | false=>
      rw[ha] at h;simp only[cond_false] at h;obtain⟨u,hu,hdu⟩:=D.bT hvs h;refine⟨u,?_,hdu⟩;have h0:=hcell 0 u hu;have:=(hTi.ld1 ha).run ⟨g,0,none⟩ w u (by simpa [Addr.add] using h0);simp[kS,hx,asAddr,this]
   ·cases h
  ·cases h
theorem vA{W:Bs}{n:FD}{st:A}{a:Act}{w:World}{c:Cf}{O:Nat→Nat→Prop}(hX:XOk P X)(hi:Is W n st a w c O):∀{rs:List ResultVar} {ds:List D},jq (rs.map (EB X.E st))=some ds→∃vs,(rs.mapM (kS a.tmps)).run P w=.ok vs w∧D.ah c ds vs
 | [],ds,h=>by
  simp[jq] at h;subst h;exact⟨[],by simp,by simp[D.ah]⟩
 | r :: rs,ds,h=>by
  simp only[List.map_cons] at h
  cases hr:EB X.E st r with
  | none=>rw[hr] at h;simp[jq] at h
  | some d=>
   rw[hr] at h;simp only[jq] at h
   split at h
   ·rename_i l hl
    cases h;obtain⟨v,h1,h2⟩:=GV hX hi hr;obtain⟨vs,h3,h4⟩:=vA hX hi hl;refine⟨v :: vs,?_,by unfold D.ah;exact⟨v,vs,rfl,h2,h4⟩⟩;rw[List.mapM_cons,Sem.run_bind,h1,Result.andThen_ok,Sem.run_bind,h3];simp
   ·cases h
theorem I3{c:Cf}:∀{ds:List D} {vs:List Value},D.ah c ds vs→D.rep c (oL ds) (pF vs)
 | [],vs,h=>by
  unfold D.ah at h;subst h;unfold oL pF D.rep;exact⟨[],rfl,by simp[D.ah]⟩
 | [d],vs,h=>by
  unfold D.ah at h;obtain⟨u,us,rfl,h1,h2⟩:=h;unfold D.ah at h2;subst h2;exact h1
 | d :: d' :: ds,vs,h=>by
  have hl:=D.aW h;unfold oL;have:pF vs=.tuple vs.toArray:=by
   match vs,hl with
   | u :: u' :: l,_=>rfl
  rw[this];unfold D.rep;exact⟨vs,rfl,h⟩
end
theorem KM(x y:ByteArray):x++y=⟨(x.data.toList++y.data.toList).toArray⟩:=by
 apply ByteArray.ext;apply Array.ext';simp
def F.flat:F→Bool
 | .vl _=>true
 | .ag cs=>lG cs
 | .tp cs=>lG cs
 | .cl _ cs=>lG cs
 | _=>false
where lG:List F→Bool
 | []=>true
 | x :: l=>x.flat&&lG l
mutual
theorem ta{Z Z':Nat→Prop}{w w':World}:∀(x:F) (u:Value),x.flat=true→F.rep Z w x u→F.rep Z' w' x u
 | .vl x,u,_,h=>by unfold F.rep at h ⊢;exact h
 | .sl _,u,hf,h=>by simp[F.flat] at hf
 | .pt _ _ _ _,u,hf,h=>by simp[F.flat] at hf
 | .ag cs,u,hf,h=>by unfold F.rep at h ⊢;obtain⟨vs,h1,h2⟩:=h;exact⟨vs,h1,jr cs vs (by simpa [F.flat] using hf) h2⟩
 | .tp cs,u,hf,h=>by unfold F.rep at h ⊢;obtain⟨vs,h1,h2⟩:=h;exact⟨vs,h1,jr cs vs (by simpa [F.flat] using hf) h2⟩
 | .cl f cs,u,hf,h=>by unfold F.rep at h ⊢;obtain⟨vs,h1,h2⟩:=h;exact⟨vs,h1,jr cs vs (by simpa [F.flat] using hf) h2⟩
theorem jr{Z Z':Nat→Prop}{w w':World}:∀(l:List F) (us:List Value),F.flat.lG l=true→F.ah Z w l us→F.ah Z' w' l us
 | [],us,_,h=>by unfold F.ah at h ⊢;exact h
 | x :: l,us,hf,h=>by
  unfold F.ah at h ⊢;simp only[F.flat.lG,Bool.and_eq_true] at hf;obtain⟨u,us',h1,h2,h3⟩:=h;exact⟨u,us',h1,ta x u hf.1 h2,jr l us' hf.2 h3⟩
end
section
variable {P:Program} {Γ:Nat→Option (List F)} {η:Env} {f:FuncId} {l:List D} {fl:List F} {r:F} {fr:Bool} {k:Ks} {is:List Nat}
structure rh(P:Program)(Γ:Nat→Option (List F))(η:Env)(f:FuncId)(l:List D)(k:Ks):Prop where
 go:∀(W:Bs) c O w vs,GOk Γ c→Hp c O η w→Old W c O w→D.ah c l vs→CF P f∧Calls P f vs.toArray w (fun e w'=>∃v,e=.returned v∧Res W η c k v w')
theorem BF:kW P Γ (fun _=>rh P Γ):=fun _ η f l k h W c O w vs h1 h2 h3 h4=>h.go W c O w vs h1 h2 h3 h4
def cgr(c:Cf)(w w':World):Cf:=⟨c.ι,w',fun g=>c.Z g∨(w.heap.size≤g∧g<w'.heap.size)⟩
section
variable {c:Cf} {O:Nat→Nat→Prop} {w w':World} {W:Bs}
theorem CU(hp:Hp c O η w)(hb:Below w.heap.size w w'):Ext c.Z c.R (cgr c w w').Z (cgr c w w').R:=
 ⟨fun g h=>.inl h,fun g h=>(hb.block g (hp.fz g h).1).trans (hp.fz g h).2.1⟩
theorem BE(hp:Hp c O η w)(hb:Below w.heap.size w w'):c.le (cgr c w w'):=⟨fun _ _ _ h=>h,CU hp hb⟩
theorem Hp.grow(hp:Hp c O η w)(hb:Below w.heap.size w w'):Hp (cgr c w w') O η w':=by
 have hle:=BE hp hb;refine⟨fun b x hx=>(hp.pc b x hx).le hle (fun g hg=>hb.block g (hp.lt b g hg)),hp.bound,hp.apart,fun g hg=>?_,fun b g hg=>Nat.lt_of_lt_of_le (hp.lt b g hg) hb.size⟩;rcases hg with hg|hg
 ·exact⟨Nat.lt_of_lt_of_le (hp.fz g hg).1 hb.size,rfl,(hp.fz g hg).2.2⟩
 ·refine⟨hg.2,rfl,fun b h=>?_⟩;have:=hp.lt b g h;omega
theorem Old.grow(hp:Hp c O η w)(ho:Old W c O w)(hb:Below w.heap.size w w'):Old W (cgr c w w') O w':=by
 refine⟨hb.os.trans ho.os,hb.tape.trans ho.tape,hb.output.trans ho.output,Nat.le_trans ho.size hb.size,fun g hg hn=>?_,ho.own,fun g hg=>?_,ho.le.trans (CU hp hb)⟩
 ·rw[hb.block g (Nat.lt_of_lt_of_le hg ho.size)];exact ho.b4 g hg hn
 ·rcases hg with hg|hg
  ·exact ho.mW g hg
  ·exact .inr (.inr (Nat.le_trans ho.size hg.1))
end
theorem rh.mO(hm:cz (D.toF η 6) l=some (fl,is))(h:Pure P Γ f fl r fr)(hk:k r.toD is (aS η is)):rh P Γ η f l k:=by
 refine⟨fun W c O w vs hΓ hp ho hvs=>⟨h.cf,?_⟩⟩;have hfl:=fL (jR hp is 6) hm (fun b h=>h) hvs;have hp1:=hp.fz_ is (dC (gG 6) hm);have ho1:=ho.fz_ hp is;have hle1:=pO hp is;refine(h.run (Zf c O is) w vs (fun g hg=>(hp1.fz g hg).1) (fun g cs hg=>F.rep.ext hle1.ext _ _ (hΓ g cs hg)) hfl).mono ?_
 rintro e w' ⟨v,rfl,hb,hr⟩
 refine⟨v,rfl,r.toD,is,aS η is,cgr (cfz c O is w) w w',Ofz O is,hk,hle1.trans (BE hp1 hb),oS (F.rep.ext ⟨fun g hg=>?_,fun _ _=>rfl⟩ _ _ hr),hp1.grow hb,ho1.grow hp1 hb⟩;rcases hg with hg|hg
 ·exact .inl hg.2
 ·exact .inr hg
theorem rh.look(hm:cz (D.toF η 6) l=some (fl,is))(h:Pure P Γ f fl r fr)(hf:r.flat=true∨fr=true)(hk:k r.toD is []):rh P Γ η f l k:=by
 refine⟨fun W c O w vs hΓ hp ho hvs=>⟨h.cf,?_⟩⟩;have hfl:=fL (jR hp is 6) hm (fun b h=>h) hvs;have hp1:=hp.fz_ is (dC (gG 6) hm);have hle1:=pO hp is;refine(h.run (Zf c O is) w vs (fun g hg=>(hp1.fz g hg).1) (fun g cs hg=>F.rep.ext hle1.ext _ _ (hΓ g cs hg)) hfl).mono ?_
 rintro e w' ⟨v,rfl,hb,hr⟩
 refine⟨v,rfl,r.toD,is,[],cgr c w w',O,hk,BE hp hb,oS ?_,hp.grow hb,ho.grow hp hb⟩;rcases hf with hf|rfl
 ·exact ta r v hf hr
 ·refine F.rep.ext ⟨fun g hg=>?_,fun _ _=>rfl⟩ _ _ hr;rcases hg with hg|hg
  ·cases hg.1
  ·exact .inr hg
structure GDr(P:Program)(Γ:Nat→Option (List F))(η:Env)(f:FuncId)(l:List D)(k:Ks):Prop where
 go:∃fl is r fr,cz (D.toF η 6) l=some (fl,is)∧Pure P Γ f fl r fr∧(is=[]∨r.flat=true∨fr=true)∧k r.toD is []
theorem GDr.mO(hm:cz (D.toF η 6) l=some (fl,is))(h:Pure P Γ f fl r fr)(hi:is=[]∨r.flat=true∨fr=true)(hk:k r.toD is []):GDr P Γ η f l k:=⟨fl,is,r,fr,hm,h,hi,hk⟩
theorem vT:kW P Γ (fun _=>GDr P Γ):=by
 intro _ η f l k ⟨fl,is,r,fr,hm,h,hi,hk⟩ W c O w vs h1 h2 h3 h4;rcases hi with rfl|hi
 ·exact(rh.mO hm h (k:=k) hk).go W c O w vs h1 h2 h3 h4
 ·exact(rh.look hm h hi hk).go W c O w vs h1 h2 h3 h4
theorem B9:xC (fun _=>GDr P Γ):=by
 intro _ η f l k ⟨fl,is,r,fr,hm,h,hi,hk⟩;refine⟨_,_,_,hk,fun η' hη=>⟨fl,is,r,fr,?_,h,hi,by trivial,by trivial,by trivial⟩⟩;exact fA (fun d x is'' h3 h4=>fv 6 d x is'' h3 (fun b' hb'=>hη b' (h4 b' hb'))) hm
inductive Tr where
 | e
 | n (v:Option TI) (l r:Tr)
def Tr.get:Tr→Nat→Option TI
 | .e,_=>none
 | .n v l r,t=>bif Nat.beq t 0 then v else bif Nat.beq (t % 2) 0 then l.get (t / 2) else r.get (t / 2)
def Tr.list:Tr→(Nat→Nat)→List (Nat×TI)
 | .e,_=>[]
 | .n v l r,q=>(match v with|some i=>[(q 0,i)]|none=>[])++(l.list (fun k=>q (2 * k))++r.list (fun k=>q (2 * k+1)))
theorem Tr.mem:∀(tr:Tr) (q:Nat→Nat) (t:Nat) (i:TI),tr.get t=some i→(q t,i)∈tr.list q
 | .e,q,t,i,h=>by simp[Tr.get] at h
 | .n v l r,q,t,i,h=>by
  simp only[Tr.get] at h;simp only[Tr.list,List.mem_append]
  cases h0:Nat.beq t 0 with
  | true=>
   have:=Nat.eq_of_beq_eq_true h0;subst this;simp at h;subst h;exact .inl (by simp)
  | false=>
   rw[h0] at h;simp only[cond_false] at h
   cases h1:Nat.beq (t % 2) 0 with
   | true=>
    rw[h1] at h;have h2:=Nat.eq_of_beq_eq_true h1;have:=Tr.mem l (fun k=>q (2 * k)) (t / 2) i h;rw[show 2 * (t / 2)=t by omega] at this;exact .inr (.inl this)
   | false=>
    rw[h1] at h;have h2:t % 2≠0:=fun e=>by rw[e] at h1;simp at h1
    have:=Tr.mem r (fun k=>q (2 * k+1)) (t / 2) i h;rw[show 2 * (t / 2)+1=t by omega] at this;exact .inr (.inr this)
def Tys(P:Program):List (Nat×TI)→Prop
 | []=>True
 | p :: l=>TOk P p.1 p.2∧Tys P l
theorem Tys.mem{P:Program}:∀{l:List (Nat×TI)} {p:Nat×TI},Tys P l→p∈l→TOk P p.1 p.2
 | [],p,_,hm=>by simp at hm
 | q :: l,p,h,hm=>by
  rcases List.mem_cons.1 hm with rfl|hm
  ·exact h.1
  ·exact Tys.mem h.2 hm
theorem Tr.ok{P:Program}{tr:Tr}{l:List (Nat×TI)}(hl:tr.list (fun k=>k)=l)(h:Tys P l):∀t i,tr.get t=some i→TOk P t i:=fun t i hi=>h.mem (hl▸Tr.mem tr (fun k=>k) t i hi)
def Ai(P:Program)(t:Nat):Nat→List (Nat×Nat×Bool)→Prop
 | _,[]=>True
 | j,(o,s,g) :: l=>((0<s→FA P t j o)∧FX P t j o s g)∧Ai P t (j+1) l
theorem Ai.get{P:Program}{t:Nat}:∀{l:List (Nat×Nat×Bool)} {j0 j o s:Nat} {g:Bool},Ai P t j0 l→l[j]?=some (o,s,g)→(0<s→FA P t (j0+j) o)∧FX P t (j0+j) o s g
 | [],j0,j,o,s,g,h,hj=>by simp at hj
 | (o',s',g') :: l,j0,0,o,s,g,h,hj=>by
  simp at hj;obtain⟨rfl,rfl,rfl⟩:=hj;exact h.1
 | (o',s',g') :: l,j0,j+1,o,s,g,h,hj=>by
  have:=Ai.get h.2 (by simpa using hj)
  rwa [show j0+1+j=j0+(j+1) by omega] at this
theorem Ai.all{P:Program}{t:Nat}{l:List (Nat×Nat×Bool)}(h:Ai P t 0 l):∀j o s g,l[j]?=some (o,s,g)→(0<s→FA P t j o)∧FX P t j o s g:=fun j o s g hj=>by
 have:=Ai.get h hj
 rwa [Nat.zero_add] at this
end
end Go.Vc
end
section
namespace Go.Vc
open Go Go.RowKit Go.Sl
def LF:TypeDesc→Bool
 | .struct _=>true
 | .array _ _=>true
 | _=>false
def MX(P:Program)(f:Field):Option (Nat×Nat×Bool):=match P.info? f.type,P.underlying f.type with
 | some i,some d=>some (f.offset,i.size,LF d)
 | _,_=>none
def x7(P:Program):List Field→Option (List (Nat×Nat×Bool))
 | []=>some []
 | f :: l=>match MX P f,x7 P l with
  | some a,some b=>some (a :: b)
  | _,_=>none
def yZ(P:Program)(z:Option Value):TypeDesc→Option TK
 | .int k=>some (.int k)
 | .float k=>some (.flt k)
 | .complex k=>some (.cpx k)
 | .bool=>some .bool
 | .string=>some .str
 | .slice e=>(match P.info? e with
  | some i=>(match i.zero with
   | some z=>bif Nat.blt 0 i.size&&Nat.beq z.cells.size i.size then some (.sl e i.size i.bytes) else some .oth
   | none=>some .oth)
  | none=>some .oth)
 | .struct fs=>(match z with
  | some (.agg c)=>bif bZ c.toList&&Nat.ble c.size 200 then (match x7 P fs.toList with|some l=>some (.st l)|none=>none) else none
  | _=>none)
 | .array n e=>(match P.info? e with|some i=>some (.ar n e i.size)|none=>none)
 | .map k e=>some (.mp k e)
 | .func _ _ _=>some .fn
 | .pointer e=>(match P.info? e with
  | some i=>bif Nat.blt 0 i.size then some .ptr else some .oth
  | none=>some .oth)
 | .tuple _=>none
 | _=>some .oth
def zI(b:Bool):Option Value→List Value
 | some (.agg c)=>bif b&&(bZ c.toList&&Nat.ble c.size 200) then c.toList else []
 | some v=>bif !b&&bZ [v] then [v] else []
 | none=>[]
def GP(P:Program)(t:Nat):Option TI:=match P.underlying t,P.info? t with
 | some d,some i=>(match yZ P i.zero d with
  | some k=>some ⟨i.size,zI k.agg i.zero,k⟩
  | none=>none)
 | _,_=>none
theorem F0{b:Bool}{z:Option Value}(h:zI b z≠[]):∃v,z=some v∧v.cells=(zI b z).toArray∧bZ (zI b z)=true∧(b=true→v=.agg (zI b z).toArray)∧(b=false→zI b z=[v]):=by
 unfold zI at h ⊢
 split at h
 ·rename_i c
  cases hc:(b&&(bZ c.toList&&Nat.ble c.size 200)) with
  | false=>rw[hc] at h;exact(h rfl).elim
  | true=>
   have hc2:=hc;simp only[Bool.and_eq_true] at hc2;refine⟨_,rfl,?_⟩;rw[cond_true];refine⟨rfl,hc2.2.1,fun _=>rfl,fun hb=>?_⟩;rw[hb] at hc2
   cases hc2.1
 ·rename_i v hv
  cases hc:(!b&&bZ [v]) with
  | false=>rw[hc] at h;exact(h rfl).elim
  | true=>
   have hc2:=hc;simp only[Bool.and_eq_true,Bool.not_eq_true'] at hc2;refine⟨_,rfl,?_⟩;rw[cond_true];refine⟨?_,hc2.2,fun hb=>?_,fun _=>rfl⟩
   ·cases v<;>first|rfl|(exact absurd rfl (hv _))
   ·rw[hc2.1] at hb
    cases hb
 ·exact(h rfl).elim
theorem Fc{α β γ:Type}(x:Sem α)(f:α→Sem β)(g:β→Sem γ):(x >>= f) >>= g=x >>= fun a=>f a >>= g:=by
 induction x with
 | pure a=>rfl
 | load m a k ih=>exact congrArg (Sem.load m a) (funext fun v=>ih v)
 | store m a v k ih=>exact congrArg (Sem.store m a v) ih
 | new o k ih=>exact congrArg (Sem.new o) (funext fun v=>ih v)
 | shape n k ih=>exact congrArg (Sem.shape n) (funext fun v=>ih v)
 | freeze a n k ih=>exact congrArg (Sem.freeze a n) ih
 | frozen a k ih=>exact congrArg (Sem.frozen a) (funext fun v=>ih v)
 | getObj n k ih=>exact congrArg (Sem.getObj n) (funext fun v=>ih v)
 | setObj n o k ih=>exact congrArg (Sem.setObj n o) ih
 | choose q k ih=>exact congrArg (Sem.choose q) (funext fun v=>ih v)
 | sys q k ih=>exact congrArg (Sem.sys q) (funext fun v=>ih v)
 | program k ih=>exact congrArg Sem.program (funext fun v=>ih v)
 | mark m k ih=>exact congrArg (Sem.mark m) ih
 | halt h=>rfl
theorem LK{α:Type}(x:Sem α):(x >>= fun a=>pure a)=x:=by
 induction x with
 | pure a=>rfl
 | load m a k ih=>exact congrArg (Sem.load m a) (funext fun v=>ih v)
 | store m a v k ih=>exact congrArg (Sem.store m a v) ih
 | new o k ih=>exact congrArg (Sem.new o) (funext fun v=>ih v)
 | shape n k ih=>exact congrArg (Sem.shape n) (funext fun v=>ih v)
 | freeze a n k ih=>exact congrArg (Sem.freeze a n) ih
 | frozen a k ih=>exact congrArg (Sem.frozen a) (funext fun v=>ih v)
 | getObj n k ih=>exact congrArg (Sem.getObj n) (funext fun v=>ih v)
 | setObj n o k ih=>exact congrArg (Sem.setObj n o) ih
 | choose q k ih=>exact congrArg (Sem.choose q) (funext fun v=>ih v)
 | sys q k ih=>exact congrArg (Sem.sys q) (funext fun v=>ih v)
 | program k ih=>exact congrArg Sem.program (funext fun v=>ih v)
 | mark m k ih=>exact congrArg (Sem.mark m) ih
 | halt h=>rfl
instance:LawfulMonad Sem:=LawfulMonad.mk' Sem (id_map:=fun x=>LK x) (pure_bind:=fun _ _=>rfl) (bind_assoc:=fun x f g=>Fc x f g)
theorem E2{α β:Type}{P:Program}{w:World}{f:α→Sem β}{g:α→β}(arr0:Array α)(h:∀x∈arr0,(f x).run P w=.ok (g x) w):(arr0.mapM f).run P w=.ok (arr0.map g) w:=by
 have key:∀(l:List α) (bs:Array β),(∀x∈l,(f x).run P w=.ok (g x) w)→(l.foldlM (fun bs a=>Functor.map bs.push (f a)) bs).run P w=.ok (bs++(l.map g).toArray) w:=by
  intro l
  induction l with
  | nil=>intro bs _;simp[Sem.run_pure]
  | cons a l ih=>
   intro bs hl;rw[List.foldlM_cons,Sem.run_bind,map_eq_pure_bind,Sem.run_bind,hl a (by simp),Result.andThen_ok];rw[show Sem.run P (pure (bs.push (g a))) w=.ok (bs.push (g a)) w from rfl,Result.andThen_ok,ih _ fun x hx=>hl x (by simp[hx])];simp
 rw[Array.mapM_eq_foldlM,←Array.foldlM_toList,key arr0.toList #[] fun x hx=>h x (by simpa using hx)];rw[show #[]++(arr0.toList.map g).toArray=arr0.map g from Array.ext' (by simp)]
theorem zH{P:Program}{t:Nat}{fs:Array Field}(hu:P.underlying t=some (.struct fs)):∀(k:Nat) (l:List Field) (r:List (Nat×Nat×Bool)),(∀j,l[j]?=fs[k+j]?)→x7 P l=some r→r.length=l.length∧(∀(j o s:Nat) (g:Bool),r[j]?=some (o,s,g)→∃f i,l[j]?=some f∧P.info? f.type=some i∧o=f.offset∧s=i.size∧(0<s→FA P t (k+j) o)∧FX P t (k+j) o s g)
 | k,[],r,hl,h=>by
  rw[x7] at h
  cases h;exact⟨rfl,fun j o s g hj=>by simp at hj⟩
 | k,f :: l,r,hl,h=>by
  rw[x7] at h
  split at h
  ·rename_i a b ha hb
   cases h;obtain⟨h1,h2⟩:=zH hu (k+1) l b (fun j=>by have:=hl (j+1);rw[List.getElem?_cons_succ] at this;rw[this];congr 1;omega) hb;refine⟨by rw[List.length_cons,List.length_cons,h1],fun j o s g hj=>?_⟩
   cases j with
   | zero=>
    simp only[List.getElem?_cons_zero,Option.some.injEq] at hj;subst hj;unfold MX at ha
    split at ha
    ·rename_i i d hi hd
     cases ha;have hf:fs[k+0]?=some f:=by rw[←hl 0];rfl
     refine⟨f,i,rfl,hi,rfl,rfl,fun hs=>FA.of hu hf rfl ?_,?_⟩
     ·rw[hi];show some (Nat.blt 0 i.size)=some true
      rw[show Nat.blt 0 i.size=true from Nat.ble_eq_true_of_le hs]
     ·cases hg:LF d with
      | false=>exact FX.of1 hu hf rfl hd (by cases d<;>first|rfl|cases hg)
      | true=>exact FX.ofA hu hf rfl hd (by cases d<;>first|rfl|cases hg) (by rw[hi];rfl)
    ·cases ha
   | succ j=>
    obtain⟨f',i,q1,q2,q3,q4,q5,q6⟩:=h2 j o s g (by simpa using hj);exact⟨f',i,by simpa using q1,q2,q3,q4,by rw[show k+(j+1)=k+1+j by omega];exact q5,by rw[show k+(j+1)=k+1+j by omega];exact q6⟩
  ·cases h
def KOk(P:Program)(t:Nat)(k:TK)(z:List Value):Prop:=match k with
 | .int k=>UD P t (.int k)
 | .flt k=>UD P t (.float k)
 | .cpx k=>UD P t (.complex k)
 | .bool=>UD P t .bool
 | .str=>UD P t .string
 | .sl e sz by_=>∃z,SlT P t e sz by_ z
 | .st fs=>(∀j o s g,fs[j]?=some (o,s,g)→(0<s→FA P t j o)∧FX P t j o s g)∧PL P t (.agg z.toArray) (fs.map fun p=>(p.1,p.2.1)).toArray
 | .ar len e sz=>AT P t len e sz∧(z≠[]→ZV P t (.agg z.toArray))
 | .mp k e=>UD P t (.map k e)
 | .fn=>∃a b c,UD P t (.func a b c)
 | .ptr=>∃e n,UD P t (.pointer e)∧SZ P e n∧0<n
 | .oth=>True
theorem Hg{P:Program}{t:Nat}{i:TI}(h:GP P t=some i):TOk P t i:=by
 unfold GP at h
 split at h
 ·rename_i d inf hu hi
  split at h
  ·rename_i k hk
   cases h;have hsz:SZ P t inf.size:=⟨⟨inf,hi,rfl⟩⟩
   have hs:(P.info? t).map (·.size)=some inf.size:=by rw[hi];rfl
   have zv:∀v,inf.zero=some v→ZV P t v:=fun v hv=>ZV.of (by rw[hi];show some inf.zero=_;rw[hv])
   have hz:zI k.agg inf.zero≠[]→∃v,ZV P t v∧v.cells=(zI k.agg inf.zero).toArray∧bZ (zI k.agg inf.zero)=true:=fun hne=>by
    obtain⟨v,h1,h2,h3,_⟩:=F0 hne;exact⟨v,zv v h1,h2,h3⟩
   have hzd:zI k.agg inf.zero≠[]→match k.agg with
     | true=>ZV P t (.agg (zI k.agg inf.zero).toArray)
     | false=>∀u,zI k.agg inf.zero=[u]→ZV P t u:=fun hne=>by
    obtain⟨v,h1,h2,h3,h4,h5⟩:=F0 hne
    split
    ·rename_i hb;rw[←h4 hb];exact zv v h1
    ·rename_i hb;intro u hu2;rw[h5 hb] at hu2
     cases hu2;exact zv v h1
   have ha:k.agg=LF d∧KOk P t k (zI k.agg inf.zero):=by
    clear hz hzd
    cases d with
    | int k'=>cases hk;exact⟨rfl,⟨hu⟩⟩
    | float k'=>cases hk;exact⟨rfl,⟨hu⟩⟩
    | complex k'=>cases hk;exact⟨rfl,⟨hu⟩⟩
    | bool=>cases hk;exact⟨rfl,⟨hu⟩⟩
    | string=>cases hk;exact⟨rfl,⟨hu⟩⟩
    | map k' e=>cases hk;exact⟨rfl,⟨hu⟩⟩
    | func a b c=>cases hk;exact⟨rfl,_,_,_,⟨hu⟩⟩
    | tuple a=>cases hk
    | slice e=>
     simp only[yZ] at hk
     split at hk
     ·rename_i ie hie
      split at hk
      ·rename_i z hz0
       cases hc:(Nat.blt 0 ie.size&&Nat.beq z.cells.size ie.size) with
       | false=>rw[hc] at hk;cases hk;exact⟨rfl,trivial⟩
       | true=>
        rw[hc] at hk
        cases hk;rw[Bool.and_eq_true] at hc;exact⟨rfl,z,SlT.of hu (by rw[hie];show some (ie.zero,ie.size,ie.bytes)=_;rw[hz0]) (Nat.eq_of_beq_eq_true hc.2) hc.1⟩
      ·cases hk;exact⟨rfl,trivial⟩
     ·cases hk;exact⟨rfl,trivial⟩
    | array n e=>
     simp only[yZ] at hk
     split at hk
     ·rename_i ie hie
      cases hk;refine⟨rfl,⟨hu,ie,hie,rfl⟩,fun hne=>?_⟩;obtain⟨v,h1,h2,h3,h4,h5⟩:=F0 hne;rw[←h4 rfl];exact zv v h1
     ·cases hk
    | pointer e=>
     simp only[yZ] at hk
     split at hk
     ·rename_i ie hie
      cases hc:Nat.blt 0 ie.size with
      | false=>rw[hc] at hk;cases hk;exact⟨rfl,trivial⟩
      | true=>rw[hc] at hk;cases hk;exact⟨rfl,e,ie.size,⟨hu⟩,⟨⟨ie,hie,rfl⟩⟩,Nat.le_of_ble_eq_true hc⟩
     ·cases hk;exact⟨rfl,trivial⟩
    | struct fs=>
     simp only[yZ] at hk
     split at hk
     ·rename_i c hz0
      cases hc:(bZ c.toList&&Nat.ble c.size 200) with
      | false=>rw[hc] at hk;cases hk
      | true=>
       rw[hc,cond_true] at hk
       split at hk
       ·rename_i l hl
        cases hk;obtain⟨q1,q2⟩:=zH hu 0 fs.toList l (fun j=>by simp) hl;refine⟨rfl,fun j o s g hj=>?_,?_⟩
        ·obtain⟨f,i,_,_,_,_,r1,r2⟩:=q2 j o s g hj;rw[Nat.zero_add] at r1 r2;exact⟨r1,r2⟩
        ·have hzc:zI true inf.zero=c.toList:=by rw[hz0];simp only[zI,hc,Bool.true_and,cond_true]
         have e:(fs.map fun f=>(f.offset,((P.info? f.type).map (·.size)).getD 0))=(l.map fun p=>(p.1,p.2.1)).toArray:=by
          apply Array.ext';rw[Array.toList_map];apply List.ext_getElem?;intro j;rw[List.getElem?_map,List.getElem?_map]
          by_cases hj:j<l.length
          ·rw[List.getElem?_eq_getElem hj];obtain⟨f,i,r0,r1,r2,r3,_⟩:=q2 j l[j].1 l[j].2.1 l[j].2.2 (List.getElem?_eq_getElem hj);rw[r0];simp[r1,r2,r3]
          ·rw[List.getElem?_eq_none (by omega),List.getElem?_eq_none (by omega)];rfl
         show PL P t (.agg (zI true inf.zero).toArray) _
         rw[hzc,←e];refine PL.of (zv _ hz0).run hu fun w=>?_
         refine E2 fs fun f hf=>?_;obtain⟨j,hj,hjf⟩:=List.getElem_of_mem (show f∈fs.toList by simpa using hf);have hjl:j<l.length:=by omega
         obtain⟨f',i,r0,r1,_⟩:=q2 j l[j].1 l[j].2.1 l[j].2.2 (List.getElem?_eq_getElem hjl);rw[List.getElem?_eq_getElem hj,hjf] at r0
         cases r0;simp[sizeOf,typeInfo,r1]
       ·cases hk
     ·cases hk
    | _=>cases hk;exact⟨rfl,trivial⟩
   refine⟨hsz,hz,?_,(by have:=ha.2;unfold KOk at this;cases k<;>exact this),hzd⟩;dsimp only
   split
   ·rename_i hb;exact LN.of hu (by rw[ha.1] at hb;cases d<;>first|rfl|cases hb) hs
   ·rename_i hb;exact L1.of hu (by rw[ha.1] at hb;cases d<;>first|rfl|cases hb)
  ·cases h
 ·cases h
theorem Tr.raw{P:Program}{tr:Tr}(h:(tr.list fun k=>k).map (fun p=>GP P p.1)=(tr.list fun k=>k).map fun p=>some p.2):∀t i,tr.get t=some i→TOk P t i:=fun t i hi=>by
 have hm:=Tr.mem tr (fun k=>k) t i hi;obtain⟨j,hj,e⟩:=List.getElem_of_mem hm;have:=congrArg (fun l=>l[j]?) h;simp only[List.getElem?_map,List.getElem?_eq_getElem hj,Option.map_some,e] at this;exact Hg (Option.some.inj this)
end Go.Vc
end
section
namespace Go.Proofs.YtoklkjkmbfebjaaGreatDoor
open Go Go.Sl Go.Vc
set_option maxRecDepth 100000
def tyT:Tr:=(.n none (.n none (.n none (.n none (.n none (.n none (.n none .e (.n (some ⟨2,[.nilFunc,.nilFunc],(.st [(0,1,false),(1,1,false)])⟩) .e .e)) .e) (.n none (.n none (.n none .e (.n (some ⟨1,[.nilFunc],.fn⟩) .e .e)) (.n (some ⟨1,[.nilFunc],.fn⟩) .e .e)) (.n (some ⟨3,[(.string ⟨#[]⟩),(.slice none 0 0),(.int .i64 0)],(.st [(0,1,false),(1,2,true)])⟩) (.n none .e (.n (some ⟨1,[.nilFunc],.fn⟩) .e .e)) (.n (some ⟨1,[.nilFunc],.fn⟩) .e .e)))) (.n (some ⟨4,[(.int .i64 0),(.int .i64 0),(.bool false),(.int .u8 0)],(.st [(0,1,false),(1,1,false),(2,1,false),(3,1,false)])⟩) (.n none (.n none (.n none .e (.n (some ⟨20,[(.int .i64 0),(.int .i64 0),(.int .i64 0),(.int .i64 0),(.int .i64 0),(.int .i64 0),(.int .i64 0),(.int .i64 0),(.int .i64 0),(.int .i64 0),(.int .i64 0),(.int .i64 0),(.int .i64 0),(.int .i64 0),(.int .i64 0),(.int .i64 0),(.int .i64 0),(.int .i64 0),(.int .i64 0),(.int .i64 0)],(.ar 10 135 2)⟩) .e .e)) .e) (.n (some ⟨2,[(.slice none 0 0),(.int .i64 0)],(.st [(0,1,false),(1,1,false)])⟩) .e (.n (some ⟨1,[.nilFunc],.fn⟩) .e (.n (some ⟨64,[(.int .u8 0),(.int .u8 0),(.int .u8 0),(.int .u8 0),(.int .u8 0),(.int .u8 0),(.int .u8 0),(.int .u8 0),(.int .u8 0),(.int .u8 0),(.int .u8 0),(.int .u8 0),(.int .u8 0),(.int .u8 0),(.int .u8 0),(.int .u8 0),(.int .u8 0),(.int .u8 0),(.int .u8 0),(.int .u8 0),(.int .u8 0),(.int .u8 0),(.int .u8 0),(.int .u8 0),(.int .u8 0),(.int .u8 0),(.int .u8 0),(.int .u8 0),(.int .u8 0),(.int .u8 0),(.int .u8 0),(.int .u8 0),(.int .u8 0),(.int .u8 0),(.int .u8 0),(.int .u8 0),(.int .u8 0),(.int .u8 0),(.int .u8 0),(.int .u8 0),(.int .u8 0),(.int .u8 0),(.int .u8 0),(.int .u8 0),(.int .u8 0),(.int .u8 0),(.int .u8 0),(.int .u8 0),(.int .u8 0),(.int .u8 0),(.int .u8 0),(.int .u8 0),(.int .u8 0),(.int .u8 0),(.int .u8 0),(.int .u8 0),(.int .u8 0),(.int .u8 0),(.int .u8 0),(.int .u8 0),(.int .u8 0),(.int .u8 0),(.int .u8 0),(.int .u8 0)],(.ar 64 5 1)⟩) .e .e)))) (.n (some ⟨1,[(.slice none 0 0)],(.st [(0,1,false)])⟩) .e (.n (some ⟨1,[.nilFunc],.fn⟩) (.n none .e (.n (some ⟨1,[(.pointer none)],.ptr⟩) .e .e)) (.n (some ⟨1,[.nilFunc],.fn⟩) .e .e))))) (.n (some ⟨1,[(.bool false)],.bool⟩) (.n none (.n none (.n none .e (.n (some ⟨6,[(.int .i64 0),(.slice none 0 0),(.slice none 0 0),(.int .i64 0),(.int .u8 0),(.slice none 0 0)],(.st [(0,2,true),(2,2,true),(4,1,false),(5,1,false)])⟩) .e (.n (some ⟨1,[.nilFunc],.fn⟩) .e .e))) (.n (some ⟨1,[.nilFunc],.fn⟩) .e (.n (some ⟨64,[(.int .u64 0),(.int .u64 0),(.int .u64 0),(.int .u64 0),(.int .u64 0),(.int .u64 0),(.int .u64 0),(.int .u64 0),(.int .u64 0),(.int .u64 0),(.int .u64 0),(.int .u64 0),(.int .u64 0),(.int .u64 0),(.int .u64 0),(.int .u64 0),(.int .u64 0),(.int .u64 0),(.int .u64 0),(.int .u64 0),(.int .u64 0),(.int .u64 0),(.int .u64 0),(.int .u64 0),(.int .u64 0),(.int .u64 0),(.int .u64 0),(.int .u64 0),(.int .u64 0),(.int .u64 0),(.int .u64 0),(.int .u64 0),(.int .u64 0),(.int .u64 0),(.int .u64 0),(.int .u64 0),(.int .u64 0),(.int .u64 0),(.int .u64 0),(.int .u64 0),(.int .u64 0),(.int .u64 0),(.int .u64 0),(.int .u64 0),(.int .u64 0),(.int .u64 0),(.int .u64 0),(.int .u64 0),(.int .u64 0),(.int .u64 0),(.int .u64 0),(.int .u64 0),(.int .u64 0),(.int .u64 0),(.int .u64 0),(.int .u64 0),(.int .u64 0),(.int .u64 0),(.int .u64 0),(.int .u64 0),(.int .u64 0),(.int .u64 0),(.int .u64 0),(.int .u64 0)],(.ar 64 50 1)⟩) .e (.n (some ⟨1,[.nilFunc],.fn⟩) .e .e)))) (.n none (.n none .e (.n none .e (.n (some ⟨1,[(.pointer none)],.oth⟩) .e .e))) (.n (some ⟨4,[(.int .u64 0),(.int .u64 0),(.int .u64 0),(.int .u64 0)],(.ar 4 50 1)⟩) .e (.n (some ⟨1,[.nilFunc],.fn⟩) .e .e)))) (.n none (.n none (.n none .e (.n none .e (.n (some ⟨3,[(.int .i64 0),(.int .i64 0),(.bool false)],(.st [(0,1,false),(1,1,false),(2,1,false)])⟩) .e .e))) (.n none .e (.n (some ⟨1,[(.slice none 0 0)],(.sl 4 1 1)⟩) .e .e))) (.n (some ⟨1,[.nilFunc],.fn⟩) (.n none .e (.n none .e (.n (some ⟨2,[(.int .u8 0),(.int .u8 0)],(.ar 2 5 1)⟩) .e .e))) (.n (some ⟨2,[(.int .i64 0),(.slice none 0 0)],(.st [(0,1,false),(1,1,false)])⟩) .e .e))))) (.n (some ⟨1,[(.int .i64 0)],(.int .i64)⟩) (.n none (.n none (.n none (.n none .e (.n (some ⟨1,[.nilFunc],.fn⟩) .e .e)) (.n none .e (.n (some ⟨1,[.nilFunc],.fn⟩) .e (.n (some ⟨1,[(.int .u64 0)],(.int .u64)⟩) .e .e)))) (.n none (.n none (.n none .e (.n (some ⟨1,[(.slice none 0 0)],(.sl 163 2 16)⟩) .e .e)) (.n (some ⟨1,[.nilFunc],.fn⟩) .e (.n (some ⟨30,[(.string ⟨#[]⟩),(.string ⟨#[]⟩),(.string ⟨#[]⟩),(.string ⟨#[]⟩),(.string ⟨#[]⟩),(.string ⟨#[]⟩),(.string ⟨#[]⟩),(.string ⟨#[]⟩),(.string ⟨#[]⟩),(.string ⟨#[]⟩),(.string ⟨#[]⟩),(.string ⟨#[]⟩),(.string ⟨#[]⟩),(.string ⟨#[]⟩),(.string ⟨#[]⟩),(.string ⟨#[]⟩),(.string ⟨#[]⟩),(.string ⟨#[]⟩),(.string ⟨#[]⟩),(.string ⟨#[]⟩),(.string ⟨#[]⟩),(.string ⟨#[]⟩),(.string ⟨#[]⟩),(.string ⟨#[]⟩),(.string ⟨#[]⟩),(.string ⟨#[]⟩),(.string ⟨#[]⟩),(.string ⟨#[]⟩),(.string ⟨#[]⟩),(.string ⟨#[]⟩)],(.ar 10 209 3)⟩) .e .e))) (.n (some ⟨1,[(.int .u64 0)],(.int .u64)⟩) .e (.n (some ⟨1,[.nilFunc],.fn⟩) .e .e)))) (.n (some ⟨1,[(.string ⟨#[]⟩)],.str⟩) (.n none (.n none .e (.n none .e (.n (some ⟨1,[.nilFunc],.fn⟩) .e .e))) (.n none .e (.n (some ⟨1,[.nilFunc],.fn⟩) .e (.n (some ⟨24,[(.int .u8 0),(.int .u8 0),(.int .u8 0),(.int .u8 0),(.int .u8 0),(.int .u8 0),(.int .u8 0),(.int .u8 0),(.int .u8 0),(.int .u8 0),(.int .u8 0),(.int .u8 0),(.int .u8 0),(.int .u8 0),(.int .u8 0),(.int .u8 0),(.int .u8 0),(.int .u8 0),(.int .u8 0),(.int .u8 0),(.int .u8 0),(.int .u8 0),(.int .u8 0),(.int .u8 0)],(.ar 24 5 1)⟩) .e .e)))) (.n none (.n none .e (.n (some ⟨4,[(.slice none 0 0),(.int .i64 0),(.int .i64 0),(.int .i64 0)],(.st [(0,2,true),(2,1,false),(3,1,false)])⟩) .e (.n (some ⟨1,[(.slice none 0 0)],(.sl 220 2 2)⟩) .e .e))) (.n (some ⟨1,[.nilFunc],.fn⟩) .e (.n (some ⟨1,[.nilFunc],.fn⟩) .e .e))))) (.n (some ⟨1,[(.int .u8 0)],(.int .u8)⟩) (.n none (.n none .e (.n (some ⟨1,[(.slice none 0 0)],(.sl 54 9 96)⟩) (.n none .e (.n (some ⟨1,[.nilFunc],.fn⟩) .e .e)) (.n (some ⟨66,[(.int .i64 0),(.int .u64 0),(.int .u64 0),(.int .u64 0),(.int .u64 0),(.int .u64 0),(.int .u64 0),(.int .u64 0),(.int .u64 0),(.int .u64 0),(.int .u64 0),(.int .u64 0),(.int .u64 0),(.int .u64 0),(.int .u64 0),(.int .u64 0),(.int .u64 0),(.int .u64 0),(.int .u64 0),(.int .u64 0),(.int .u64 0),(.int .u64 0),(.int .u64 0),(.int .u64 0),(.int .u64 0),(.int .u64 0),(.int .u64 0),(.int .u64 0),(.int .u64 0),(.int .u64 0),(.int .u64 0),(.int .u64 0),(.int .u64 0),(.int .u64 0),(.int .u64 0),(.int .u64 0),(.int .u64 0),(.int .u64 0),(.int .u64 0),(.int .u64 0),(.int .u64 0),(.int .u64 0),(.int .u64 0),(.int .u64 0),(.int .u64 0),(.int .u64 0),(.int .u64 0),(.int .u64 0),(.int .u64 0),(.int .u64 0),(.int .u64 0),(.int .u64 0),(.int .u64 0),(.int .u64 0),(.int .u64 0),(.int .u64 0),(.int .u64 0),(.int .u64 0),(.int .u64 0),(.int .u64 0),(.int .u64 0),(.int .u64 0),(.int .u64 0),(.int .u64 0),(.int .u64 0),(.int .u64 0)],(.st [(0,1,false),(1,64,true),(65,1,false)])⟩) .e .e))) (.n (some ⟨1,[(.slice none 0 0)],(.sl 49 3 48)⟩) .e (.n (some ⟨9,[(.int .u8 0),(.int .u64 0),(.int .u64 0),(.int .u64 0),(.int .u64 0),(.string ⟨#[]⟩),(.int .i64 0),(.int .i64 0),(.slice none 0 0)],(.st [(0,1,false),(1,4,true),(5,1,false),(6,1,false),(7,1,false),(8,1,false)])⟩) .e .e))) (.n none (.n none (.n none (.n none .e (.n (some ⟨1,[.nilFunc],.fn⟩) .e .e)) (.n none .e (.n (some ⟨1,[(.pointer none)],.ptr⟩) .e .e))) (.n none .e (.n (some ⟨1,[.nilFunc],.fn⟩) .e .e))) (.n (some ⟨1,[(.slice none 0 0)],(.sl 27 5 48)⟩) (.n none .e (.n none .e (.n (some ⟨9,[(.int .i64 0),(.int .i64 0),(.string ⟨#[]⟩),(.int .i64 0),(.int .i64 0),(.string ⟨#[]⟩),(.int .i64 0),(.int .i64 0),(.string ⟨#[]⟩)],(.ar 3 221 3)⟩) .e .e))) (.n (some ⟨1,[.nilFunc],.fn⟩) (.n none .e (.n (some ⟨1,[.nilIface],.oth⟩) .e .e)) (.n (some ⟨1,[(.slice none 0 0)],(.sl 157 3 3)⟩) .e .e))))))) (.n (some ⟨1,[.nilFunc],.fn⟩) (.n none (.n none (.n none (.n none (.n none .e (.n (some ⟨14,[.nilFunc,.nilFunc,.nilFunc,.nilFunc,.nilFunc,.nilFunc,.nilFunc,.nilFunc,.nilFunc,.nilFunc,.nilFunc,.nilFunc,.nilFunc,.nilFunc],(.ar 7 64 2)⟩) .e .e)) (.n (some ⟨1,[(.int .i64 0)],(.int .i64)⟩) (.n none .e (.n (some ⟨1,[.nilFunc],.fn⟩) .e .e)) (.n (some ⟨1,[.nilFunc],.fn⟩) .e .e))) (.n none (.n none .e (.n (some ⟨1,[.nilFunc],.fn⟩) .e (.n (some ⟨3,[(.string ⟨#[]⟩),(.string ⟨#[]⟩),(.string ⟨#[]⟩)],(.st [(0,1,false),(1,1,false),(2,1,false)])⟩) .e .e))) (.n (some ⟨3,[(.string ⟨#[]⟩),(.slice none 0 0),(.int .i64 0)],(.st [(0,1,false),(1,2,true)])⟩) (.n none .e (.n (some ⟨10,[.nilFunc,.nilFunc,.nilFunc,.nilFunc,.nilFunc,.nilFunc,.nilFunc,.nilFunc,.nilFunc,.nilFunc],(.ar 10 176 1)⟩) .e .e)) (.n (some ⟨1,[.nilFunc],.fn⟩) .e .e)))) (.n (some ⟨1,[(.string ⟨#[]⟩)],.str⟩) (.n none (.n none .e (.n none .e (.n (some ⟨1,[.nilFunc],.fn⟩) .e .e))) (.n none (.n none .e (.n (some ⟨1,[(.pointer none)],.ptr⟩) .e .e)) (.n (some ⟨1,[.nilFunc],.fn⟩) .e .e))) (.n (some ⟨1,[(.slice none 0 0)],(.sl 3 1 8)⟩) (.n none .e (.n (some ⟨1,[(.int .i64 0)],(.int .i64)⟩) .e .e)) (.n (some ⟨1,[.nilFunc],.fn⟩) (.n none .e (.n (some ⟨1,[(.slice none 0 0)],(.sl 5 1 1)⟩) .e .e)) (.n (some ⟨1,[.nilFunc],.fn⟩) .e .e))))) (.n (some ⟨1,[(.int .u8 0)],(.int .u8)⟩) (.n none (.n none (.n none (.n none .e (.n (some ⟨1,[.nilFunc],.fn⟩) .e .e)) (.n (some ⟨6,[(.int .i64 0),(.slice none 0 0),(.slice none 0 0),(.int .i64 0),(.int .u8 0),(.slice none 0 0)],(.st [(0,2,true),(2,2,true),(4,1,false),(5,1,false)])⟩) .e (.n (some ⟨1,[.nilFunc],.fn⟩) .e .e))) (.n none (.n none .e (.n (some ⟨1,[(.slice none 0 0)],(.st [(0,1,false)])⟩) .e .e)) (.n (some ⟨66,[(.int .i64 0),(.int .u64 0),(.int .u64 0),(.int .u64 0),(.int .u64 0),(.int .u64 0),(.int .u64 0),(.int .u64 0),(.int .u64 0),(.int .u64 0),(.int .u64 0),(.int .u64 0),(.int .u64 0),(.int .u64 0),(.int .u64 0),(.int .u64 0),(.int .u64 0),(.int .u64 0),(.int .u64 0),(.int .u64 0),(.int .u64 0),(.int .u64 0),(.int .u64 0),(.int .u64 0),(.int .u64 0),(.int .u64 0),(.int .u64 0),(.int .u64 0),(.int .u64 0),(.int .u64 0),(.int .u64 0),(.int .u64 0),(.int .u64 0),(.int .u64 0),(.int .u64 0),(.int .u64 0),(.int .u64 0),(.int .u64 0),(.int .u64 0),(.int .u64 0),(.int .u64 0),(.int .u64 0),(.int .u64 0),(.int .u64 0),(.int .u64 0),(.int .u64 0),(.int .u64 0),(.int .u64 0),(.int .u64 0),(.int .u64 0),(.int .u64 0),(.int .u64 0),(.int .u64 0),(.int .u64 0),(.int .u64 0),(.int .u64 0),(.int .u64 0),(.int .u64 0),(.int .u64 0),(.int .u64 0),(.int .u64 0),(.int .u64 0),(.int .u64 0),(.int .u64 0),(.int .u64 0),(.int .u64 0)],(.st [(0,1,false),(1,64,true),(65,1,false)])⟩) .e (.n (some ⟨1,[.nilFunc],.fn⟩) .e .e)))) (.n none .e (.n (some ⟨9,[(.int .u8 0),(.int .u64 0),(.int .u64 0),(.int .u64 0),(.int .u64 0),(.string ⟨#[]⟩),(.int .i64 0),(.int .i64 0),(.slice none 0 0)],(.st [(0,1,false),(1,4,true),(5,1,false),(6,1,false),(7,1,false),(8,1,false)])⟩) .e (.n (some ⟨1,[.nilFunc],.fn⟩) .e .e)))) (.n none (.n none (.n none (.n none .e (.n (some ⟨1,[.nilFunc],.fn⟩) .e .e)) (.n none .e (.n (some ⟨1,[(.slice none 0 0)],(.sl 204 3 24)⟩) .e .e))) (.n none .e (.n (some ⟨1,[.nilFunc],.fn⟩) .e .e))) (.n none (.n none (.n none .e (.n (some ⟨3,[(.bool false),(.bool false),(.bool false)],(.st [(0,1,false),(1,1,false),(2,1,false)])⟩) .e .e)) (.n none .e (.n (some ⟨3,[(.int .i64 0),(.int .i64 0),(.string ⟨#[]⟩)],(.st [(0,1,false),(1,1,false),(2,1,false)])⟩) .e .e))) (.n (some ⟨1,[.nilFunc],.fn⟩) .e .e))))) (.n (some ⟨1,[(.int .i64 0)],(.int .i64)⟩) (.n none (.n none (.n none (.n none .e (.n (some ⟨1,[(.slice none 0 0)],(.sl 40 2 32)⟩) .e .e)) (.n none (.n none .e (.n (some ⟨2,[(.int .i64 0),(.int .i64 0)],(.st [(0,1,false),(1,1,false)])⟩) .e .e)) (.n (some ⟨64,[(.int .u64 0),(.int .u64 0),(.int .u64 0),(.int .u64 0),(.int .u64 0),(.int .u64 0),(.int .u64 0),(.int .u64 0),(.int .u64 0),(.int .u64 0),(.int .u64 0),(.int .u64 0),(.int .u64 0),(.int .u64 0),(.int .u64 0),(.int .u64 0),(.int .u64 0),(.int .u64 0),(.int .u64 0),(.int .u64 0),(.int .u64 0),(.int .u64 0),(.int .u64 0),(.int .u64 0),(.int .u64 0),(.int .u64 0),(.int .u64 0),(.int .u64 0),(.int .u64 0),(.int .u64 0),(.int .u64 0),(.int .u64 0),(.int .u64 0),(.int .u64 0),(.int .u64 0),(.int .u64 0),(.int .u64 0),(.int .u64 0),(.int .u64 0),(.int .u64 0),(.int .u64 0),(.int .u64 0),(.int .u64 0),(.int .u64 0),(.int .u64 0),(.int .u64 0),(.int .u64 0),(.int .u64 0),(.int .u64 0),(.int .u64 0),(.int .u64 0),(.int .u64 0),(.int .u64 0),(.int .u64 0),(.int .u64 0),(.int .u64 0),(.int .u64 0),(.int .u64 0),(.int .u64 0),(.int .u64 0),(.int .u64 0),(.int .u64 0),(.int .u64 0),(.int .u64 0)],(.ar 64 50 1)⟩) .e .e))) (.n none (.n none .e (.n (some ⟨1,[(.slice none 0 0)],(.sl 60 2 32)⟩) .e .e)) (.n (some ⟨4,[(.int .u64 0),(.int .u64 0),(.int .u64 0),(.int .u64 0)],(.ar 4 50 1)⟩) (.n none .e (.n (some ⟨1,[.nilFunc],.fn⟩) .e .e)) (.n (some ⟨1,[.nilFunc],.fn⟩) .e .e)))) (.n (some ⟨1,[(.string ⟨#[]⟩)],.str⟩) (.n none (.n none (.n none .e (.n (some ⟨1,[(.map none)],(.mp 9 3)⟩) .e .e)) .e) (.n none .e (.n (some ⟨1,[.nilFunc],.fn⟩) .e .e))) (.n (some ⟨5,[(.int .u8 0),(.int .u8 0),(.int .i64 0),(.slice none 0 0),(.int .i64 0)],(.st [(0,1,false),(1,1,false),(2,1,false),(3,1,false),(4,1,false)])⟩) (.n none .e (.n (some ⟨4,[(.slice none 0 0),(.int .i64 0),(.int .i64 0),(.int .i64 0)],(.st [(0,2,true),(2,1,false),(3,1,false)])⟩) .e .e)) (.n none (.n none .e (.n (some ⟨2,[(.pointer none),(.slice none 0 0)],(.st [(0,1,false),(1,1,false)])⟩) .e .e)) .e)))) (.n (some ⟨4,[(.int .i64 0),(.int .i64 0),(.bool false),(.int .u8 0)],(.st [(0,1,false),(1,1,false),(2,1,false),(3,1,false)])⟩) (.n none (.n none (.n none (.n none .e (.n (some ⟨2,[(.int .i64 0),(.int .i64 0)],(.ar 2 3 1)⟩) .e .e)) (.n none .e (.n (some ⟨1,[(.pointer none)],.ptr⟩) .e .e))) (.n none (.n none .e (.n (some ⟨10,[.nilFunc,.nilFunc,.nilFunc,.nilFunc,.nilFunc,.nilFunc,.nilFunc,.nilFunc,.nilFunc,.nilFunc],(.ar 10 166 1)⟩) .e .e)) .e)) (.n none .e (.n (some ⟨1,[.nilFunc],.fn⟩) .e (.n (some ⟨1,[.nilFunc],.fn⟩) .e .e)))) (.n none (.n none .e (.n none .e (.n (some ⟨1,[.nilFunc],.fn⟩) .e .e))) (.n none (.n none (.n none .e (.n (some ⟨1,[.nilFunc],.fn⟩) .e .e)) .e) .e))))))
def tyE:TE:=tyT.get
theorem Bj:∀t i,tyE t=some i→TOk Tryz.prog t i:=Tr.raw (tr:=tyT) (by kernel_rfl)
end Go.Proofs.YtoklkjkmbfebjaaGreatDoor
end
