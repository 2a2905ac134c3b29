/- The texts that the card needs, part 9. -/
import Derived.Test.YthebhpcjcihjgaaGreatDoorP7
set_option linter.all false
section
namespace Go.Km
open Go Go.Vc Go.Proofs Go.ab Go.Proofs.YthebhpcjcihjgaaGreatDoor
set_option maxRecDepth 100000
set_option maxHeartbeats 0
instance(g:List Dfn)(l:List Fl)(t:Tre):C 107 [aN g,eF l,aw t] (.tp [eF (aG g l t.nodes),boF true]) false ((g.length≤1000∧eL g=false)∧l.length=g.length∧t.wf∧ax t∧kD g t.nodes):=⟨fun ⟨⟨hg,htw⟩,hl,hw,hR,hN⟩=>by
 have hlen:=hw.len;simp only[b9] at hlen;have hr:ao t=true:=hR.right;have hpl:g.length≤1000∧eL g=false:=⟨hg,htw⟩
 have hnp:g.length≤1000∧l.length=g.length∧t.wf∧ax t∧kD g t.nodes:=⟨hg,hl,hw,hR,hN⟩
 have hlook:∀s,(jF (.vl (.string s)) (g.zipIdx.map plR) 0).toList[0]?=some (match bf g s with
   | some j=>some (j,inF (j:Int))
   | none=>none):=fun s=>by
  rw[eT]
  cases bf g s<;>simp
 refine kf rfl rfl ?_;repeat' first|exact k9|refine k2 ?_|apply kA|apply kI;intro hc|refine k8 ?_|apply kL;intro hl
 apply kCt [1,5,8,27,28,29] [];conv=>whnf
 refine Lp.ind (fun z:Nat=>t.nodes.length - z) (fun z=>z≤t.nodes.length) (fun z=>[(29,InD z)]) (fun _=>[]) (fun _=>_) 0 (Oq _) rfl rfl rfl ?_
 rintro G i ih hi
 by_cases hx:i<t.nodes.length
 ·have hni:=hN _ (Of hx);have hlk:=hlook t.nodes[i].text
  by_cases hk:t.nodes[i].kind=3
  ·obtain⟨j,hj⟩:=PV.1 (hni hk);rw[hj] at hlk;dsimp only at hlk
   repeat' first|exact k9|refine k2 ?_|apply kA|apply kI;intro hc|refine k8 ?_|apply kL;intro hl
   apply kCt [1,5,8,27,28,29] [];conv=>whnf
   exact ih (i+1) _ _ _ (by omega) (by omega) rfl rfl rfl
  ·repeat' first|exact k9|refine k2 ?_|apply kA|apply kI;intro hc|refine k8 ?_|apply kL;intro hl
   apply kCt [1,5,8,27,28,29] [];conv=>whnf
   exact ih (i+1) _ _ _ (by omega) (by omega) rfl rfl rfl
 ·repeat' (first|exact k9|refine k2 ?_|apply kA|apply kI;intro hc|refine k8 ?_|apply kL;intro hl)⟩
end Go.Km
end
section
namespace Go.Km
open Go Go.Vc Go.Proofs Go.ab
set_option maxRecDepth 100000
set_option maxHeartbeats 0
instance(b:Int):C 130 [byF b] (boF (jK b)) true True:=⟨fun _=>by
 refine kf rfl rfl ?_;repeat' first|exact k9|refine k2 ?_|apply kA|apply kI;intro hc|refine k8 ?_|apply kL;intro hl
 all_goals (refine aa.b ?_ rfl;rw[OV];simp[jK,dG];try omega)⟩
instance(b:Int):C 131 [byF b] (boF (ub b)) true True:=⟨fun _=>by
 refine kf rfl rfl ?_;repeat' first|exact k9|refine k2 ?_|apply kA|apply kI;intro hc|refine k8 ?_|apply kL;intro hl
 all_goals (refine aa.b ?_ rfl;rw[OV];simp[ub,ed];try omega)⟩
instance(s:ByteArray):C 99 [stF s] (stF (ij s)) true (s.size≤281474976710656):=⟨fun hs=>by
 refine kf rfl rfl ?_;repeat' first|exact k9|refine k2 ?_|apply kA|apply kI;intro hc|refine k8 ?_|apply kL;intro hl
 ·refine aa.s ?_ rfl;rw[hc];rfl
 ·rename_i h0
  replace h0:=h0.2
  have hh:mq s.data.toList=true:=by rw[sD h0];exact hc
  apply kCt [0,3] [];conv=>whnf
  refine Lp.ind (fun j:Nat=>s.size - j) (fun j=>j≤s.size∧∀i b,i<j→s.data.toList[i]?=some b→gp b=true) (fun j=>[(3,InD j)]) (fun _=>[]) (fun _=>(stF (ij s),true)) 0 ⟨by omega,fun i b hi hb=>by omega⟩ rfl rfl rfl ?_
  rintro G j ih ⟨hj,hg⟩
  repeat' first|exact k9|refine k2 ?_|apply kA|apply kI;intro hc|refine k8 ?_|apply kL;intro hl
  ·rename_i hl;apply kCt [0,3] [];conv=>whnf
   refine ih (j+1) _ _ _ (by omega) ⟨by omega,fun i b hi hb=>?_⟩ rfl rfl rfl;rcases Pu i j with h1|h1
   ·exact hg i b h1 hb
   ·have:i=j:=by omega
    subst this;rw[Oe hl] at hb
    cases hb;unfold gp;rw[hc];rfl
  ·rename_i hl hc0 hl0;apply kCt [0,3] [];conv=>whnf
   refine ih (j+1) _ _ _ (by omega) ⟨by omega,fun i b hi hb=>?_⟩ rfl rfl rfl;rcases Pu i j with h1|h1
   ·exact hg i b h1 hb
   ·have:i=j:=by omega
    subst this;rw[Oe hl] at hb
    cases hb;unfold gp;rw[hc,Bool.or_true]
  ·rename_i _ _ hc0;refine aa.s (oS hh hj hg fun b hb=>?_) rfl;rw[Oe hl] at hb
   cases hb;unfold gp;rw[hc,hc0];rfl
  ·refine aa.s (oS hh hj hg fun b hb=>?_) rfl;rw[OG (by have:s.data.toList.length=s.size:=rfl;omega)] at hb
   cases hb
 ·rename_i h0
  replace h0:=h0.2
  refine aa.s ?_ rfl;rw[CV];rw[sD h0];exact hc⟩
instance(s:ByteArray):C 64 [stF s] (boF (gj s)) true (s.size≤281474976710656):=⟨fun hs=>by
 refine kf rfl rfl ?_;repeat' first|exact k9|refine k2 ?_|apply kA|apply kI;intro hc|refine k8 ?_|apply kL;intro hl
 ·refine aa.b ?_ rfl;rw[Eu,decide_eq_true (p:=s=⟨#[]⟩) hc];simp
 ·refine aa.b ?_ rfl;rw[sW,decide_eq_false (p:=s=⟨#[]⟩) (by rename_i h0;exact h0.1),decide_eq_true (p:=s.size≤32) (by omega)];simp[JV]
 ·refine aa.b ?_ rfl;rw[sW,decide_eq_false (p:=s.size≤32) (by omega)];simp⟩
theorem kp{x:Int}{m:Nat}(h:x=(m:Int))(hm:m<256):bytesOf [[(F.vl (Value.int IntKind.u8 x)).nz]]=some [UInt8.ofNat m]:=by
 subst h;show(match (F.vl (Value.int IntKind.u8 (Int.ofNat m))) with|_=>bif Nat.blt m 256 then some [UInt8.ofNat m] else none)=_
 have:Nat.blt m 256=true:=by simp[Nat.blt];omega
 simp only[this,cond_true]
instance(n:Int):C 183 [inF n] (stF ⟨(dR n.toNat).toArray⟩) true (0≤n∧n≤99):=⟨fun hs=>by
 obtain⟨h0,h99⟩:=hs;obtain⟨m,rfl⟩:=Int.eq_ofNat_of_zero_le h0;have tm:(m:Int).tmod 10=((m % 10:Nat):Int):=rfl;have td:(m:Int).tdiv 10=((m / 10:Nat):Int):=rfl;rcases Int.lt_or_le m 10 with h9|h9
 ·have hb:=kp (x:=48+(m:Int)) (m:=48+m) (by omega) (by omega);refine kf rfl rfl ?_;repeat' first|exact k9|refine k2 ?_|apply kA|apply kI;intro hc|refine k8 ?_|apply kL;intro hl
  apply Stp.on
  repeat' first|exact k9|refine k2 ?_|apply kA|apply kI;intro hc|apply kL;intro hl|((rw[hb])<;>conv=>whnf)|refine k8 ?_|fail
  refine aa.s ?_ rfl;rw[dR,if_pos (by omega)];rfl
 ·have hb:=kp (x:=48+(m:Int).tmod 10) (m:=48+m % 10) (by rw[tm];omega) (by omega);have hb2:=kp (x:=48+(m:Int).tdiv 10) (m:=48+m / 10) (by rw[td];omega) (by omega);refine kf rfl rfl ?_;repeat' first|exact k9|refine k2 ?_|apply kA|apply kI;intro hc|refine k8 ?_|apply kL;intro hl
  apply Stp.on
  repeat' first|exact k9|refine k2 ?_|apply kA|apply kI;intro hc|apply kL;intro hl|((rw[hb])<;>conv=>whnf)|refine k8 ?_|fail
  apply Stp.on
  repeat' first|exact k9|refine k2 ?_|apply kA|apply kI;intro hc|apply kL;intro hl|((rw[hb2])<;>conv=>whnf)|refine k8 ?_|fail
  refine aa.s ?_ rfl;rw[dR,if_neg (by omega)];rfl⟩
end Go.Km
end
section
namespace Go.ab
open Go
def hasB(s:Bts)(n:Nat):Bool:=(s.ws.getD (n / 64) 0).testBit (n % 64)
theorem Ao:List.range 256=List.range 64++(List.range 64).map (64 + ·)++(List.range 64).map (128 + ·)++(List.range 64).map (192 + ·):=by decide +kernel
theorem jP{s:Bts}(i:Nat){l:List Nat}(hl:∀b∈l,b<64):(l.map (i * 64 + ·)).filter (hasB s)=(l.filter fun b=>(s.ws.getD i 0).testBit b).map (i * 64 + ·):=by
 rw[List.filter_map]
 congr 1
 apply List.filter_congr;intro b hb;have:=hl b hb;show hasB s (i * 64+b)=_
 rw[hasB,show(i * 64+b) / 64=i by omega,show(i * 64+b) % 64=b by omega]
theorem B4(s:Bts):lY s=(List.range 256).filter (hasB s):=by
 have h:∀b∈List.range 64,b<64:=fun b hb=>Pf.1 hb
 have h0:=jP (s:=s) 0 h;have h1:=jP (s:=s) 1 h;have h2:=jP (s:=s) 2 h;have h3:=jP (s:=s) 3 h;have e0:(List.range 64).map (0 * 64 + ·)=List.range 64:=by decide +kernel
 rw[e0] at h0;rw[Ao,PD,PD,PD,h0];rw[show(List.range 64).map (64 + ·)=(List.range 64).map (1 * 64 + ·) from rfl,h1,show(List.range 64).map (128 + ·)=(List.range 64).map (2 * 64 + ·) from rfl,h2,show(List.range 64).map (192 + ·)=(List.range 64).map (3 * 64 + ·) from rfl,h3];simp[lY,Bts.ws,cD,jx]
def runT(H:Nat→Bool)(n:Nat):List (Nat×Nat):=((List.range n).filter H).foldl cV []
theorem uh(s:Bts):gG s=runT (hasB s) 256:=by rw[gG,B4];rfl
theorem jd(H:Nat→Bool)(n:Nat):runT H (n+1)=if H n=true then cV (runT H n) n else runT H n:=by
 unfold runT;rw[Qv,PD,List.foldl_append]
 by_cases h:H n=true<;>simp[h]
theorem AI{l:List (Nat×Nat)}{b:Nat}{r:Nat×Nat}(h:r∈cV l b):r∈l∨r.2=b:=by
 rcases bx l with rfl|⟨l,x,rfl⟩
 ·rw[kU] at h;rw[Pj] at h;exact .inr (by rw[h])
 ·rw[dT] at h
  split at h
  ·rcases Oy.1 h with h|h
   ·exact .inl (QM _ h)
   ·rw[Pj] at h;exact .inr (by rw[h])
  ·rcases Oy.1 h with h|h
   ·exact .inl h
   ·rw[Pj] at h;exact .inr (by rw[h])
theorem mm{H:Nat→Bool}:∀{n:Nat} {r:Nat×Nat},r∈runT H n→r.2<n∧H r.2=true
 | 0,r,h=>by simp[runT] at h
 | n+1,r,h=>by
  rw[jd] at h
  split at h
  ·rename_i hn;rcases AI h with h|h
   ·exact⟨Nat.lt_succ_of_lt (mm h).1,(mm h).2⟩
   ·exact⟨by omega,by rw[h];exact hn⟩
  ·exact⟨Nat.lt_succ_of_lt (mm h).1,(mm h).2⟩
theorem yO(H:Nat→Bool):∀n,(runT H n).length≤n
 | 0=>by simp[runT]
 | n+1=>by
  have h1:=yO H n;have h2:=nQ (runT H n) n;rw[jd]
  split<;>omega
theorem zP{H:Nat→Bool}{n:Nat}(hp:n=0∨H (n - 1)=false):∀k,(∀j,n≤j→j≤n+k→H j=true)→runT H (n+k+1)=runT H n++[(n,n+k)]
 | 0,h=>by
  rw[Qj,jd,if_pos (h n (by omega) (by omega))];rcases bx (runT H n) with e|⟨l,x,e⟩
  ·rw[e];rfl
  ·rw[e,dT,if_neg (fun hx=>?_)]
   ·rfl
   have:=@mm H n x (by rw[e];simp);rcases hp with hp|hp
   ·omega
   ·rw[show n - 1=x.2 by omega,this.2] at hp
    cases hp
 | k+1,h=>by
  rw[show n+(k+1)+1=(n+k+1)+1 by omega,jd,if_pos (h _ (by omega) (by omega)),zP hp k fun j h1 h2=>h j h1 (by omega),dT,if_pos rfl];rfl
def iG(H:Nat→Bool)(n:Nat)(R:List (Nat×Nat)):Prop:=∃m,n≤m∧m≤256∧R=runT H m∧((n=0∨H (n - 1)=false)→m=n)∧((∀j,n≤j→j<m→H j=true))∧(0<n∧H (n - 1)=true→m=256∨H m=false)
theorem iG.zero(H:Nat→Bool):iG H 0 []:=⟨0,by omega,by omega,rfl,fun _=>rfl,fun j h h'=>by omega,fun h=>by omega⟩
theorem iG.skip{H:Nat→Bool}{n:Nat}{R:List (Nat×Nat)}(h:iG H n R)(hn:n<256)(hs:H n=false∨0<n∧H (n - 1)=true):iG H (n+1) R:=by
 obtain⟨m,h1,h2,h3,h4,h5,h6⟩:=h
 cases hh:H n
 ·have hm:m=n:=by
   rcases Pu n m with h'|h'
   ·rw[h5 n (by omega) h'] at hh;cases hh
   ·omega
  subst hm;exact⟨m+1,by omega,by omega,by rw[h3,jd,if_neg (by rw[hh];simp)],fun _=>rfl,fun j h h'=>by omega,fun h=>by rw[Rx,hh] at h;exact absurd h.2 (by simp)⟩
 ·have hp:0<n∧H (n - 1)=true:=hs.resolve_left (by rw[hh];simp);have h6':=h6 hp;have hm:n<m:=by
   rcases Pu n m with h'|h'
   ·exact h'
   ·obtain rfl:m=n:=by omega
    rcases h6' with h6'|h6'
    ·omega
    ·rw[hh] at h6';cases h6'
  exact⟨m,by omega,h2,h3,fun h=>by rw[Rx,hh] at h;exact h.elim (fun h=>by omega) (fun h=>by cases h),fun j h h'=>h5 j (by omega) h',fun _=>h6'⟩
theorem iG.run{H:Nat→Bool}{n k:Nat}{R:List (Nat×Nat)}(h:iG H n R)(hp:n=0∨H (n - 1)=false)(hk:n+k<256)(hj:∀j,n≤j→j≤n+k→H j=true)(he:n+k=255∨H (n+k+1)=false):iG H (n+1) (R++[(n,n+k)]):=by
 obtain⟨m,h1,h2,h3,h4,h5,h6⟩:=h;obtain rfl:=h4 hp;refine⟨m+k+1,by omega,by omega,by rw[h3,zP hp k hj],fun h=>?_,fun j h h'=>hj j (by omega) (by omega),fun _=>?_⟩
 ·rw[Rx,hj m (by omega) (by omega)] at h;exact h.elim (fun h=>by omega) (fun h=>by cases h)
 ·rcases he with he|he
  ·exact .inl (by omega)
  ·exact .inr he
theorem iG.end_{s:Bts}{R:List (Nat×Nat)}(h:iG (hasB s) 256 R):R=gG s:=by
 obtain⟨m,h1,h2,h3,_⟩:=h;obtain rfl:m=256:=by omega
 rw[h3,uh]
theorem iG.len{H:Nat→Bool}{n:Nat}{R:List (Nat×Nat)}(h:iG H n R):R.length≤256:=by
 obtain⟨m,h1,h2,h3,_⟩:=h;have:=yO H m;rw[h3];omega
end Go.ab
namespace Go.Km
open Go Go.Vc Go.Proofs Go.ab Go.Proofs.YthebhpcjcihjgaaGreatDoor
set_option maxRecDepth 100000
set_option maxHeartbeats 0
theorem L7{i n:Nat}(h:i<n)(hn:n<64):2 ^ i * 2=2 ^ (i+1)∧2 ^ (i+1)≤9223372036854775808:=⟨by rw[Ru],(Nat.pow_le_pow_right (by decide) (by omega:i+1≤63):2 ^ (i+1)≤2 ^ 63)⟩
instance(n:Nat):C 200 [inF (n:Int)] (.vl (.int .u64 ((2 ^ n:Nat):Int))) true (n<64):=⟨fun hn=>by
 refine kf rfl rfl ?_;repeat' first|exact k9|refine k2 ?_|apply kA|apply kI;intro hc|refine k8 ?_|apply kL;intro hl
 apply kCt [0,3,4] [];conv=>whnf
 refine Lp.ind (fun z:Nat×Nat=>n - z.1) (fun z=>z.1≤n∧z.2=2 ^ z.1) (fun z=>[(4,InD z.1),(3,.fr (.vl (.int .u64 (z.2:Int))))]) (fun _=>[]) (fun _=>_) (0,1) ⟨by omega,rfl⟩ rfl rfl rfl ?_
 rintro G ⟨i,p⟩ ih ⟨hi,hp⟩
 dsimp only at hi hp ih ⊢
 by_cases hx:i<n
 ·obtain⟨h1,h2⟩:=L7 hx hn;rw[←hp] at h1;rw[←h1] at h2
  repeat' first|exact k9|refine k2 ?_|apply kA|apply kI;intro hc|refine k8 ?_|apply kL;intro hl
  apply kCt [0,3,4] [];conv=>whnf
  exact ih (i+1,p * 2) _ _ _ (by dsimp only;omega) ⟨by dsimp only;omega,h1⟩ rfl rfl rfl
 ·obtain rfl:i=n:=by omega
  subst hp
  repeat' (first|exact k9|refine k2 ?_|apply kA|apply kI;intro hc|refine k8 ?_|apply kL;intro hl)⟩
instance(s:Bts)(n:Nat):C 193 [.ag (btF s),byF (n:Int)] (boF (hasB s n)) true (s.wf∧n<256):=⟨fun ⟨hs,hn⟩=>by
 have hi:n / 64<4:=by omega
 have hd:(n:Int).tdiv 64=((n / 64:Nat):Int):=rfl;have hm:(n:Int).tmod 64=((n % 64:Nat):Int):=rfl;have hv:([D.fr (.vl (.int .u64 s.a)),D.fr (.vl (.int .u64 s.b)),D.fr (.vl (.int .u64 s.c)),D.fr (.vl (.int .u64 s.d))]:List D)[0+n / 64 * 1]?=some (D.fr (.vl (.int .u64 ((s.ws.getD (n / 64) 0:Nat):Int)))):=by rw[OS];exact wsD hs hi
 have hx64:=Kh hs hi;have hmm:n % 64<64:=by omega
 have hpw:0<2 ^ (n % 64):=QY _;refine kf rfl rfl ?_;repeat' first|exact k9|refine k2 ?_|apply kA|apply kI;intro hc|apply kL;intro hl|((rw[hm])<;>conv=>whnf)|refine k8 ?_|fail
 ·exact⟨by rw[dG];exact decide_eq_false (by omega)⟩
 ·refine aa.b ?_ rfl;have hle:s.ws.getD (n / 64) 0 / 2 ^ (n % 64)≤18446744073709551615:=OA (Nat.div_le_self _ _) (by omega);rw[show((s.ws.getD (n / 64) 0:Nat):Int).tdiv ((2 ^ (n % 64):Nat):Int)=((s.ws.getD (n / 64) 0 / 2 ^ (n % 64):Nat):Int) from rfl,wrap_u64 ⟨Int.natCast_nonneg _,Int.ofNat_le.2 hle⟩,show((s.ws.getD (n / 64) 0 / 2 ^ (n % 64):Nat):Int).tmod 2=((s.ws.getD (n / 64) 0 / 2 ^ (n % 64) % 2:Nat):Int) from rfl,dG,hasB,Q4,decide_eq_decide];omega⟩
instance(s:Bts):C 181 [.ag (btF s)] (.sl ((gG s).map nB)) true s.wf:=⟨fun hs=>by
 refine kf rfl rfl ?_;repeat' first|exact k9|refine k2 ?_|apply kA|apply kI;intro hc|refine k8 ?_|apply kL;intro hl
 apply Stp.fW 3 225 2 rfl rfl;apply kCt [1,3,4] [];conv=>whnf
 refine Lp.ind (fun z:Nat×List (Nat×Nat)=>256 - z.1) (fun z=>z.1≤256∧iG (hasB s) z.1 z.2) (fun z=>[(4,InD z.1)]) (fun z=>[(1,.ro 0 225 2 (z.2.map nB))]) (fun _=>_) (0,[]) ⟨by omega,iG.zero _⟩ rfl rfl rfl ?_
 rintro G ⟨n,R⟩ ih ⟨hn,hR⟩
 dsimp only at hn hR ih ⊢;have hRl:=hR.len
 by_cases hx:n<256
 ·have hpre:s.wf∧n<256:=⟨hs,hx⟩
  rcases n with _|n
  ·repeat' first|exact k9|refine k2 ?_|apply kA|apply kI;intro hc|refine k8 ?_|apply kL;intro hl
   ·skip
    have hp:0=0∨hasB s (0 - 1)=false:=.inl rfl;apply kCt [1,3,4,5] [];conv=>whnf
    refine Lp.ind (fun t:Nat=>256 - t) (fun t=>0≤t∧t≤255∧∀j,0≤j→j≤t→hasB s j=true) (fun t=>[(5,InD t)]) (fun _=>[]) (fun _=>_) (0) ⟨by omega,by omega,fun j h1 h2=>by obtain rfl:j=0:=(by omega);exact hc⟩ rfl rfl rfl ?_
    rintro G' t ih' ⟨ht0,ht,htj⟩
    try dsimp only at ht0 ht htj ih' ⊢
    have ht1:(t:Int)+1=((t+1:Nat):Int):=rfl;have hfin:(t=255∨hasB s (t+1)=false)→iG (hasB s) (0+1) (R++[(0,t)]):=fun h=>by
     obtain⟨k,rfl⟩:=Nat.exists_eq_add_of_le ht0;exact hR.run hp (by omega) htj h
    by_cases ht2:t<255
    ·have hpre2:s.wf∧t+1<256:=⟨hs,by omega⟩
     repeat' first|exact k9|refine k2 ?_|apply kA|apply kI;intro hc|apply kL;intro hl|((rw[ht1])<;>conv=>whnf)|refine k8 ?_|fail
     ·apply kCt [1,3,4,5] [];conv=>whnf
      refine ih' (t+1) _ _ _ (by omega) ⟨by omega,by omega,fun j h1 h2=>?_⟩ rfl rfl rfl;rcases Pu j (t+1) with h3|h3
      ·exact htj j h1 (by omega)
      ·obtain rfl:j=t+1:=by omega
       exact hc
     ·apply kCt [1,3,4] [];conv=>whnf
      refine ih (0+1,R++[(0,t)]) _ _ _ (by dsimp only;omega) ⟨by dsimp only;omega,hfin (.inr hc)⟩ rfl rfl ?_;dsimp only;rw[List.map_append];rfl
    ·obtain rfl:t=255:=by omega
     repeat' first|exact k9|refine k2 ?_|apply kA|apply kI;intro hc|refine k8 ?_|apply kL;intro hl
     apply kCt [1,3,4] [];conv=>whnf
     refine ih (0+1,R++[(0,255)]) _ _ _ (by dsimp only;omega) ⟨by dsimp only;omega,hfin (.inl rfl)⟩ rfl rfl ?_;dsimp only;rw[List.map_append];rfl
   ·skip
    apply kCt [1,3,4] [];conv=>whnf
    exact ih (0+1,R) _ _ _ (by dsimp only;omega) ⟨by dsimp only;omega,hR.skip hx (.inl hc)⟩ rfl rfl rfl
  ·have hm1:((n+1:Nat):Int) - 1=(n:Int):=by omega
   have hpre1:s.wf∧n<256:=⟨hs,by omega⟩
   repeat' first|exact k9|refine k2 ?_|apply kA|apply kI;intro hc|apply kL;intro hl|((rw[hm1])<;>conv=>whnf)|refine k8 ?_|fail
   ·apply kCt [1,3,4] [];conv=>whnf
    rename_i hcp;exact ih (n+1+1,R) _ _ _ (by dsimp only;omega) ⟨by dsimp only;omega,hR.skip hx (.inr ⟨by omega,hc⟩)⟩ rfl rfl rfl
   ·rename_i hc1;have hp:n+1=0∨hasB s (n+1 - 1)=false:=.inr hc
    replace hc:=hc1
    apply kCt [1,3,4,5] [];conv=>whnf
    refine Lp.ind (fun t:Nat=>256 - t) (fun t=>(n+1)≤t∧t≤255∧∀j,(n+1)≤j→j≤t→hasB s j=true) (fun t=>[(5,InD t)]) (fun _=>[]) (fun _=>_) (n+1) ⟨by omega,by omega,fun j h1 h2=>by obtain rfl:j=(n+1):=(by omega);exact hc⟩ rfl rfl rfl ?_
    rintro G' t ih' ⟨ht0,ht,htj⟩
    try dsimp only at ht0 ht htj ih' ⊢
    have ht1:(t:Int)+1=((t+1:Nat):Int):=rfl;have hfin:(t=255∨hasB s (t+1)=false)→iG (hasB s) ((n+1)+1) (R++[((n+1),t)]):=fun h=>by
     obtain⟨k,rfl⟩:=Nat.exists_eq_add_of_le ht0;exact hR.run hp (by omega) htj h
    by_cases ht2:t<255
    ·have hpre2:s.wf∧t+1<256:=⟨hs,by omega⟩
     repeat' first|exact k9|refine k2 ?_|apply kA|apply kI;intro hc|apply kL;intro hl|((rw[ht1])<;>conv=>whnf)|refine k8 ?_|fail
     ·apply kCt [1,3,4,5] [];conv=>whnf
      refine ih' (t+1) _ _ _ (by omega) ⟨by omega,by omega,fun j h1 h2=>?_⟩ rfl rfl rfl;rcases Pu j (t+1) with h3|h3
      ·exact htj j h1 (by omega)
      ·obtain rfl:j=t+1:=by omega
       exact hc
     ·apply kCt [1,3,4] [];conv=>whnf
      refine ih ((n+1)+1,R++[((n+1),t)]) _ _ _ (by dsimp only;omega) ⟨by dsimp only;omega,hfin (.inr hc)⟩ rfl rfl ?_;dsimp only;rw[List.map_append];rfl
    ·obtain rfl:t=255:=by omega
     repeat' first|exact k9|refine k2 ?_|apply kA|apply kI;intro hc|refine k8 ?_|apply kL;intro hl
     apply kCt [1,3,4] [];conv=>whnf
     refine ih ((n+1)+1,R++[((n+1),255)]) _ _ _ (by dsimp only;omega) ⟨by dsimp only;omega,hfin (.inl rfl)⟩ rfl rfl ?_;dsimp only;rw[List.map_append];rfl
   ·skip
    apply kCt [1,3,4] [];conv=>whnf
    exact ih (n+1+1,R) _ _ _ (by dsimp only;omega) ⟨by dsimp only;omega,hR.skip hx (.inl hc)⟩ rfl rfl rfl
 ·obtain rfl:n=256:=by omega
  rw[←hR.end_];generalize R=R at *
  repeat' first|exact k9|refine k2 ?_|apply kA|apply kI;intro hc|refine k8 ?_|apply kL;intro hl
  refine aa.j rfl ?_;simp only[cY,qw,lk,Nat.beq,cond_true];simp[F.flat,F.flat.lK]⟩
end Go.Km
end
section
namespace Go.ab
open Go
def rV:ByteArray:=⟨#[48,49,50,51,52,53,54,55,56,57,97,98,99,100,101,102]⟩
def sA(b:Int)(s:ByteArray):Bool:=s.data.toList.any fun c=>decide ((c.toNat:Int)=b)
theorem lW{H:Nat→Bool}:∀{n:Nat} {r:Nat×Nat} {x:Nat},r∈runT H n→r.1≤x→x≤r.2→H x=true
 | 0,r,x,h,_,_=>by simp[runT] at h
 | n+1,r,x,h,h1,h2=>by
  rw[jd] at h
  split at h
  ·rename_i hn;rcases bx (runT H n) with e|⟨l,y,e⟩
   ·rw[e,kU,Pj] at h;subst h;obtain rfl:x=n:=by dsimp only at h1 h2;omega
    exact hn
   ·rw[e,dT] at h
    split at h
    ·rename_i hy;rcases Oy.1 h with h|h
     ·exact lW (n:=n) (by rw[e];exact QM _ h) h1 h2
     ·rw[Pj] at h;subst h;dsimp only at h1 h2;rcases Pu y.2 x with h3|h3
      ·obtain rfl:x=n:=by omega
       exact hn
      ·exact lW (n:=n) (r:=y) (by rw[e];simp) h1 h3
    ·rcases Oy.1 h with h|h
     ·exact lW (n:=n) (by rw[e];exact h) h1 h2
     ·rw[Pj] at h;subst h;obtain rfl:x=n:=by dsimp only at h1 h2;omega
      exact hn
  ·exact lW (n:=n) h h1 h2
theorem mZ{x:Nat}(hx:x<18446744073709551616)(h:∀i<64,x.testBit i=true):x=18446744073709551615:=by
 refine Qr fun i=>?_;rw[show 18446744073709551615=2 ^ 64 - 1 by decide,Nat.testBit_two_pow_sub_one];rcases Pu i 64 with hi|hi
 ·rw[h i hi,decide_eq_true hi]
 ·rw[decide_eq_false (by omega)];exact Nat.testBit_lt_two_pow (OY hx (Nat.pow_le_pow_right (by decide) hi:2 ^ 64≤2 ^ i))
theorem BU{s:Bts}(hs:s.wf):gG s=[(0,255)]↔s=.all:=by
 constructor
 ·intro h;have ha:∀x<256,hasB s x=true:=fun x hx=>lW (n:=256) (r:=(0,255)) (by rw[←uh,h];simp) (Oq _) (by dsimp only;omega)
  have hw:∀k<4,∀i<64,(s.ws.getD k 0).testBit i=true:=fun k hk i hi=>by
   have:=ha (k * 64+i) (by omega)
   rwa [hasB,show(k * 64+i) / 64=k by omega,show(k * 64+i) % 64=i by omega] at this
  obtain⟨a,b,c,d⟩:=s;obtain⟨h1,h2,h3,h4⟩:=hs;have w0:=mZ (x:=a.toNat) (by dsimp only at h1;omega) (hw 0 (by omega));have w1:=mZ (x:=b.toNat) (by dsimp only at h2;omega) (hw 1 (by omega));have w2:=mZ (x:=c.toNat) (by dsimp only at h3;omega) (hw 2 (by omega));have w3:=mZ (x:=d.toNat) (by dsimp only at h4;omega) (hw 3 (by omega));dsimp only at h1 h2 h3 h4;rw[Bts.all]
  congr 1<;>omega
 ·rintro rfl
  decide +kernel
end Go.ab
namespace Go.Km
open Go Go.Vc Go.Proofs Go.ab Go.Proofs.YthebhpcjcihjgaaGreatDoor
set_option maxRecDepth 100000
set_option maxHeartbeats 0
instance(n:Nat):C 194 [inF (n:Int)] (stF (gv rV n (n+1))) true (n<16):=⟨fun hn=>by
 refine kf rfl rfl ?_;repeat' first|exact k9|refine k2 ?_|apply kA|apply kI;intro hc|refine k8 ?_|apply kL;intro hl
 ·exact⟨by show n+1≤16;omega⟩
 ·exact aa.s rfl rfl⟩
instance(b:Int)(s:ByteArray):C 195 [byF b,stF s] (boF (sA b s)) true (s.size≤1000000):=⟨fun hs=>by
 have hsl:s.data.toList.length=s.size:=by rw[Array.length_toList];rfl
 refine kf rfl rfl ?_;repeat' first|exact k9|refine k2 ?_|apply kA|apply kI;intro hc|refine k8 ?_|apply kL;intro hl
 apply kCt [0,1,5] [];conv=>whnf
 refine Lp.ind (fun z:Nat=>s.size - z) (fun z=>z≤s.size∧sA b s=(s.data.toList.drop z).any fun c=>decide ((c.toNat:Int)=b)) (fun z=>[(5,InD z)]) (fun z=>[]) (fun _=>_) 0 ⟨by omega,rfl⟩ rfl rfl rfl ?_
 rintro G i ih ⟨hi,hw⟩
 by_cases hx:i<s.size
 ·rw[Oz (by omega),RC] at hw
  repeat' first|exact k9|refine k2 ?_|apply kA|apply kI;intro hc|refine k8 ?_|apply kL;intro hl
  ·refine aa.b ?_ rfl;rw[hw,decide_eq_true hc,Bool.true_or]
  ·apply kCt [0,1,5] [];conv=>whnf
   refine ih (i+1) _ _ _ (by omega) ⟨by omega,?_⟩ rfl rfl rfl;rw[hw,decide_eq_false hc,Qy]
 ·rw[OE (by omega),List.any_nil] at hw;rw[hw]
  repeat' (first|exact k9|refine k2 ?_|apply kA|apply kI;intro hc|refine k8 ?_|apply kL;intro hl)⟩
theorem gK(a b c:ByteArray):ff a (ff b c)=ff (ff a b) c:=by simp[ff]
theorem Gk:∀n<256,(szS (gv rV (n / 16) (n / 16+1))=1∧szS (gv rV (n % 16) (n % 16+1))=1)∧szS (ff ⟨#[92,120]⟩ (gv rV (n / 16) (n / 16+1)))=3:=by decide +kernel
theorem Gx:∀n<256,ff (ff ⟨#[92,120]⟩ (gv rV (n / 16) (n / 16+1))) (gv rV (n % 16) (n % 16+1))=⟨([92,120]++(gv rV (n / 16) (n / 16+1)).data.toList++(gv rV (n % 16) (n % 16+1)).data.toList).toArray⟩:=by decide +kernel
theorem Hu:∀n<256,bP ⟨#[34]⟩ n.toUInt8=if n=10 then [92,110] else if n=13 then [92,114] else if n=9 then [92,116] else if n<32∨126<n then [92,120]++(gv rV (n / 16) (n / 16+1)).data.toList++(gv rV (n % 16) (n % 16+1)).data.toList else if sA (n:Int) ⟨#[34,92]⟩=true then [92,n.toUInt8] else [n.toUInt8]:=by decide +kernel
instance(n:Nat):C 182 [byF (n:Int),stF ⟨#[34,92]⟩] (stF ⟨(bP ⟨#[34]⟩ n.toUInt8).toArray⟩) true (n<256):=⟨fun hn=>by
 have hk:=Hu n hn;have hd:(n:Int).tdiv 16=((n / 16:Nat):Int):=rfl;have hm:(n:Int).tmod 16=((n % 16:Nat):Int):=rfl;have h1:n / 16<16:=by omega
 have h2:n % 16<16:=by omega
 obtain⟨⟨z1,z2⟩,z3⟩:=Gk n hn;have hx:=Gx n hn;have z0:szS ⟨#[92,120]⟩=2:=rfl;have hb:=kp (x:=(n:Int)) (m:=n) rfl hn;have hq:(⟨#[n.toUInt8]⟩:ByteArray)=⟨[n.toUInt8].toArray⟩:=rfl;refine kf rfl rfl ?_;repeat' first|exact k9|refine k2 ?_|apply kA|apply kI;intro hc|apply kL;intro hl|((rw[hd])<;>conv=>whnf)|((rw[hm])<;>conv=>whnf)|((rw[hb])<;>conv=>whnf)|refine k8 ?_|fail
 ·exact aa.s (by rw[hk,if_pos (by omega)]) rfl
 ·exact aa.s (by rw[hk,if_neg (by omega),if_pos (by omega)]) rfl
 ·exact aa.s (by rw[hk,if_neg (by omega),if_neg (by omega),if_pos (by omega)]) rfl
 ·exact aa.s (by rw[hk,if_neg (by omega),if_neg (by omega),if_neg (by omega),if_pos (by omega),hx]) rfl
 ·exact aa.s (by rw[hk,if_neg (by omega),if_neg (by omega),if_neg (by omega),if_pos (by omega),hx]) rfl
 ·refine aa.s ?_ rfl;rw[hk,if_neg (by omega),if_neg (by omega),if_neg (by omega),if_neg (by omega),if_pos hc]
  try rfl
 ·refine aa.s ?_ rfl;rw[hk,if_neg (by omega),if_neg (by omega),if_neg (by omega),if_neg (by omega),if_neg (by rw[hc];simp)]
  try rfl⟩
theorem GW:∀n<256,bP cq n.toUInt8=if n=10 then [92,110] else if n=13 then [92,114] else if n=9 then [92,116] else if n<32∨126<n then [92,120]++(gv rV (n / 16) (n / 16+1)).data.toList++(gv rV (n % 16) (n % 16+1)).data.toList else if sA (n:Int) ⟨#[93,45,94,92]⟩=true then [92,n.toUInt8] else [n.toUInt8]:=by decide +kernel
instance(n:Nat):C 182 [byF (n:Int),stF ⟨#[93,45,94,92]⟩] (stF ⟨(bP cq n.toUInt8).toArray⟩) true (n<256):=⟨fun hn=>by
 have hk:=GW n hn;have hd:(n:Int).tdiv 16=((n / 16:Nat):Int):=rfl;have hm:(n:Int).tmod 16=((n % 16:Nat):Int):=rfl;have h1:n / 16<16:=by omega
 have h2:n % 16<16:=by omega
 obtain⟨⟨z1,z2⟩,z3⟩:=Gk n hn;have hx:=Gx n hn;have z0:szS ⟨#[92,120]⟩=2:=rfl;have hb:=kp (x:=(n:Int)) (m:=n) rfl hn;have hq:(⟨#[n.toUInt8]⟩:ByteArray)=⟨[n.toUInt8].toArray⟩:=rfl;refine kf rfl rfl ?_;repeat' first|exact k9|refine k2 ?_|apply kA|apply kI;intro hc|apply kL;intro hl|((rw[hd])<;>conv=>whnf)|((rw[hm])<;>conv=>whnf)|((rw[hb])<;>conv=>whnf)|refine k8 ?_|fail
 ·exact aa.s (by rw[hk,if_pos (by omega)]) rfl
 ·exact aa.s (by rw[hk,if_neg (by omega),if_pos (by omega)]) rfl
 ·exact aa.s (by rw[hk,if_neg (by omega),if_neg (by omega),if_pos (by omega)]) rfl
 ·exact aa.s (by rw[hk,if_neg (by omega),if_neg (by omega),if_neg (by omega),if_pos (by omega),hx]) rfl
 ·exact aa.s (by rw[hk,if_neg (by omega),if_neg (by omega),if_neg (by omega),if_pos (by omega),hx]) rfl
 ·refine aa.s ?_ rfl;rw[hk,if_neg (by omega),if_neg (by omega),if_neg (by omega),if_neg (by omega),if_pos hc]
  try rfl
 ·refine aa.s ?_ rfl;rw[hk,if_neg (by omega),if_neg (by omega),if_neg (by omega),if_neg (by omega),if_neg (by rw[hc];simp)]
  try rfl⟩
instance(s:ByteArray):C 161 [stF s] (stF ⟨(yM s).toArray⟩) true (s.size≤1000000):=⟨fun hs=>by
 have hsl:s.data.toList.length=s.size:=by rw[Array.length_toList];rfl
 refine kf rfl rfl ?_;repeat' first|exact k9|refine k2 ?_|apply kA|apply kI;intro hc|refine k8 ?_|apply kL;intro hl
 apply kCt [0,3,4] [];conv=>whnf
 refine Lp.ind (fun z:Nat=>s.size - z) (fun z=>z≤s.size) (fun z=>[(4,InD z),(3,.fr (stF ⟨(eA ⟨#[34]⟩ (s.data.toList.take z)).toArray⟩))]) (fun z=>[]) (fun _=>_) 0 (by simp) rfl rfl rfl ?_
 rintro G i ih hi
 have hsl2:=kT ⟨#[34]⟩ (s.data.toList.take i);rw[Ou] at hsl2;have hz0:szS ⟨(eA ⟨#[34]⟩ (s.data.toList.take i)).toArray⟩≤4000000:=by rw[bA];omega
 by_cases hx:i<s.size
 ·have hb:(s.data.toList[i]'(by omega)).toNat<256:=(s.data.toList[i]'(by omega)).toNat_lt;have hz1:szS ⟨(bP ⟨#[34]⟩ (s.data.toList[i]'(by omega)).toNat.toUInt8).toArray⟩≤4:=by rw[bA];exact fF _ _
  repeat' first|exact k9|refine k2 ?_|apply kA|apply kI;intro hc|refine k8 ?_|apply kL;intro hl
  apply kCt [0,3,4] [];conv=>whnf
  refine ih (i+1) _ _ _ (by omega) (by omega) rfl ?_ rfl;have e2:bP ⟨#[34]⟩ (s.data.toList[i]'(by omega))=bP ⟨#[34]⟩ (s.data.toList[i]'(by omega)).toNat.toUInt8:=by simp
  rw[List.take_succ_eq_append_getElem (by omega),rJ,←bp,e2];rfl
 ·have e:yM s=[34]++eA ⟨#[34]⟩ (s.data.toList.take i)++[34]:=by rw[Om (by omega)];rfl
  have hz1:szS ⟨#[34]⟩=1:=rfl;have hz2:szS (ff ⟨#[34]⟩ ⟨(eA ⟨#[34]⟩ (s.data.toList.take i)).toArray⟩)≤4000001:=by rw[cC];omega
  rw[e];generalize eA ⟨#[34]⟩ (s.data.toList.take i)=m at *
  repeat' first|exact k9|refine k2 ?_|apply kA|apply kI;intro hc|refine k8 ?_|apply kL;intro hl
  refine aa.s ?_ rfl;rw[←bp,←bp]⟩
instance(s:Bts):C 160 [.ag (btF s)] (stF ⟨(ft s).toArray⟩) true s.wf:=⟨fun hs=>by
 have hrk:=sI s;have hfull:=BU hs;refine kf rfl rfl ?_;repeat' first|exact k9|refine k2 ?_|apply kA|apply kI;intro hc|refine k8 ?_|apply kL;intro hl
 ·refine aa.s ?_ rfl;have hall:s=.all:=by
   apply hfull.1;clear hfull;generalize gG s=l at *
   match l,hl with
   | [(a,b)],_=>
    simp only[Pa,Qd,and_true] at hc;rw[show a=0 by omega,show b=255 by omega]
   | _ :: _ :: _,_=>simp only[Og] at *;omega
  rw[ft,if_pos hall]
 ·have e:ft s=[91]++bS (gG s)++[93]:=by
   rw[ft,if_neg];rw[←hfull];intro h;simp[h] at hc
  rw[e];clear e hfull;generalize gG s=l at *;apply kCt [3,4,5] [];conv=>whnf
  refine Lp.ind (fun z:Nat=>l.length - z) (fun z=>z≤l.length) (fun z=>[(5,InD z),(4,.fr (stF ⟨(bS (l.take z)).toArray⟩))]) (fun z=>[]) (fun _=>_) 0 (by omega) rfl rfl rfl ?_
  rintro G i ih hi
  have hsl2:=kJ (l.take i);rw[Ou] at hsl2;have hz0:szS ⟨(bS (l.take i)).toArray⟩≤2500:=by rw[bA];omega
  by_cases hx:i<l.length
  ·have hr:=hrk.1 l[i] (Of hx);have hz1:szS ⟨(bP cq l[i].1.toUInt8).toArray⟩≤4:=by rw[bA];exact fF _ _
   have hz2:szS ⟨(bP cq l[i].2.toUInt8).toArray⟩≤4:=by rw[bA];exact fF _ _
   have hz3:szS (ff ⟨(bS (l.take i)).toArray⟩ ⟨(bP cq l[i].1.toUInt8).toArray⟩)≤2600:=by rw[cC];omega
   have hz5:szS ⟨#[45]⟩=1:=rfl;have hz4:szS (ff (ff ⟨(bS (l.take i)).toArray⟩ ⟨(bP cq l[i].1.toUInt8).toArray⟩) ⟨#[45]⟩)≤2700:=by rw[cC];omega
   have hrun:=nT hx;have hp1:l[i].1<256:=by omega
   have hp2:l[i].2<256:=by omega
   repeat' first|exact k9|refine k2 ?_|apply kA|apply kI;intro hc|refine k8 ?_|apply kL;intro hl
   ·apply kCt [3,4,5] [];conv=>whnf
    refine ih (i+1) _ _ _ (by omega) (by omega) rfl ?_ rfl;rw[hrun,om,if_pos (by omega),if_pos (by omega),←bp,←bp,←bp,gK,gK];rfl
   ·apply kCt [3,4,5] [];conv=>whnf
    refine ih (i+1) _ _ _ (by omega) (by omega) rfl ?_ rfl;rw[hrun,om,if_neg (by omega),if_pos (by omega),Oj,←bp,←bp,gK];rfl
   ·apply kCt [3,4,5] [];conv=>whnf
    refine ih (i+1) _ _ _ (by omega) (by omega) rfl ?_ rfl;rw[hrun,om,if_neg (by omega),if_neg (by omega),Oj,Oj,←bp];rfl
  ·have hz1:szS ⟨#[91]⟩=1:=rfl;have hz3:szS ⟨#[93]⟩=1:=rfl;have hz2:szS (ff ⟨#[91]⟩ ⟨(bS (l.take i)).toArray⟩)≤2501:=by rw[cC];omega
   have e:bS l=bS (l.take i):=by rw[Om (by omega)]
   rw[e];generalize bS (l.take i)=m at *
   repeat' first|exact k9|refine k2 ?_|apply kA|apply kI;intro hc|refine k8 ?_|apply kL;intro hl
   refine aa.s ?_ rfl;rw[←bp,←bp]
 ·have e:ft s=[91]++bS (gG s)++[93]:=by
   rw[ft,if_neg];rw[←hfull];intro h;simp[h] at hc
  rw[e];clear e hfull;generalize gG s=l at *;apply kCt [3,4,5] [];conv=>whnf
  refine Lp.ind (fun z:Nat=>l.length - z) (fun z=>z≤l.length) (fun z=>[(5,InD z),(4,.fr (stF ⟨(bS (l.take z)).toArray⟩))]) (fun z=>[]) (fun _=>_) 0 (by omega) rfl rfl rfl ?_
  rintro G i ih hi
  have hsl2:=kJ (l.take i);rw[Ou] at hsl2;have hz0:szS ⟨(bS (l.take i)).toArray⟩≤2500:=by rw[bA];omega
  by_cases hx:i<l.length
  ·have hr:=hrk.1 l[i] (Of hx);have hz1:szS ⟨(bP cq l[i].1.toUInt8).toArray⟩≤4:=by rw[bA];exact fF _ _
   have hz2:szS ⟨(bP cq l[i].2.toUInt8).toArray⟩≤4:=by rw[bA];exact fF _ _
   have hz3:szS (ff ⟨(bS (l.take i)).toArray⟩ ⟨(bP cq l[i].1.toUInt8).toArray⟩)≤2600:=by rw[cC];omega
   have hz5:szS ⟨#[45]⟩=1:=rfl;have hz4:szS (ff (ff ⟨(bS (l.take i)).toArray⟩ ⟨(bP cq l[i].1.toUInt8).toArray⟩) ⟨#[45]⟩)≤2700:=by rw[cC];omega
   have hrun:=nT hx;have hp1:l[i].1<256:=by omega
   have hp2:l[i].2<256:=by omega
   repeat' first|exact k9|refine k2 ?_|apply kA|apply kI;intro hc|refine k8 ?_|apply kL;intro hl
   ·apply kCt [3,4,5] [];conv=>whnf
    refine ih (i+1) _ _ _ (by omega) (by omega) rfl ?_ rfl;rw[hrun,om,if_pos (by omega),if_pos (by omega),←bp,←bp,←bp,gK,gK];rfl
   ·apply kCt [3,4,5] [];conv=>whnf
    refine ih (i+1) _ _ _ (by omega) (by omega) rfl ?_ rfl;rw[hrun,om,if_neg (by omega),if_pos (by omega),Oj,←bp,←bp,gK];rfl
   ·apply kCt [3,4,5] [];conv=>whnf
    refine ih (i+1) _ _ _ (by omega) (by omega) rfl ?_ rfl;rw[hrun,om,if_neg (by omega),if_neg (by omega),Oj,Oj,←bp];rfl
  ·have hz1:szS ⟨#[91]⟩=1:=rfl;have hz3:szS ⟨#[93]⟩=1:=rfl;have hz2:szS (ff ⟨#[91]⟩ ⟨(bS (l.take i)).toArray⟩)≤2501:=by rw[cC];omega
   have e:bS l=bS (l.take i):=by rw[Om (by omega)]
   rw[e];generalize bS (l.take i)=m at *
   repeat' first|exact k9|refine k2 ?_|apply kA|apply kI;intro hc|refine k8 ?_|apply kL;intro hl
   refine aa.s ?_ rfl;rw[←bp,←bp]
  ⟩
end Go.Km
end
section
namespace Go.Km
open Go Go.Vc Go.Proofs Go.ab
set_option maxRecDepth 100000
set_option maxHeartbeats 0
def vj(N:Nat)(l:List Int):List Int:=(List.range N).map fun j:Nat=>((l.count (j:Int):Nat):Int)
theorem ke(N:Nat)(l:List Int):(vj N l).length=N:=by simp[vj]
theorem mF{N j:Nat}(l:List Int)(h:j<N):(vj N l)[j]?=some ((l.count (j:Int):Nat):Int):=by simp[vj,h]
theorem Il(N:Nat):vj N []=List.replicate N 0:=by
 apply Qc;intro j
 by_cases h:j<N
 ·rw[mF [] h,Qz,if_pos h];rfl
 ·rw[OG (by rw[ke];omega),OG (by simp;omega)]
theorem El{N x:Nat}(l:List Int)(hx:x<N):(vj N l).set x (((l.count (x:Int):Nat):Int)+1)=vj N (l++[(x:Int)]):=by
 apply Qc;intro j
 by_cases h:j<N
 ·rw[mF _ h,Q7,ke]
  by_cases hj:x=j
  ·subst hj;rw[if_pos rfl,if_pos h];simp
  ·rw[if_neg hj,mF _ h,OP,List.count_singleton];have hb:((x:Int)==(j:Int))=false:=by simp;omega
   simp[hb]
 ·rw[OG (by simp[ke];omega),OG (by rw[ke];omega)]
theorem pW{t:Tre}(h:¬ax t):ao t=false:=by
 cases hr:ao t with
 | false=>rfl
 | true=>exact absurd (ak hr) h
theorem xU{ns:List Nod}{i:Nat}{n:Nod}(h:ns[i]?=some n):aB (ns.take (i+1))=aB (ns.take i)++n.kids:=by
 obtain⟨hi,he⟩:=Ox.1 h;rw[List.take_succ_eq_append_getElem hi,he];simp[aB]
theorem rR{ns:List Nod}(i:Nat):(aB (ns.take i)).length≤(aB ns).length:=by
 unfold aB;conv=>rhs;rw[←List.take_append_drop i ns]
 rw[PE,Oh];omega
theorem Aj(kind sa sb sc sd:Int)(text:ByteArray)(lo hi:Int)(K:List (List F))(k:Int)(kids:List Int)(hk:0≤kind∧kind≤255)(ht:text.size≤281474976710656) :
  Pure Tryz.prog X1.Γ 103 [.ag [byF kind,.vl (.int .u64 sa),.vl (.int .u64 sb),.vl (.int .u64 sc),.vl (.int .u64 sd),stF text,inF lo,inF hi,.sl K],inF k] (boF (fits ⟨kind,⟨sa,sb,sc,sd⟩,text,lo,hi,kids⟩ k)) true:=by
 by_cases h10:10≤kind
 ·refine kf rfl rfl ?_;repeat' first|exact k9|refine k2 ?_|apply kA|apply kI;intro hc|refine k8 ?_|apply kL;intro hl
  all_goals refine aa.b ?_ rfl
  all_goals unfold fits
  all_goals simp only
  all_goals rw[if_neg (by omega),if_neg (by omega),if_neg (by omega),if_neg (by omega),if_neg (by omega),if_neg (by omega),if_neg (by omega),if_neg (by omega)]
 ·have:kind=0∨kind=1∨kind=2∨kind=3∨kind=4∨kind=5∨kind=6∨kind=7∨kind=8∨kind=9:=by omega
  rcases this with rfl|rfl|rfl|rfl|rfl|rfl|rfl|rfl|rfl|rfl
  all_goals refine kf rfl rfl ?_
  all_goals repeat' first|exact k9|refine k2 ?_|apply kA|apply kI;intro hc|refine k8 ?_|apply kL;intro hl
  all_goals refine aa.b ?_ rfl
  all_goals clear hk h10
  all_goals simp_all [fits,dG,ed,mB,Bts.zero]
  all_goals try omega
  ·exfalso
   revert hc
   decide
  ·rw[jV]
instance(kind sa sb sc sd:Int)(text:ByteArray)(lo hi:Int)(K:List (List F))(k:Int):C 103 [.ag [byF kind,.vl (.int .u64 sa),.vl (.int .u64 sb),.vl (.int .u64 sc),.vl (.int .u64 sd),stF text,inF lo,inF hi,.sl K],inF k] (boF (fits ⟨kind,⟨sa,sb,sc,sd⟩,text,lo,hi,[]⟩ k)) true ((⟨kind,⟨sa,sb,sc,sd⟩,text,lo,hi,[]⟩:Nod).wf):=⟨fun h=>Aj kind sa sb sc sd text lo hi _ k [] h.kind (OA h.text (by decide))⟩
instance(n:Nod)(k:Int):C 103 [.ag (aT n),inF k] (boF (fits n k)) true (n.wf):=⟨fun h=>Aj n.kind n.set.a n.set.b n.set.c n.set.d n.text n.min n.max _ k n.kids h.kind (OA h.text (by decide))⟩
structure Sm(t:Tre):Prop where
 wf:t.wf
 le:t.nodes.length≤500000
theorem IP{ns:List Nod}(h:∀n∈ns,n.wf):(aB ns).length≤17592186044416 * ns.length:=by
 induction ns with
 | nil=>simp[aB]
 | cons n ns ih=>
  have h1:=(h n (by simp)).kids.1;have h2:=ih fun m hm=>h m (ON _ hm)
  simp only[eX] at h1;simp only[aB,OR,Oh,Og] at h2 ⊢;omega
abbrev cnF(N:Nat)(l:List Int):List (List F):=(vj N l).map ikF
set_option maxRecDepth 100000
set_option maxHeartbeats 0
instance(t:Tre):C 88 [aw t] (boF (ao t)) true (Sm t):=⟨fun ⟨ht,hle⟩=>by
 have hkl:=IP ht.nodes;refine kf rfl rfl ?_;repeat' first|exact k9|refine k2 ?_|apply kA|apply kI;intro hc|refine k8 ?_|apply kL;intro hl
 ·refine aa.b ?_ rfl;simp[ao];omega
 ·refine aa.b ?_ rfl;simp[ao];omega
 rename_i h0;apply kCt [1,3,4] [];conv=>whnf
 refine Lp.ind (fun x:Nat=>t.nodes.length - x) (fun x=>x≤t.nodes.length∧NOk 0 (t.nodes.take x)) (fun x=>[(4,InD x)]) (fun x=>[(1,.ro 0 3 1 (cnF t.nodes.length (aB (t.nodes.take x))))]) (fun _=>(boF (ao t),true)) 0 ⟨Oq _,by intro j n h;simp at h⟩ rfl rfl ?_ ?_
 ·rw[Pd,show aB []=[] from rfl,cnF,Il,Qm,Ok];rfl
 rintro G i ih ⟨hi,hok⟩
 by_cases hx:i<t.nodes.length
 ·have hns:t.nodes[i]?=some t.nodes[i]:=Oe hx;have hak:=xU hns;have hal:=rR (ns:=t.nodes) (i+1);have htk:t.nodes.take (i+1)=t.nodes.take i++[t.nodes[i]]:=List.take_succ_eq_append_getElem hx;have hwf:=ht.nodes _ (Of hx);rw[hak,Oh] at hal;generalize hn:t.nodes[i]=n at *;have hkl1:=hwf.kids.1;simp only[eX] at hkl1
  repeat' first|exact k9|refine k2 ?_|apply kA|apply kI;intro hc|apply kL;intro hl|((simp only[hn])<;>conv=>whnf)|refine k8 ?_|fail
  ·apply kCt [1,3,4,5,6] [];conv=>whnf
   refine Lp.ind (fun x:Nat×List Int=>n.kids.length - x.1) (fun x=>x.1≤n.kids.length∧x.2=aB (t.nodes.take i)++n.kids.take x.1∧∀y∈n.kids.take x.1,0≤y∧y<(i:Int)) (fun x=>[(6,InD x.1)]) (fun x=>[(1,.ro 0 3 1 (cnF t.nodes.length x.2))]) (fun _=>(boF (ao t),true)) (0,aB (t.nodes.take i)) ⟨by dsimp only;omega,by simp,by simp⟩ rfl rfl rfl ?_
   rintro G' ⟨j,L⟩ ih' ⟨hj,hL,hjk⟩
   dsimp only at hj hL hjk ih' ⊢
   by_cases hjt:j<n.kids.length
   ·have htj:n.kids.take (j+1)=n.kids.take j++[n.kids[j]]:=List.take_succ_eq_append_getElem hjt;have hmj:=Of hjt;have hno:¬(0≤n.kids[j]∧n.kids[j]<(i:Int))→ao t=false:=fun hh=>pW fun h=>hh (by have:=h.kok i n hns _ hmj;omega)
    generalize hk:n.kids[j]=x at *;have hcl:L.count x≤(aB (t.nodes.take i)).length+n.kids.length:=by
     rw[hL];refine OA List.count_le_length ?_;rw[Oh,Ou];omega
    have hq:0≤x→x<t.nodes.length→∀h,(vj t.nodes.length L)[x.toNat]'h=((L.count x:Nat):Int):=fun h0 h1 h=>by
     have:=mF (N:=t.nodes.length) L (j:=x.toNat) (by omega);rw[Oe h,show((x.toNat:Nat):Int)=x by omega] at this;exact Option.some.inj this
    have hset:0≤x→x<t.nodes.length→(cnF t.nodes.length L).set x.toNat [inF (((L.count x:Nat):Int)+1)]=cnF t.nodes.length (L++[x]):=fun h0 h1=>by
     have:=El (N:=t.nodes.length) (x:=x.toNat) L (by omega);rw[show((x.toNat:Nat):Int)=x by omega] at this;rw[cnF,cnF,←this,List.map_set]
    have hcc:=ke t.nodes.length L
    by_cases hxx:0≤x∧x<(i:Int)
    ·have hq':=hq (by omega) (by omega);have hset':=hset (by omega) (by omega)
     repeat' first|exact k9|refine k2 ?_|apply kA|apply kI;intro hc|apply kL;intro hl|((simp only[hk])<;>conv=>whnf)|((simp only[hq'])<;>conv=>whnf)|refine k8 ?_|fail
     apply kCt [1,3,4,5,6] [];conv=>whnf
     refine ih' (j+1,L++[x]) _ _ _ (by dsimp only;omega) ⟨by dsimp only;omega,by dsimp only;rw[htj,hL,List.append_assoc],fun y hy=>?_⟩ rfl rfl (congrArg (fun z=>jX [(1,B.ro 0 3 1 z)] G'.h) hset');dsimp only at hy;rw[htj] at hy;rcases Oy.1 hy with hy|hy
     ·exact hjk y hy
     ·simp at hy;omega
    ·have hno':=hno hxx;rw[hno']
     repeat' first|exact k9|refine k2 ?_|apply kA|apply kI;intro hc|apply kL;intro hl|((simp only[hk])<;>conv=>whnf)|refine k8 ?_|fail
   ·have hfit:=hc
    repeat' first|exact k9|refine k2 ?_|apply kA|apply kI;intro hc|refine k8 ?_|apply kL;intro hl
    apply kCt [1,3,4] [];conv=>whnf
    rw[Om (l:=n.kids) (by omega)] at hL hjk;refine ih (i+1) _ _ _ (by omega) ⟨by omega,?_⟩ rfl rfl (by rw[hak,←hL];rfl);rw[htk];refine NOk.app hok ?_;intro a m hm
    cases a with
    | zero=>
     simp at hm;subst hm;refine⟨hfit,fun x hx=>?_⟩;have:=hjk x hx;rw[Ou];omega
    | succ a=>simp at hm
  ·refine aa.b ?_ rfl;rw[pW (fun h=>by have:=h.fits i n hns;rw[hc] at this;cases this)]
 ·rw[Om (by omega)] at hok ⊢
  repeat' first|exact k9|refine k2 ?_|apply kA|apply kI;intro hc|refine k8 ?_|apply kL;intro hl
  apply kCt [1,3,7] [];conv=>whnf
  refine Lp.ind (fun x:Nat=>t.nodes.length - x) (fun x=>x≤t.nodes.length∧∀m:Nat,m<x→(aB t.nodes).count (m:Int)=if (m:Int)=t.root then 0 else 1) (fun x=>[(7,InD x)]) (fun x=>[]) (fun _=>(boF (ao t),true)) 0 ⟨Oq _,by omega⟩ rfl rfl rfl ?_
  rintro G' k ih' ⟨hk,hkm⟩
  have hcc:=ke t.nodes.length (aB t.nodes)
  by_cases hkt:k<t.nodes.length
  ·have hq:∀h,(vj t.nodes.length (aB t.nodes))[k]'h=(((aB t.nodes).count (k:Int):Nat):Int):=fun h=>by
    have:=mF (N:=t.nodes.length) (aB t.nodes) (j:=k) hkt;rw[Oe h] at this;exact Option.some.inj this
   have hno:¬(aB t.nodes).count (k:Int)=(if (k:Int)=t.root then 0 else 1)→ao t=false:=fun h=>pW fun hR=>h (hR.count k hkt)
   have hyes:(aB t.nodes).count (k:Int)=(if (k:Int)=t.root then 0 else 1)→∀m:Nat,m<k+1→(aB t.nodes).count (m:Int)=if (m:Int)=t.root then 0 else 1:=by
    intro h m hm;rcases Pu m k with h'|h'
    ·exact hkm m h'
    ·obtain rfl:m=k:=by omega
     exact h
   generalize hqq:(aB t.nodes).count (k:Int)=q at *
   by_cases hkr:(k:Int)=t.root
   ·rw[if_pos hkr] at hno hyes
    repeat' first|exact k9|refine k2 ?_|apply kA|apply kI;intro hc|apply kL;intro hl|((simp only[hq])<;>conv=>whnf)|refine k8 ?_|fail
    ·have hq0:q=0:=by have:=hq (by omega);omega
     apply kCt [1,3,7] [];conv=>whnf
     exact ih' (k+1) _ _ _ (by omega) ⟨by omega,hyes hq0⟩ rfl rfl rfl
    ·have hq0:¬q=0:=by have:=hq (by omega);omega
     exact aa.b (hno hq0).symm rfl
   ·rw[if_neg hkr] at hno hyes
    repeat' first|exact k9|refine k2 ?_|apply kA|apply kI;intro hc|apply kL;intro hl|((simp only[hq])<;>conv=>whnf)|refine k8 ?_|fail
    ·have hq0:q=1:=by have:=hq (by omega);omega
     apply kCt [1,3,7] [];conv=>whnf
     exact ih' (k+1) _ _ _ (by omega) ⟨by omega,hyes hq0⟩ rfl rfl rfl
    ·have hq0:¬q=1:=by have:=hq (by omega);omega
     exact aa.b (hno hq0).symm rfl
  ·repeat' first|exact k9|refine k2 ?_|apply kA|apply kI;intro hc|refine k8 ?_|apply kL;intro hl
   refine aa.b ?_ rfl;rw[qt (t:=t) ⟨by omega,by omega⟩ hok (fun i hi=>hkm i (by omega))]⟩
set_option maxRecDepth 100000
set_option maxHeartbeats 0
instance(t:Tre):C 100 [aw t] (inF (iF t)) true (Sm t):=⟨fun ht=>by
 refine kf rfl rfl ?_;repeat' first|exact k9|refine k2 ?_|apply kA|apply kI;intro hc|refine k8 ?_|apply kL;intro hl
 all_goals (refine aa.n ?_ rfl;simp[iF,hc])⟩
instance(k a b c d:Int)(s:ByteArray)(x y:Int):C 56 [.ag [byF k,.vl (.int .u64 a),.vl (.int .u64 b),.vl (.int .u64 c),.vl (.int .u64 d),stF s,inF x,inF y,.sl []]] (aw (my ⟨k,⟨a,b,c,d⟩,s,x,y,[]⟩)) false True:=⟨fun _=>by
 refine kf rfl rfl ?_;repeat' first|exact k9|refine k2 ?_|apply kA|apply kI;intro hc|refine k8 ?_|apply kL;intro hl
 exact aa.i rfl⟩
instance(t:Tre):C 52 [aw t] (.ag (aT (av t))) true (Sm t):=⟨fun ht=>by
 refine kf rfl rfl ?_;repeat' first|exact k9|refine k2 ?_|apply kA|apply kI;intro hc|refine k8 ?_|apply kL;intro hl
 ·exact⟨(ak hc).root.1⟩
 ·exact⟨by have:=(ak hc).root;omega⟩
 ·refine aa.j ?_ rfl;rw[av,if_pos hc,List.getD_eq_getElem?_getD,Oe (by assumption)];rfl
 ·refine aa.j ?_ rfl;rw[av,if_neg (by rw[hc];decide)];rfl⟩
instance(t:Tre)(node:Int):C 89 [aw t,inF node] (.tp [aw (iT t node).1,boF (iT t node).2]) false (Sm t):=⟨fun ⟨ht,hle⟩=>by
 have hsm:Sm t:=⟨ht,hle⟩
 refine kf rfl rfl ?_;repeat' first|exact k9|refine k2 ?_|apply kA|apply kI;intro hc|refine k8 ?_|apply kL;intro hl
 ·exact aa.i (by rw[iT,if_neg (by omega)];rfl)
 ·exact aa.i (by rw[iT,if_neg (by omega)];rfl)
 ·rename_i hrt _;rename_i h0;have hn:=hc;have hsub:iT t node=(aC t node,true):=by rw[iT,if_pos ⟨by assumption,by omega,by omega⟩]
  rw[hsub];have hR:ax t:=ak (by assumption);have hch:=hR.kok.ah;have hN:=fP hR (by omega) hn;have hmem:=uC hR (by omega) hn;apply Stp.fW 6 3 1 rfl rfl;apply kCt [2,4,6,7] [];conv=>whnf
  refine Lp.ind (fun x:List Int×List Int=>(dfs (fw (ah t.nodes)) t.nodes.length x.1.reverse).length) (fun x=>(∀k∈x.1,0≤k∧k<t.nodes.length)∧x.2++dfs (fw (ah t.nodes)) t.nodes.length x.1.reverse=dfs (fw (ah t.nodes)) t.nodes.length [node]) (fun _=>[])
   (fun x=>[(2,.ro 0 3 1 (x.2.map ikF)),(3,.ro 0 3 1 (x.1.map ikF))]) (fun _=>(.tp [aw (aC t node),boF true],false)) ([node],[]) ⟨?_,?_⟩ rfl rfl rfl ?_
  ·dsimp only;intro k hk;simp at hk;omega
  ·simp
  rintro G ⟨op,out⟩ ih ⟨hop,he⟩
  dsimp only at hop he ih ⊢;have hrm:=room (node:=node) (by omega) (by rw[aU,(dc _ _ _).length_eq] at hN;omega) he;rcases bx op with rfl|⟨init,x,rfl⟩
  ·repeat' first|exact k9|refine k2 ?_|apply kA|apply kI;intro hc|refine k8 ?_|apply kL;intro hl
   have hb:aU t node=out.reverse:=by
    simp only[QS,bT,Oj] at he;rw[he,aU,show[node]=[node].reverse from rfl,oV];rfl
   apply Stp.fW 10 45 9 rfl rfl;apply kCt [2,4,6,9,10,11] [];conv=>whnf
   have htot:aC t node=⟨bo t.nodes 0 (List.replicate t.nodes.length 0) (aU t node),(aU t node).length - 1⟩:=rfl;have hol:out.length=(aU t node).length:=by rw[hb,Rr]
   have hoj:∀j (hj:j<(aU t node).length) (h:out.length - 1 - j<out.length),out[out.length - 1 - j]'h=(aU t node)[j]:=fun j hj h=>by
    have:=List.getElem_reverse (l:=out) (i:=j) (by rw[Rr];omega);rw[←this]
    congr 1
    exact hb.symm
   clear he hop hrm ih;generalize hl:aU t node=l at *;refine Lp.ind (fun x:Nat×List Int×List Nod=>l.length - x.1) (fun x=>x.1≤l.length∧x.2.1.length=t.nodes.length∧x.2.2.length=x.1∧x.2.2++bo t.nodes x.1 x.2.1 (l.drop x.1)=(aC t node).nodes) (fun x=>[(11,InD ((l.length:Int) - 1 - x.1))])
    (fun x=>[(3,.ro 0 3 1 (x.2.1.map ikF)),(4,.ro 0 45 9 (x.2.2.map aT))]) (fun _=>(.tp [aw (aC t node),boF true],false)) (0,List.replicate t.nodes.length 0,[]) ⟨by simp,by simp,rfl,by rw[htot];rfl⟩ rfl ?_ ?_ ?_
   ·simp only[Ok,hol,Rg,Qh];rfl
   ·rw[show(List.replicate t.nodes.length (0:Int)).map ikF=List.replicate (t.nodes.map aT).length (ikF 0) by simp];rfl
   rintro G' ⟨j,pl,acc⟩ ih ⟨hj,hpl,hac,hT⟩
   dsimp only at hj hpl hac hT ih ⊢
   by_cases hx:j<l.length
   ·obtain⟨k,hk⟩:∃k:Nat,l[j]=k:=⟨l[j].toNat,by have:=hmem _ (Of hx);omega⟩
    have hkn:k<t.nodes.length:=by have:=hmem _ (Of hx);omega
    have hij:((l.length:Int) - 1 - (j:Int)).toNat=out.length - 1 - j:=by omega
    have hli:∀h,out[out.length - 1 - j]'h=(k:Int):=fun h=>(hoj j hx h).trans hk
    have hil:out.length - 1 - j<out.length:=by omega
    obtain⟨n,hnk⟩:=exEq (t.nodes[k]);have hni:∀h,t.nodes[k]'h=n:=fun _=>hnk.symm
    have hkl:n.kids.length≤17592186044416:=by rw[hnk];exact(ht.nodes _ (Of hkn)).kids.1
    have hkw:∀x∈n.kids,0≤x∧x<t.nodes.length:=by
     intro x hxk;have:=hR.kok k n (by rw[hnk];exact Oe hkn) x hxk;omega
    rw[Oz hx,bo,hk,Oo,List.getD_eq_getElem?_getD,Oe hkn,←hnk] at hT;simp only[PK] at hT;have hps:(pl.set k (j:Int)).length=t.nodes.length:=by simp[hpl]
    have hpe:List.map ikF (pl.set k (j:Int))=(List.map ikF pl).set k (ikF j):=by rw[List.map_set]
    repeat' first|exact k9|refine k2 ?_|apply kA|apply kI;intro hc|apply kL;intro hl|((simp only[hij])<;>conv=>whnf)|((simp only[hli,Oo])<;>conv=>whnf)|((simp only[hni])<;>conv=>whnf)|refine k8 ?_|fail
    apply Stp.fW 13 3 1 rfl rfl;apply kCt [2,4,6,9,10,11,12,13,14] [];conv=>whnf
    refine Lp.ind (fun x:Nat=>n.kids.length - x) (fun x=>x≤n.kids.length) (fun x=>[(14,InD x)]) (fun x=>[(3,.ro 0 3 1 ((pl.set k (j:Int)).map ikF)),(6,.ro 0 3 1 (((n.kids.take x).map (fun x=>(pl.set k (j:Int)).getD x.toNat 0)).map ikF))]) (fun _=>(.tp [aw (aC t node),boF true],false)) 0 (by simp) rfl rfl ?_ ?_
    ·rw[hpe,←hac,Ok];rfl
    rintro G'' q ih' hq
    by_cases hy:q<n.kids.length
    ·have hkj:=hkw _ (Of hy);have hg:(pl.set k (j:Int)).getD n.kids[q].toNat 0=(pl.set k (j:Int))[n.kids[q].toNat]'(by omega):=by
      rw[List.getD_eq_getElem?_getD,Oe (by omega)];rfl
     repeat' first|exact k9|refine k2 ?_|apply kA|apply kI;intro hc|refine k8 ?_|apply kL;intro hl
     apply kCt [2,4,6,9,10,11,12,13,14] [];conv=>whnf
     refine ih' (q+1) _ _ _ (by omega) (by omega) rfl rfl ?_;rw[List.take_succ_eq_append_getElem hy,List.map_append,List.map_append,OK,OK,hg];rfl
    ·rw[Om (by omega)]
     repeat' first|exact k9|refine k2 ?_|apply kA|apply kI;intro hc|refine k8 ?_|apply kL;intro hl
     apply kCt [2,4,6,9,10,11] [];conv=>whnf
     refine ih (j+1,pl.set k (j:Int),acc++[{ n with kids:=n.kids.map fun x=>(pl.set k (j:Int)).getD x.toNat 0 }]) _ _ _ (by dsimp only;omega) ⟨by dsimp only;omega,hps,by simp[hac],by simpa using hT⟩ rfl ?_ ?_
     ·dsimp only;rw[show(l.length:Int) - 1 - ((j+1:Nat):Int)=(l.length:Int) - 1 - (j:Int) - 1 by omega];rfl
     ·rw[List.map_append];rfl
   ·rw[OE (by omega),bo,Oj] at hT
    repeat' first|exact k9|refine k2 ?_|apply kA|apply kI;intro hc|refine k8 ?_|apply kL;intro hl
    refine aa.i ?_;rw[show aw (aC t node)=F.ag [F.sl ((aC t node).nodes.map aT),inF ((aC t node).root)] from rfl,←hT,htot,Ok,show acc.length=l.length by omega]
  ·have hx:=hop x (by simp);obtain⟨i,rfl⟩:∃i:Nat,x=i:=⟨x.toNat,by omega⟩
   have hlast:∀h,(init++[(i:Int)])[((List.map ikF (init++[(i:Int)])).length - 1:Int).toNat]'h=(i:Int):=by
    intro h;simp[P3]
   have hil:i<t.nodes.length:=by omega
   have hkn2:t.nodes[i].kids=ah t.nodes i:=aM (Oe hil);have hkl2:=(ht.nodes _ (Of hil)).kids.1;simp only[eX] at hkl2;rw[OW,Pe,Pg,aS hch.rev (by omega) (by omega)] at he;have hE:(init++t.nodes[i].kids).reverse=fw (ah t.nodes) i++init.reverse:=by
    rw[OW,hkn2];rfl
   have he2:(out++[(i:Int)])++dfs (fw (ah t.nodes)) t.nodes.length (init++t.nodes[i].kids).reverse=dfs (fw (ah t.nodes)) t.nodes.length [node]:=by
    rw[hE,bD,List.append_assoc];exact he
   have hrm2:=room (node:=node) (by omega) (by rw[aU,(dc _ _ _).length_eq] at hN;omega) he2;simp only[Oh,Og,Ol] at hrm hrm2
   repeat' first|exact k9|refine k2 ?_|apply kA|apply kI;intro hc|apply kL;intro hl|((rw[hlast])<;>conv=>whnf)|refine k8 ?_|fail
   apply kCt [2,4,6,7] [];conv=>whnf
   refine ih (init++t.nodes[i].kids,out++[(i:Int)]) _ _ _ ?_ ⟨?_,?_⟩ rfl rfl ?_
   ·dsimp only;rw[hE,OW,Pe,Pg,aS hch.rev (by omega) (by omega),bD];simp
   ·intro k hk;rcases Oy.1 hk with hk|hk
    ·exact hop k (by simp[hk])
    ·rw[hkn2] at hk;have:=hch i k hk;omega
   ·exact he2
   ·dsimp only;rw[show List.map ikF (init++t.nodes[i].kids)=List.take ((List.map ikF (init++[(i:Int)])).length - 1:Int).toNat (List.map ikF (init++[(i:Int)]))++List.map ikF t.nodes[i].kids from by simp[PZ],show List.map ikF (out++[(i:Int)])=List.map ikF out++[ikF i] from by simp];rfl
 ·exact aa.i (by rw[iT,if_neg (by rw[hc];simp)];rfl)⟩
theorem D8(t:Tre):(iT t t.root).1=aW t:=by
 cases hri:ao t with
 | false=>rw[iT,if_neg (by rw[hri];simp),aW,if_neg (by rw[hri];simp)]
 | true=>
  have hR:=(ak hri).root;rw[iT,if_pos ⟨hri,hR.1,hR.2⟩,aW,if_pos hri]
instance(t:Tre):C 104 [aw t] (aw (aW t)) false (Sm t):=⟨fun ht=>by
 rw[←D8];refine kf rfl rfl ?_;repeat' (first|exact k9|refine k2 ?_|apply kA|apply kI;intro hc|refine k8 ?_|apply kL;intro hl)⟩
end Go.Km
end
section
namespace Go.Km
open Go Go.RowKit Go.Vc
open Go.Sl hiding lk
theorem vV{c:Cf}{nx:Nat}(hc:c.ι nx 0=some (none,0,0)):∀(i:Nat) (l:List D) (vs:List Value),l[i]?=some vd→D.aq c l vs→D.aq c (l.set i (.own nx 0)) vs
 | i,[],vs,h,_=>by simp at h
 | 0,d :: l,vs,h,hr=>by
  rw[OZ] at h
  injection h with h
  subst h;rw[P7];unfold D.aq at hr ⊢;obtain⟨u,us,k5,k6,k7⟩:=hr;refine⟨u,us,k5,?_,k7⟩;unfold D.rep F.rep at k6;unfold D.rep;exact⟨none,0,0,hc,k6⟩
 | i+1,d :: l,vs,h,hr=>by
  rw[O4] at h;rw[QE];unfold D.aq at hr ⊢;obtain⟨u,us,k5,k6,k7⟩:=hr;exact⟨u,us,k5,k6,vV hc i l us h k7⟩
section
variable {ρ:Type} [lR ρ] {P:Program} {X:Tx} {f0:Nat} {r:ρ} {f N:Nat} {s:List (Nat×D)} {ki:List KI} {ds:List (Nat×Nat)} {ro:Option (Nat×Nat)} {cs:List Fm} {h:List (Nat×B)} {nx:Nat}
theorem Sn.KD(b i e sz:Nat){v t:Nat}{l l':List D}(hs:lk h b=some (.va v t l))(hi:l[i]?=some vd)(hl:l.set i (.own nx 0)=l')(hf:lk h nx=none)(H:Sn P X f0 r ⟨⟨f,N,s,ki,ds,ro⟩,cs,(b,.va v t l') :: (nx,.ro 0 e sz []) :: h,nx+1⟩):Sn P X f0 r ⟨⟨f,N,s,ki,ds,ro⟩,cs,h,nx⟩:=by
 subst hl;unfold Sn Snd at *;intro W cs0 hΓ c O fr frs w hr;obtain⟨hle,hp⟩:=Hp.none_ (e:=e) (sz:=sz) hr.hp hf;obtain⟨a,todo,rr,h1,h2,h3,h4,h5⟩:=hr.top.ex;have hb:b≠nx:=fun e=>by rw[e,hf] at hs;cases hs
 have hbx:up (lk h) nx (.ro 0 e sz []) b=some (.va v t l):=by rw[aK (Ne.symm hb)];exact hs
 refine H W cs0 hΓ (c.add nx 0 (none,0,0)) (upO (upO O nx fun _=>False) b (upO O nx (fun _=>False) b)) fr frs w ⟨⟨⟨a,todo,rr,h1,h2.le hle,KIs.le hle h3,bQ.le hle h4,lg.le hle h5⟩⟩,Fms.le hle hr.cs,?_,?_,hr.bot⟩
 ·show Hp _ _ (lk ((b,_) :: (nx,_) :: h)) w
  rw[cB,cB];refine hp.upd Chg.refl (fun g hg=>.inl hg) (Cf.le.refl _) rfl rfl (hp.cS hbx rfl) ?_;obtain⟨g,vs,k1,k2,k3,k4⟩:=hp.pc b _ hbx;exact⟨g,vs,k1,vV Cf.dK i l vs hi k2,k3,k4⟩
 ·exact(Old.none_ hr.old).upd Chg.refl (fun g hg=>.inl hg) rfl rfl
theorem Stp.KD(b i e sz:Nat){v t:Nat}{l l':List D}(hs:lk h b=some (.va v t l))(hi:l[i]?=some vd)(hl:l.set i (.own nx 0)=l')(hf:lk h nx=none)(H:Stp (Sn P X f0 r ⟨⟨f,N,s,ki,ds,ro⟩,cs,(b,.va v t l') :: (nx,.ro 0 e sz []) :: h,nx+1⟩)):Stp (Sn P X f0 r ⟨⟨f,N,s,ki,ds,ro⟩,cs,h,nx⟩):=⟨Sn.KD b i e sz hs hi hl hf H.h⟩
end
end Go.Km
end
section
namespace Go.Km
open Go Go.Vc Go.Proofs Go.ab
set_option maxRecDepth 100000
set_option maxHeartbeats 0
theorem AA{ns:List Nod}{d:Int}{i:Nat}{n:Nod}(h:ns[i]?=some n):b8 (ns.take (i+1)) d=b8 (ns.take i) d++[{ n with kids:=n.kids.map (· + d) }]:=by
 obtain⟨hi,he⟩:=Ox.1 h;rw[List.take_succ_eq_append_getElem hi,he];simp[b8]
theorem Hc(kind sa sb sc sd:Int)(text:ByteArray)(lo hi:Int)(K:List (List F))(l:List Tre)(hn:(⟨kind,⟨sa,sb,sc,sd⟩,text,lo,hi,[]⟩:Nod).wf)(hl:l.length≤1466015503701)(hw:∀t∈l,Sm t)(ht:tot l+1≤1466015503701) :
  Pure Tryz.prog X1.Γ 70 [.ag [byF kind,.vl (.int .u64 sa),.vl (.int .u64 sb),.vl (.int .u64 sc),.vl (.int .u64 sd),stF text,inF lo,inF hi,.sl K],dO l]
   (.tp [aw (ofP ⟨kind,⟨sa,sb,sc,sd⟩,text,lo,hi,[]⟩ l).1,boF (ofP ⟨kind,⟨sa,sb,sc,sd⟩,text,lo,hi,[]⟩ l).2]) false:=by
 obtain⟨n,hnn⟩:∃n:Nod,n=⟨kind,⟨sa,sb,sc,sd⟩,text,lo,hi,[]⟩:=⟨_,rfl⟩
 have hF:∀x,fits ⟨kind,⟨sa,sb,sc,sd⟩,text,lo,hi,[]⟩ x=fits n x:=fun x=>by rw[hnn]
 rw[←hnn];refine kf rfl rfl ?_;repeat' first|exact k9|refine k2 ?_|apply kA|apply kI;intro hc|refine k8 ?_|apply kL;intro hl
 ·have hfit:fits n l.length=true:=by rw[←hF];exact hc
  have hno:jQ l [] []=none→ofP n l=(.zero,false):=fun h=>by rw[ofP,if_pos hfit,h]
  have hyes:∀a ks,jQ l [] []=some (a,ks)→ofP n l=(⟨a++[{ n with kids:=ks }],a.length⟩,true):=fun a ks h=>by rw[ofP,if_pos hfit,h]
  apply Stp.fW 6 45 9 rfl rfl;refine Stp.KD 0 8 3 1 rfl rfl rfl rfl ?_;apply kCt [1,2,4,6,7] [];conv=>whnf
  refine Lp.ind (fun x:Nat×List Nod×List Int=>l.length - x.1) (fun x=>x.1≤l.length∧x.2.2.length=x.1∧x.2.1.length+tot (l.drop x.1)≤tot l∧jQ l [] []=jQ (l.drop x.1) x.2.1 x.2.2) (fun x=>[(7,InD x.1)]) (fun x=>[(1,.ro 0 3 1 (x.2.2.map ikF)),(3,.ro 0 45 9 (x.2.1.map aT))]) (fun _=>(.tp [aw (ofP n l).1,boF (ofP n l).2],false))
   (0,[],[]) ⟨by simp,rfl,by simp,rfl⟩ rfl rfl rfl ?_
  rintro G ⟨i,ar,ks⟩ ih ⟨hil,hks,hto,hT⟩
  dsimp only at hil hks hto hT ih ⊢
  by_cases hx:i<l.length
  ·obtain⟨q,hq⟩:=exEq (l[i]);have hqi:∀h:i<l.length,l[i]'h=q:=fun _=>hq.symm
   have hql:q∈l:=by rw[hq];exact Of hx
   have hwq:=hw q hql;rw[Oz hx,←hq] at hT hto;rw[fE] at hto;rw[jQ] at hT
   cases hrq:ao q with
   | false=>
    rw[if_neg (by rw[hrq];decide)] at hT
    repeat' first|exact k9|refine k2 ?_|apply kA|apply kI;intro hc|apply kL;intro hl|((simp only[hqi])<;>conv=>whnf)|refine k8 ?_|fail
    refine aa.i ?_;rw[hno hT];rfl
   | true=>
    rw[if_pos hrq] at hT;have hRq:=ak hrq;obtain⟨w1,w2⟩:=je hwq.wf hRq hRq.root.1 hRq.root.2;have hm4:(aC q q.root).nodes.length≤q.nodes.length:=jz hRq hRq.root.1 hRq.root.2;have hlen:=w1.len;simp only[b9] at hlen w2;have hcl:aW q=aC q q.root:=jE hrq;rw[←hcl] at hT hm4 w1 w2 hlen;have hml:(b8 (aW q).nodes ar.length).length=(aW q).nodes.length:=by simp[b8]
    repeat' first|exact k9|refine k2 ?_|apply kA|apply kI;intro hc|apply kL;intro hl|((simp only[hqi])<;>conv=>whnf)|refine k8 ?_|fail
    apply kCt [1,2,4,6,7,8,9,10] [];conv=>whnf
    generalize hC:(aW q).nodes=C at *;generalize (aW q).root=cr at *;refine Lp.ind (fun x:Nat×List Nod=>C.length - x.1) (fun x=>x.1≤C.length∧x.2=ar++b8 (C.take x.1) ar.length) (fun x=>[(9,InD ar.length),(10,InD x.1)]) (fun x=>[(3,.ro 0 45 9 (x.2.map aT))]) (fun _=>(.tp [aw (ofP n l).1,boF (ofP n l).2],false)) (0,ar) ⟨by simp,by simp[b8]⟩ rfl ?_ rfl ?_
    ·rw[show(List.map aT ar).length=ar.length from Ok ..];rfl
    rintro G' ⟨k,br⟩ ih' ⟨hk,hbr⟩
    dsimp only at hk hbr ih' ⊢;have hbl:br.length=ar.length+k:=by rw[hbr];simp[b8];omega
    by_cases hkc:k<C.length
    ·have hCk:C[k]?=some C[k]:=Oe hkc;have hmv:=AA (d:=(ar.length:Int)) hCk;have hwx:=w1.nodes _ (by rw[hC];exact Of hkc);have hwk:=w2 _ (Of hkc);obtain⟨y,hy⟩:=exEq (C[k]);have hyi:∀h:k<C.length,C[k]'h=y:=fun _=>hy.symm
     rw[←hy] at hmv hwx hwk;have hyl:=hwx.kids.1;simp only[eX] at hyl
     repeat' first|exact k9|refine k2 ?_|apply kA|apply kI;intro hc|apply kL;intro hl|((simp only[hyi])<;>conv=>whnf)|refine k8 ?_|fail
     apply Stp.fW 12 3 1 rfl rfl;apply kCt [1,2,4,6,7,8,9,10,11,12,13] [];conv=>whnf
     refine Lp.ind (fun x:Nat=>y.kids.length - x) (fun x=>x≤y.kids.length) (fun x=>[(13,InD x)]) (fun x=>[(6,.ro 0 3 1 (((y.kids.take x).map (fun z=>(ar.length:Int)+z)).map ikF))]) (fun _=>(.tp [aw (ofP n l).1,boF (ofP n l).2],false)) 0 (by simp) rfl rfl rfl ?_
     rintro G'' j ih'' hj
     by_cases hjl:j<y.kids.length
     ·have hwz:=hwk _ (Of hjl)
      repeat' first|exact k9|refine k2 ?_|apply kA|apply kI;intro hc|refine k8 ?_|apply kL;intro hl
      apply kCt [1,2,4,6,7,8,9,10,11,12,13] [];conv=>whnf
      refine ih'' (j+1) _ _ _ (by omega) (by omega) rfl rfl ?_;rw[List.take_succ_eq_append_getElem hjl,List.map_append,List.map_append,OK,OK];rfl
     ·rw[Om (by omega)];have hcomm:(fun z:Int=>(ar.length:Int)+z)=(fun z:Int=>z+(ar.length:Int)):=by funext z;omega
      rw[hcomm]
      repeat' first|exact k9|refine k2 ?_|apply kA|apply kI;intro hc|refine k8 ?_|apply kL;intro hl
      apply kCt [1,2,4,6,7,8,9,10] [];conv=>whnf
      refine ih' (k+1,br++[{ y with kids:=y.kids.map (· + (ar.length:Int)) }]) _ _ _ (by dsimp only;omega) ⟨by dsimp only;omega,by dsimp only;rw[hmv,hbr,List.append_assoc]⟩ rfl rfl ?_;rw[List.map_append];rfl
    ·repeat' first|exact k9|refine k2 ?_|apply kA|apply kI;intro hc|refine k8 ?_|apply kL;intro hl
     apply kCt [1,2,4,6,7] [];conv=>whnf
     rw[Om (by omega)] at hbr;refine ih (i+1,br,ks++[((br.length:Nat):Int) - 1]) _ _ _ (by dsimp only;omega) ⟨by dsimp only;omega,by simp[hks],by dsimp only;omega,?_⟩ rfl rfl ?_
     ·rw[hT];dsimp only;rw[hbl,hbr,show k=C.length by omega]
     ·dsimp only;rw[Ok,show List.map ikF (ks++[((br.length:Nat):Int) - 1])=List.map ikF ks++[ikF (((br.length:Nat):Int) - 1)] from by simp];rfl
  ·rw[OE (by omega),jQ] at hT;rw[hyes _ _ hT,hnn]
   repeat' first|exact k9|refine k2 ?_|apply kA|apply kI;intro hc|refine k8 ?_|apply kL;intro hl
   refine aa.i ?_;simp only[aw,fg,List.map_append];refine congrArg (fun z=>F.tp [F.ag [F.sl (List.map aT ar++[[byF kind,F.vl (.int .u64 sa),F.vl (.int .u64 sb),F.vl (.int .u64 sc),F.vl (.int .u64 sd),stF text,inF lo,inF hi,F.sl (List.map ikF ks)]]),inF z],boF true]) ?_;simp
 ·refine aa.i ?_;rw[ofP,if_neg (by rw[←hF,hc];decide)];rfl
instance(kind sa sb sc sd:Int)(text:ByteArray)(lo hi:Int)(K:List (List F))(l:List Tre):C 70 [.ag [byF kind,.vl (.int .u64 sa),.vl (.int .u64 sb),.vl (.int .u64 sc),.vl (.int .u64 sd),stF text,inF lo,inF hi,.sl K],dO l]
  (.tp [aw (ofP ⟨kind,⟨sa,sb,sc,sd⟩,text,lo,hi,[]⟩ l).1,boF (ofP ⟨kind,⟨sa,sb,sc,sd⟩,text,lo,hi,[]⟩ l).2]) false ((⟨kind,⟨sa,sb,sc,sd⟩,text,lo,hi,[]⟩:Nod).wf∧l.length≤1466015503701∧(∀t∈l,Sm t)∧tot l+1≤1466015503701):=⟨fun h=>Hc kind sa sb sc sd text lo hi K l h.1 h.2.1 h.2.2.1 h.2.2.2⟩
instance(n:Nod)(l:List Tre):C 70 [.ag (aT n),dO l] (.tp [aw (ofP n l).1,boF (ofP n l).2]) false (n.wf∧l.length≤1466015503701∧(∀t∈l,Sm t)∧tot l+1≤1466015503701):=
 ⟨fun h=>Hc n.kind n.set.a n.set.b n.set.c n.set.d n.text n.min n.max _ l ⟨h.1.kind,h.1.set,h.1.text,h.1.min,h.1.max,by simp[eX],by simp⟩ h.2.1 h.2.2.1 h.2.2.2⟩
set_option maxRecDepth 100000
set_option maxHeartbeats 0
instance(a b:Tre):C 25 [aw a,aw b] (boF (decide (a=b))) true (a.wf∧b.wf):=⟨fun ⟨ha,hb⟩=>by
 have hal:=ha.len;have hbl:=hb.len;simp only[b9] at hal hbl;refine kf rfl rfl ?_;repeat' first|exact k9|refine k2 ?_|apply kA|apply kI;intro hc|refine k8 ?_|apply kL;intro hl
 ·have hab:a.nodes.length=b.nodes.length:=by omega
  have hrr:=hc;apply kCt [2,3,5] [];conv=>whnf
  refine Lp.ind (fun x:Nat=>a.nodes.length - x) (fun x=>x≤a.nodes.length∧a.nodes.take x=b.nodes.take x) (fun x=>[(5,InD x)]) (fun _=>[]) (fun _=>(boF (decide (a=b)),true)) 0 ⟨by simp,by simp⟩ rfl rfl rfl ?_
  rintro G i ih ⟨hi,hT⟩
  by_cases hx:i<a.nodes.length
  ·obtain⟨m,hm⟩:=exEq (a.nodes[i]);obtain⟨n,hn⟩:=exEq (b.nodes[i]'(by omega));have hmi:∀h,a.nodes[i]'h=m:=fun _=>hm.symm
   have hni:∀h,b.nodes[i]'h=n:=fun _=>hn.symm
   have hml:m.kids.length≤17592186044416:=by rw[hm];exact(ha.nodes _ (Of hx)).kids.1
   have hnl:n.kids.length≤17592186044416:=by rw[hn];exact(hb.nodes _ (Of (by omega))).kids.1
   have hno:m≠n→decide (a=b)=false:=fun h=>decide_eq_false fun e=>h (by subst e;rw[hm,hn])
   have hyes:m=n→a.nodes.take (i+1)=b.nodes.take (i+1):=fun h=>py hT hx (by omega) (by rw[←hm,←hn,h])
   repeat' first|exact k9|refine k2 ?_|apply kA|apply kI;intro hc|apply kL;intro hl|((simp only[hmi])<;>conv=>whnf)|((simp only[hni])<;>conv=>whnf)|refine k8 ?_|fail
   ·simp only[hmi,hni] at *;rename_i e1 e2 e3 e4 e5;have e6:=hc;have hkl:m.kids.length=n.kids.length:=by omega
    have e2':=Bts.tE.2 e2;apply kCt [2,3,5,6,7,8] [];conv=>whnf
    refine Lp.ind (fun x:Nat=>m.kids.length - x) (fun x=>x≤m.kids.length∧m.kids.take x=n.kids.take x) (fun x=>[(8,InD x)]) (fun _=>[]) (fun _=>(boF (decide (a=b)),true)) 0 ⟨by simp,by simp⟩ rfl rfl rfl ?_
    rintro G' k ih' ⟨hk,hK⟩
    by_cases hkx:k<m.kids.length
    ·repeat' first|exact k9|refine k2 ?_|apply kA|apply kI;intro hc|refine k8 ?_|apply kL;intro hl
     ·apply kCt [2,3,5,6,7,8] [];conv=>whnf
      exact ih' (k+1) _ _ _ (by omega) ⟨by omega,py hK hkx (by omega) hc⟩ rfl rfl rfl
     ·exact aa.b (hno fun e=>HZ hc (by rw[e])).symm rfl
    ·have hmn:m=n:=Nod.tE.2 ⟨e1,e2',e3,e4,e5,mn hK (by omega) (by omega)⟩
     repeat' first|exact k9|refine k2 ?_|apply kA|apply kI;intro hc|refine k8 ?_|apply kL;intro hl
     apply kCt [2,3,5] [];conv=>whnf
     exact ih (i+1) _ _ _ (by omega) ⟨by omega,hyes hmn⟩ rfl rfl rfl
   all_goals (simp only[hmi,hni] at hc;exact aa.b (hno fun e=>hc (by rw[e])).symm rfl)
  ·have hT':=mn hT (by omega) (by omega)
   repeat' first|exact k9|refine k2 ?_|apply kA|apply kI;intro hc|refine k8 ?_|apply kL;intro hl
   refine aa.b ?_ rfl;obtain⟨an,ar⟩:=a;obtain⟨bn,br⟩:=b;dsimp only at hT' hrr;rw[hT',hrr,decide_eq_true rfl]
 ·exact aa.b (decide_eq_false fun e=>hc (by rw[e])).symm rfl
 ·exact aa.b (decide_eq_false fun e=>hc (by rw[e])).symm rfl⟩
instance(t:Tre):C 101 [aw t] (inF (gL t)) true (Sm t):=⟨fun ⟨ht,hle⟩=>by
 have hsm:Sm t:=⟨ht,hle⟩
 have hlen:=ht.len;simp only[b9] at hlen;refine kf rfl rfl ?_;repeat' first|exact k9|refine k2 ?_|apply kA|apply kI;intro hc|refine k8 ?_|apply kL;intro hl
 ·have hR:=ak hc;have hP:gL t=(iz t.nodes []).getD t.root.toNat 0:=by rw[gL,if_pos hc]
  apply kCt [1,3,4] [];conv=>whnf
  refine Lp.ind (fun x:Nat×List Int=>t.nodes.length - x.1) (fun x=>x.1≤t.nodes.length∧x.2.length=x.1∧(∀y∈x.2,0≤y∧y≤x.1)∧iz t.nodes []=iz (t.nodes.drop x.1) x.2) (fun x=>[(4,InD x.1)]) (fun x=>[(1,.ro 0 3 1 ((x.2++List.replicate (t.nodes.length - x.1) 0).map ikF))]) (fun _=>(inF (gL t),true)) (0,[]) ⟨by simp,rfl,by simp,rfl⟩ rfl rfl ?_ ?_
  ·simp only[OH,O9];rw[show(List.replicate t.nodes.length (0:Int)).map ikF=List.replicate (t.nodes.map aT).length (ikF 0) by simp];rfl
  rintro G ⟨i,L⟩ ih ⟨hi,hD,hb,hT⟩
  dsimp only at hi hD hb hT ih ⊢
  by_cases hx:i<t.nodes.length
  ·obtain⟨n,hn⟩:=exEq (t.nodes[i]);have hni:∀h,t.nodes[i]'h=n:=fun _=>hn.symm
   have hkl:n.kids.length≤17592186044416:=by rw[hn];exact(ht.nodes _ (Of hx)).kids.1
   have hnl:(t.nodes[i]'hx).kids.length=n.kids.length:=by rw[hn]
   obtain⟨m,hm⟩:∃m,t.nodes.length - i=m+1:=⟨t.nodes.length - i - 1,by omega⟩
   rw[hm,show L++List.replicate (m+1) 0=ef L 0 m from rfl];rw[Oz hx,←hn,iz] at hT;have hkw:∀x∈n.kids,0≤x∧x<i:=fun x hxk=>hR.kok i n (by rw[hn];exact Oe hx) x hxk
   repeat' first|exact k9|refine k2 ?_|apply kA|apply kI;intro hc|apply kL;intro hl|((simp only[hni])<;>conv=>whnf)|refine k8 ?_|fail
   apply kCt [1,3,4,5] [];conv=>whnf
   refine Lp.ind (fun x:Nat×Int=>n.kids.length - x.1) (fun x=>x.1≤n.kids.length∧0≤x.2∧x.2≤i∧fB L 0 n.kids=fB L x.2 (n.kids.drop x.1)) (fun x=>[(5,InD x.1)]) (fun x=>[(1,.ro 0 3 1 ((ef L x.2 m).map ikF))]) (fun _=>(inF (gL t),true)) (0,0) ⟨by simp,by simp,by simp,rfl⟩ rfl rfl rfl ?_
   rintro G' ⟨j,d⟩ ih' ⟨hj,hd0,hd1,hK⟩
   dsimp only at hj hd0 hd1 hK ih' ⊢;have hlr:=yX L d m;have hai:∀h:i<(ef L d m).length,(ef L d m)[i]'h=d:=fun h=>Ct hD h
   by_cases hy:j<n.kids.length
   ·have hkj:=hkw _ (Of hy);rw[Oz hy,fB] at hK;obtain⟨x,hxx⟩:=exEq (n.kids[j]);have hxi:∀h,n.kids[j]'h=x:=fun _=>hxx.symm
    rw[←hxx] at hkj hK;have hal:∀h:x.toNat<(ef L d m).length,(ef L d m)[x.toNat]'h=L.getD x.toNat 0:=fun h=>DF (by omega) h
    have hdb:0≤L.getD x.toNat 0∧L.getD x.toNat 0≤i:=by
     rw[List.getD_eq_getElem?_getD,Oe (by omega)];exact hb _ (Of _)
    have hds:(ef L d m).set i (max d (L.getD x.toNat 0))=ef L (max d (L.getD x.toNat 0)) m:=o3 hD;generalize ef L d m=cur at *
    repeat' first|exact k9|refine k2 ?_|apply kA|apply kI;intro hc|apply kL;intro hl|((simp only[hni,hxi])<;>conv=>whnf)|((simp only[hai,hal])<;>conv=>whnf)|refine k8 ?_|fail
    apply kCt [1,3,4,5] [];conv=>whnf
    refine ih' (j+1,max d (L.getD x.toNat 0)) _ _ _ (by dsimp only;omega) ⟨by dsimp only;omega,by dsimp only;omega,by dsimp only;omega,hK⟩ rfl rfl ?_;dsimp only;rw[←hds,List.map_set,←CX];rfl
   ·rw[OE (by omega),fB] at hK;have hds:(ef L d m).set i (d+1)=ef L (d+1) m:=o3 hD;generalize ef L d m=cur at *
    repeat' first|exact k9|refine k2 ?_|apply kA|apply kI;intro hc|apply kL;intro hl|((simp only[hni])<;>conv=>whnf)|((simp only[hai])<;>conv=>whnf)|refine k8 ?_|fail
    apply kCt [1,3,4] [];conv=>whnf
    refine ih (i+1,L++[d+1]) _ _ _ (by dsimp only;omega) ⟨by dsimp only;omega,by simp[hD],?_,by rw[hT,hK]⟩ rfl rfl ?_
    ·intro y hy;dsimp only at hy ⊢;rcases Oy.1 hy with hy|hy
     ·have:=hb y hy;omega
     ·simp at hy;omega
    ·dsimp only;rw[show t.nodes.length - (i+1)=m by omega,show L++[d+1]++List.replicate m 0=ef L (d+1) m by simp[ef],←hds,List.map_set];rfl
  ·rw[OE (by omega),iz] at hT;rw[show t.nodes.length - i=0 by omega,Qe,Oj];have hrt:=hR.root;have hrl:t.root.toNat<L.length:=by omega
   repeat' first|exact k9|refine k2 ?_|apply kA|apply kI;intro hc|refine k8 ?_|apply kL;intro hl
   refine aa.n ?_ rfl;rw[hP,hT,List.getD_eq_getElem?_getD,Oe hrl];rfl
 ·exact aa.n (by rw[gL,if_neg (by rw[hc];decide)]) rfl⟩
theorem zC{t:Tre}(h:Sm t):Sm (aW t):=by
 refine⟨wu h.wf,?_⟩
 cases hr:ao t with
 | false=>rw[kE hr];exact Oq _
 | true=>
  have hR:=ak hr;rw[jE hr];exact OA (jz hR hR.root.1 hR.root.2) h.le
theorem AZ{a b:Tre}(ha:ao a=true)(hb:ao b=true):j9 a b=decide (aW a=aW b):=by
 have h1:=p8 (ak ha);have h2:=p8 (ak hb);rw[OV,Gl,decide_eq_true_iff]
 constructor
 ·rintro⟨_,_,h⟩
  rw[eQ ha,eQ hb,h]
 ·intro h;rw[eQ ha,eQ hb] at h;refine⟨ak ha,ak hb,?_⟩;rw[←h1.2,←h2.2,h]
instance(a b:Tre):C 91 [aw a,aw b] (boF (j9 a b)) true (Sm a∧Sm b):=⟨fun ⟨ha,hb⟩=>by
 have hca:=zC ha;have hcb:=zC hb;have hpre:(aW a).wf∧(aW b).wf:=⟨hca.wf,hcb.wf⟩
 refine kf rfl rfl ?_;repeat' first|exact k9|refine k2 ?_|apply kA|apply kI;intro hc|refine k8 ?_|apply kL;intro hl
 ·rename_i hra;exact aa.b (AZ hra hc).symm rfl
 ·exact aa.b (by simp[j9,hc]) rfl
 ·exact aa.b (by simp[j9,hc]) rfl⟩
instance(t:Tre):C 67 [aw t] (boF (kO t)) true (Sm t):=⟨fun ht=>by
 refine kf rfl rfl ?_;repeat' first|exact k9|refine k2 ?_|apply kA|apply kI;intro hc|refine k8 ?_|apply kL;intro hl
 all_goals (refine aa.b ?_ rfl;simp_all [kO,ed])
 all_goals try omega⟩
theorem uz{ns:List Nod}(h:cb (ah ns)):∀(f:Nat) (l:List Int),(∀k∈l,0≤k∧k<f)→f≤ns.length→(aF ns f l).trees=l.map fun k=>aR (aF ns ns.length [k])
 | 0,[],_,_=>by rw[aA];rfl
 | 0,k :: l,hk,_=>by have:=hk k (by simp);omega
 | f+1,[],_,_=>by rw[aA];rfl
 | f+1,k :: l,hk,hf=>by
  have h0:=hk k (by simp);have ih:=uz h (f+1) l (fun x hx=>hk x (by simp[hx])) hf;rw[aH,Fo.trees,ih,OB]
  congr 1
  rw[cN h ns.length (f+1) [k] (by intro x hx;simp at hx;subst hx;omega) (by intro x hx;simp at hx;subst hx;omega),aH,aA]
theorem wC{t:Tre}(hri:ao t=true){r:Nat}{n:Nod}(hr:t.root=r)(hn:t.nodes[r]?=some n):ae t=n.kids.map (fun k=>aC t k):=by
 have h:=ak hri;have hlt:=(Ox.1 hn).1;obtain⟨f,hf⟩:∃f,t.nodes.length=f+1:=⟨t.nodes.length - 1,by omega⟩
 have hch:ah t.nodes (r:Int)=n.kids:=(aM hn).symm;have hk:∀k∈n.kids,0≤k∧k<(r:Int):=fun k hk=>h.kok r n hn k hk
 unfold ae;rw[if_pos hri];unfold foT;rw[hf,aH,hr,hch,aA];show(aF t.nodes f n.kids).trees=_
 rw[uz h.kok.ah f n.kids (fun k hk'=>by have:=hk k hk';omega) (by omega)];apply Pk;intro k hk';have:=hk k hk';rw[mM h this.1 (by omega)]
instance(t:Tre):C 53 [aw t] (dO (ae t)) false (Sm t):=⟨fun ht=>by
 cases hri:ao t with
 | false=>
  refine kf rfl rfl ?_;repeat' first|exact k9|refine k2 ?_|apply kA|apply kI;intro hc|refine k8 ?_|apply kL;intro hl
  exact aa.i (by rw[ae,if_neg (by rw[hri];decide)];rfl)
 | true=>
  have hR:=ak hri;have h0:=hR.root;obtain⟨r,hrt⟩:∃r:Nat,t.root=r:=⟨t.root.toNat,by omega⟩
  have hrl:r<t.nodes.length:=by omega
  have hkm:=wC hri hrt (Oe hrl);obtain⟨n,hn⟩:=exEq (t.nodes[r]);have hni:∀h,t.nodes[t.root.toNat]'h=n:=fun _=>by rw[hn];congr 1;omega
  rw[←hn] at hkm;have hkN:n.kids.length≤500000:=by
   have h1:=(bu t).2;rw[hkm,Ok] at h1;have h2:=ht.le;omega
  rw[hkm];have hkl:n.kids.length≤17592186044416:=by rw[hn];exact(ht.wf.nodes _ (Of hrl)).kids.1
  have hkb:∀k∈n.kids,0≤k∧k<r:=fun k hk=>hR.kok r n (by rw[hn];exact Oe hrl) k hk
  refine kf rfl rfl ?_;repeat' first|exact k9|refine k2 ?_|apply kA|apply kI;intro hc|apply kL;intro hl|((simp only[hni])<;>conv=>whnf)|refine k8 ?_|fail
  apply Stp.fW 3 38 2 rfl rfl;apply kCt [1,3,4,5] [];conv=>whnf
  refine Lp.ind (fun x:Nat=>n.kids.length - x) (fun x=>x≤n.kids.length) (fun x=>[(5,InD x)]) (fun x=>[(1,.ro 0 38 2 (((n.kids.take x).map fun k=>aC t k).map fg))]) (fun _=>(dO (n.kids.map fun k=>aC t k),false)) 0 (by simp) rfl rfl rfl ?_
  rintro G i ih hi
  by_cases hx:i<n.kids.length
  ·have hkk:=hkb _ (Of hx);have hsub:iT t n.kids[i]=(aC t n.kids[i],true):=by rw[iT,if_pos ⟨hri,by omega,by omega⟩]
   repeat' first|exact k9|refine k2 ?_|apply kA|apply kI;intro hc|apply kL;intro hl|((rw[hsub])<;>conv=>whnf)|refine k8 ?_|fail
   apply kCt [1,3,4,5] [];conv=>whnf
   refine ih (i+1) _ _ _ (by omega) (by omega) rfl rfl ?_;rw[List.take_succ_eq_append_getElem hx,List.map_append,List.map_append,OK,OK];rfl
  ·rw[Om (by omega)]
   repeat' (first|exact k9|refine k2 ?_|apply kA|apply kI;intro hc|refine k8 ?_|apply kL;intro hl)⟩
end Go.Km
end
section
namespace Go.ab
open Go Go.Sl
theorem AK{m:Nod}{j:Fo}(h:(Fo.cons m j .nil).fb):ao (aR (.cons m j .nil))=true∧av (aR (.cons m j .nil))=m∧ae (aR (.cons m j .nil))=j.trees:=by
 have hr:ao (aR (.cons m j .nil))=true:=jA rfl h.1;have hf:foT (aR (.cons m j .nil))=.cons m j .nil:=ib rfl h.2;obtain⟨F,hF⟩:=CC hr;rw[hf] at hF
 injection hF with h1
 exact⟨hr,h1.symm,by rw[ae,if_pos hr,hf];rfl⟩
end Go.ab
namespace Go.Km
open Go Go.Vc Go.Proofs Go.ab
set_option maxRecDepth 100000
set_option maxHeartbeats 0
theorem jl{K:Fo}(hdw:K.dwf)(hsz:K.size≤100000):K.trees.length≤100000∧(∀t∈K.trees,Sm t)∧tot K.trees≤100000:=by
 have h1:=Fo.oE K;refine⟨by rw[Fo.bq];omega,fun t ht=>⟨zp hdw (by unfold b9;omega) t ht,?_⟩,by rw[jc];omega⟩;have h2:=bH ht;rw[jc] at h2;omega
theorem IS(k:Int):∀(N:Nat) (K:Fo),K.size<N→K.fb→K.dwf→K.size≤100000→Pure Tryz.prog X1.Γ 145 [byF k,dO K.trees] (dO (K.bV k).trees) false:=by
 intro N
 induction N with
 | zero=>intro K hK;omega
 | succ N ih0=>
 intro K hKN hfb hdw hsz;have inst:∀K:Fo,C 145 [byF k,dO K.trees] (dO (K.bV k).trees) false (K.size<N∧K.fb∧K.dwf∧K.size≤100000):=fun K=>⟨fun h=>ih0 K h.1 h.2.1 h.2.2.1 h.2.2.2⟩
 have hKl:=Fo.bq K;have hKs:=Fo.oE K;refine kf rfl rfl ?_;repeat' first|exact k9|refine k2 ?_|apply kA|apply kI;intro hc|refine k8 ?_|apply kL;intro hl
 apply Stp.fW 5 38 2 rfl rfl;apply kCt [0,1,5,6] [];conv=>whnf
 refine Lp.ind (fun x:Fo×Fo=>x.2.len) (fun x=>x.1.app x.2=K) (fun x=>[(6,InD x.1.len)]) (fun x=>[(0,.ro 0 38 2 ((x.1.bV k).trees.map fg))]) (fun _=>(dO (K.bV k).trees,false)) (.nil,K) rfl rfl rfl rfl ?_
 rintro G ⟨A,B⟩ ih hAB
 dsimp only at hAB ih ⊢;have hosz:=Fo.vx (k:=k) A;rw[←Fo.bq] at hosz;have hA1s:A.size+B.size=K.size:=by rw[←hAB,Fo.eo]
 cases B with
 | nil=>
  rw[Fo.nV] at hAB;subst hAB
  repeat' first|exact k9|refine k2 ?_|apply kA|apply kI;intro hc|refine k8 ?_|apply kL;intro hl
 | cons m j r=>
  have hKt:K.trees=A.trees++aR (.cons m j .nil) :: r.trees:=by rw[←hAB,Fo.fe];rfl
  have hAl:=Fo.bq A;have hlt:A.len<K.trees.length:=by rw[hKt,Oh,Og];omega
  have hgt:∀h,K.trees[A.len]'h=aR (.cons m j .nil):=fun h=>by
   have:K.trees[A.len]?=some (aR (.cons m j .nil)):=by rw[hKt,OL (by omega),hAl,Pt];rfl
   rw[Oe h] at this;exact Option.some.inj this
  have hfb2:(Fo.cons m j r).fb:=(Fo.lu.1 (by rw[hAB];exact hfb)).2;have hfb3:=Fo.aL.1 hfb2;have hdw2:(Fo.cons m j r).dwf:=((Fo.iV _ _).1 (by rw[hAB];exact hdw)).2;obtain⟨htr,htm,htk⟩:=AK (Fo.aL.2 ⟨hfb3.1,Fo.fN⟩);simp only[Fo.size] at hA1s;have hwt:Sm (aR (.cons m j .nil)):=(jl hdw hsz).2.1 _ (by rw[hKt];simp);have hosj:=Fo.vx (k:=k) j;rw[←Fo.bq] at hosj;have hpre:j.size<N∧j.fb∧j.dwf∧j.size≤100000:=⟨by omega,hfb3.1.2.2,hdw2.2.1,by omega⟩
  have hopA:(A.app (.cons m j .nil)).bV k=(A.bV k).app ((Fo.cons m j .nil).bV k):=Fo.nk _ _ _;have hapA:(A.app (.cons m j .nil)).app r=K:=by rw[Fo.m4];exact hAB
  have hlA:(A.app (.cons m j .nil)).len=A.len+1:=by rw[Fo.mT];rfl
  simp only[Fo.bV] at hopA;have htreR:fg (aR (.cons m j .nil))=fg (aR (.cons m j .nil)):=rfl;obtain⟨t,ht⟩:=exEq (aR (.cons m j .nil));rw[←ht] at hwt htr htm htk;have hgt':∀h,K.trees[A.len]'h=t:=fun h=>by rw[ht];exact hgt h
  clear htreR hgt;have hkd:(av t).kind=m.kind:=by rw[htm]
  by_cases hk:m.kind=k
  ·rw[if_pos hk] at hopA
   repeat' first|exact k9|refine k2 ?_|apply kA|apply kI;intro hc|apply kL;intro hl|((simp only[hgt'])<;>conv=>whnf)|((simp only[htm])<;>conv=>whnf)|((simp only[htk])<;>conv=>whnf)|refine k8 ?_|fail
   apply kCt [0,1,5,6] [];conv=>whnf
   refine ih (A.app (.cons m j .nil),r) _ _ _ (by simp only[Fo.len];omega) hapA rfl ?_ ?_
   ·dsimp only;rw[hlA];rfl
   ·dsimp only;rw[hopA,Fo.nV,Fo.fe,List.map_append];rfl
  ·rw[if_neg hk] at hopA
   by_cases h40:k=4∧m.kind=0
   ·rw[if_pos h40] at hopA
    repeat' first|exact k9|refine k2 ?_|apply kA|apply kI;intro hc|apply kL;intro hl|((simp only[hgt'])<;>conv=>whnf)|((simp only[htm])<;>conv=>whnf)|refine k8 ?_|fail
    apply kCt [0,1,5,6] [];conv=>whnf
    refine ih (A.app (.cons m j .nil),r) _ _ _ (by simp only[Fo.len];omega) hapA rfl ?_ ?_
    ·dsimp only;rw[hlA];rfl
    ·dsimp only;rw[hopA,Fo.nV];rfl
   ·rw[if_neg h40] at hopA
    repeat' first|exact k9|refine k2 ?_|apply kA|apply kI;intro hc|apply kL;intro hl|((simp only[hgt'])<;>conv=>whnf)|((simp only[htm])<;>conv=>whnf)|refine k8 ?_|fail
    all_goals
     apply kCt [0,1,5,6] [];conv=>whnf
     refine ih (A.app (.cons m j .nil),r) _ _ _ (by simp only[Fo.len];omega) hapA rfl ?_ ?_
     ·dsimp only;rw[hlA];rfl
     ·dsimp only;rw[hopA,Fo.fe,List.map_append,ht];rfl
instance(k:Int)(K:Fo):C 145 [byF k,dO K.trees] (dO (K.bV k).trees) false (K.fb∧K.dwf∧K.size≤100000):=⟨fun h=>IS k (K.size+1) K (by omega) h.1 h.2.1 h.2.2⟩
end Go.Km
end
section
namespace Go.ab
open Go Go.Sl
theorem Ae{K:Fo}:fC b5 K=(aR (Fo.join b5 dB K.parts),true):=rfl
theorem yV{K:Fo}:fC en K=(aR (Fo.join en iM K.ways),true):=by
 unfold fC;rw[if_pos (by rfl),Fo.Cu]
end Go.ab
namespace Go.Km
open Go Go.Vc Go.Proofs Go.ab
set_option maxRecDepth 100000
set_option maxHeartbeats 0
theorem Hs(K:Fo)(X:List (List F))(hfb:K.fb)(hok:K.ok)(hdw:K.dwf)(hsz:K.size≤100000):Pure Tryz.prog X1.Γ 124 [.ag [byF 4,.vl (.int .u64 0),.vl (.int .u64 0),.vl (.int .u64 0),.vl (.int .u64 0),stF ⟨#[]⟩,inF 0,inF 0,.sl X],dO K.trees] (t2F (ab.fC b5 K)) false:=by
 have hf2:fits ⟨4,⟨0,0,0,0⟩,⟨#[]⟩,0,0,[]⟩ 2=true:=by decide +kernel
 have hwf:(⟨4,⟨0,0,0,0⟩,⟨#[]⟩,0,0,[]⟩:Nod).wf:=kx;have hpf:=Fo.Ih hfb;have hpo:=Fo.Gn hok;have hpd:K.parts.dwf:=by first|exact Fo.jO (Fo.kB hdw)|exact Fo.jO hdw
 have hps:=Fo.sX K;have hop:K.bV 4=K.parts:=Fo.rn hok;have hpre:K.fb∧K.dwf∧K.size≤100000:=⟨hfb,hdw,hsz⟩
 obtain⟨g1,g2,g3⟩:=jl hpd (by omega);obtain⟨P,hP⟩:=exEq (K.parts);have hput:ab.fC b5 K=(aR (Fo.join b5 dB P),true):=by rw[hP];first|exact Ae|exact yV
 rw[←hP] at hop g1 g2 g3 hpf hpo;rw[hput];clear hput hP;rcases Fo.cP b5 dB P with ⟨rfl,ej⟩|⟨a,b,rfl,ej⟩|⟨h2,ej⟩
 ·rw[ej];have hll:(K.bV 4).trees.length=0:=by rw[hop];rfl
  refine kf rfl rfl ?_;repeat' first|exact k9|refine k2 ?_|apply kA|apply kI;intro hc|apply kL;intro hl|((simp only[hf2])<;>conv=>whnf)|((simp only[hop])<;>conv=>whnf)|refine k8 ?_|fail
  exact aa.i rfl
 ·rw[ej];have hcl:=(NT.tree hpf hpo).clean;have hwt:=g2 (aR (.cons a b .nil)) (by simp[Fo.trees]);obtain⟨t,ht⟩:=exEq (aR (.cons a b .nil));have htt:(Fo.cons a b .nil).trees=[t]:=by rw[ht];rfl
  rw[←ht] at hcl hwt ⊢;have hll:(K.bV 4).trees.length=1:=by rw[hop,htt];rfl
  have h0:∀h,(K.bV 4).trees[0]'h=t:=fun h=>by
   have:(K.bV 4).trees[0]?=some t:=by rw[hop,htt];rfl
   rw[Oe h] at this;exact Option.some.inj this
  refine kf rfl rfl ?_;repeat' first|exact k9|refine k2 ?_|apply kA|apply kI;intro hc|apply kL;intro hl|((simp only[hf2])<;>conv=>whnf)|((simp only[h0])<;>conv=>whnf)|((simp only[hcl])<;>conv=>whnf)|refine k8 ?_|fail
 ·have h2i:(2:Int)≤(P.len:Int):=by exact_mod_cast h2
  have hof:=yE (n:=b5) rfl hpf (by first|exact jm h2i|exact jD h2i) dB h2;have htl:=Fo.bq P;obtain⟨t,ht⟩:=exEq (aR (Fo.join b5 dB P));rw[←ht] at hof ⊢;have hpre2:(⟨4,⟨0,0,0,0⟩,⟨#[]⟩,0,0,[]⟩:Nod).wf∧P.trees.length≤1466015503701∧(∀t∈P.trees,Sm t)∧tot P.trees+1≤1466015503701:=⟨hwf,by omega,g2,by omega⟩
  have hof':ofP ⟨4,⟨0,0,0,0⟩,⟨#[]⟩,0,0,[]⟩ P.trees=(t,true):=hof;have hll:(K.bV 4).trees.length=P.len:=by rw[hop,htl]
  refine kf rfl rfl ?_;repeat' first|exact k9|refine k2 ?_|apply kA|apply kI;intro hc|apply kL;intro hl|((simp only[hf2])<;>conv=>whnf)|((simp only[hop])<;>conv=>whnf)|((simp only[hof'])<;>conv=>whnf)|refine k8 ?_|fail
theorem Fw(K:Fo)(X:List (List F))(hfb:K.fb)(hok:K.ok)(hdw:K.dwf)(hsz:K.size≤100000):Pure Tryz.prog X1.Γ 124 [.ag [byF 5,.vl (.int .u64 0),.vl (.int .u64 0),.vl (.int .u64 0),.vl (.int .u64 0),stF ⟨#[]⟩,inF 0,inF 0,.sl X],dO K.trees] (t2F (ab.fC en K)) false:=by
 have hf2:fits ⟨5,⟨0,0,0,0⟩,⟨#[]⟩,0,0,[]⟩ 2=true:=by decide +kernel
 have hwf:(⟨5,⟨0,0,0,0⟩,⟨#[]⟩,0,0,[]⟩:Nod).wf:=FZ;have hpf:=Fo.JP hfb;have hpo:=Fo.Ji hok;have hpd:K.ways.dwf:=by first|exact Fo.jO (Fo.kB hdw)|exact Fo.jO hdw
 have hps:=Fo.EF K;have hop:K.bV 5=K.ways:=Fo.sZ hok;have hpre:K.fb∧K.dwf∧K.size≤100000:=⟨hfb,hdw,hsz⟩
 obtain⟨g1,g2,g3⟩:=jl hpd (by omega);obtain⟨P,hP⟩:=exEq (K.ways);have hput:ab.fC en K=(aR (Fo.join en iM P),true):=by rw[hP];first|exact Ae|exact yV
 rw[←hP] at hop g1 g2 g3 hpf hpo;rw[hput];clear hput hP;rcases Fo.cP en iM P with ⟨rfl,ej⟩|⟨a,b,rfl,ej⟩|⟨h2,ej⟩
 ·rw[ej];have hll:(K.bV 5).trees.length=0:=by rw[hop];rfl
  refine kf rfl rfl ?_;repeat' first|exact k9|refine k2 ?_|apply kA|apply kI;intro hc|apply kL;intro hl|((simp only[hf2])<;>conv=>whnf)|((simp only[hop])<;>conv=>whnf)|refine k8 ?_|fail
  exact aa.i rfl
 ·rw[ej];have hcl:=(NT.tree hpf hpo).clean;have hwt:=g2 (aR (.cons a b .nil)) (by simp[Fo.trees]);obtain⟨t,ht⟩:=exEq (aR (.cons a b .nil));have htt:(Fo.cons a b .nil).trees=[t]:=by rw[ht];rfl
  rw[←ht] at hcl hwt ⊢;have hll:(K.bV 5).trees.length=1:=by rw[hop,htt];rfl
  have h0:∀h,(K.bV 5).trees[0]'h=t:=fun h=>by
   have:(K.bV 5).trees[0]?=some t:=by rw[hop,htt];rfl
   rw[Oe h] at this;exact Option.some.inj this
  refine kf rfl rfl ?_;repeat' first|exact k9|refine k2 ?_|apply kA|apply kI;intro hc|apply kL;intro hl|((simp only[hf2])<;>conv=>whnf)|((simp only[h0])<;>conv=>whnf)|((simp only[hcl])<;>conv=>whnf)|refine k8 ?_|fail
 ·have h2i:(2:Int)≤(P.len:Int):=by exact_mod_cast h2
  have hof:=yE (n:=en) rfl hpf (by first|exact jm h2i|exact jD h2i) iM h2;have htl:=Fo.bq P;obtain⟨t,ht⟩:=exEq (aR (Fo.join en iM P));rw[←ht] at hof ⊢;have hpre2:(⟨5,⟨0,0,0,0⟩,⟨#[]⟩,0,0,[]⟩:Nod).wf∧P.trees.length≤1466015503701∧(∀t∈P.trees,Sm t)∧tot P.trees+1≤1466015503701:=⟨hwf,by omega,g2,by omega⟩
  have hof':ofP ⟨5,⟨0,0,0,0⟩,⟨#[]⟩,0,0,[]⟩ P.trees=(t,true):=hof;have hll:(K.bV 5).trees.length=P.len:=by rw[hop,htl]
  refine kf rfl rfl ?_;repeat' first|exact k9|refine k2 ?_|apply kA|apply kI;intro hc|apply kL;intro hl|((simp only[hf2])<;>conv=>whnf)|((simp only[hop])<;>conv=>whnf)|((simp only[hof'])<;>conv=>whnf)|refine k8 ?_|fail
theorem Ed(kind sa sb sc sd:Int)(text:ByteArray)(lo hi:Int)(X:List (List F))(K:Fo)(h4:kind≠4)(h5:kind≠5)(hn:(⟨kind,⟨sa,sb,sc,sd⟩,text,lo,hi,[]⟩:Nod).wf)(hfb:K.fb)(hdw:K.dwf)(hsz:K.size≤100000) :
  Pure Tryz.prog X1.Γ 124 [.ag [byF kind,.vl (.int .u64 sa),.vl (.int .u64 sb),.vl (.int .u64 sc),.vl (.int .u64 sd),stF text,inF lo,inF hi,.sl X],dO K.trees] (t2F (ab.fC ⟨kind,⟨sa,sb,sc,sd⟩,text,lo,hi,[]⟩ K)) false:=by
 obtain⟨g1,g2,g3⟩:=jl hdw hsz;have hpre2:(⟨kind,⟨sa,sb,sc,sd⟩,text,lo,hi,[]⟩:Nod).wf∧K.trees.length≤1466015503701∧(∀t∈K.trees,Sm t)∧tot K.trees+1≤1466015503701:=⟨hn,by omega,g2,by omega⟩
 have hof:ofP ⟨kind,⟨sa,sb,sc,sd⟩,text,lo,hi,[]⟩ K.trees=ab.fC ⟨kind,⟨sa,sb,sc,sd⟩,text,lo,hi,[]⟩ K:=by
  rw[ID rfl h4 h5 hfb];have hfk:lM ⟨kind,⟨sa,sb,sc,sd⟩,text,lo,hi,[]⟩ K.len=fits ⟨kind,⟨sa,sb,sc,sd⟩,text,lo,hi,[]⟩ K.len:=by unfold lM;rw[if_neg (by rintro(h|h);exact h4 h;exact h5 h)]
  unfold ab.fC;rw[hfk]
 rw[←hof];refine kf rfl rfl ?_;repeat' first|exact k9|refine k2 ?_|apply kA|apply kI;intro hc|refine k8 ?_|apply kL;intro hl
theorem CB(kind sa sb sc sd:Int)(text:ByteArray)(lo hi:Int)(X:List (List F))(K:Fo)(h:((kind=4→(⟨kind,⟨sa,sb,sc,sd⟩,text,lo,hi,[]⟩:Nod)=b5)∧(kind=5→(⟨kind,⟨sa,sb,sc,sd⟩,text,lo,hi,[]⟩:Nod)=en)∧(⟨kind,⟨sa,sb,sc,sd⟩,text,lo,hi,[]⟩:Nod).wf)∧K.fb∧K.ok∧K.dwf∧K.size≤100000) :
  Pure Tryz.prog X1.Γ 124 [.ag [byF kind,.vl (.int .u64 sa),.vl (.int .u64 sb),.vl (.int .u64 sc),.vl (.int .u64 sd),stF text,inF lo,inF hi,.sl X],dO K.trees] (t2F (ab.fC ⟨kind,⟨sa,sb,sc,sd⟩,text,lo,hi,[]⟩ K)) false:=by
 obtain⟨⟨hs,hc,hn⟩,hfb,hok,hdw,hsz⟩:=h
 by_cases h4:kind=4
 ·have:=hs h4;simp only[b5,Bts.zero,Nod.mk.injEq,Bts.mk.injEq] at this;obtain⟨rfl,⟨rfl,rfl,rfl,rfl⟩,rfl,rfl,rfl,_⟩:=this;exact Hs K X hfb hok hdw hsz
 ·by_cases h5:kind=5
  ·have:=hc h5;simp only[en,Bts.zero,Nod.mk.injEq,Bts.mk.injEq] at this;obtain⟨rfl,⟨rfl,rfl,rfl,rfl⟩,rfl,rfl,rfl,_⟩:=this;exact Fw K X hfb hok hdw hsz
  ·exact Ed kind sa sb sc sd text lo hi X K h4 h5 hn hfb hdw hsz
abbrev xo(n:Nod):Prop:=(n.kind=4→n=b5)∧(n.kind=5→n=en)∧n.wf
instance(kind sa sb sc sd:Int)(text:ByteArray)(lo hi:Int)(X:List (List F))(K:Fo):C 124 [.ag [byF kind,.vl (.int .u64 sa),.vl (.int .u64 sb),.vl (.int .u64 sc),.vl (.int .u64 sd),stF text,inF lo,inF hi,.sl X],dO K.trees] (t2F (ab.fC ⟨kind,⟨sa,sb,sc,sd⟩,text,lo,hi,[]⟩ K)) false (xo ⟨kind,⟨sa,sb,sc,sd⟩,text,lo,hi,[]⟩∧K.fb∧K.ok∧K.dwf∧K.size≤100000):=⟨fun h=>CB kind sa sb sc sd text lo hi X K h⟩
instance(n:Nod)(K:Fo):C 124 [.ag (aT n),dO K.trees] (t2F (ab.fC n K)) false ((n.kids=[]∧xo n)∧K.fb∧K.ok∧K.dwf∧K.size≤100000):=⟨fun h=>by
 obtain⟨⟨hk,hp⟩,h⟩:=h;have e:n=⟨n.kind,⟨n.set.a,n.set.b,n.set.c,n.set.d⟩,n.text,n.min,n.max,[]⟩:=by rw[←hk]
 have:=CB n.kind n.set.a n.set.b n.set.c n.set.d n.text n.min n.max (n.kids.map ikF) K ⟨by rw[←e];exact hp,h⟩;rw[←e] at this;exact this⟩
theorem Fq:∀(N:Nat) (t:Tre),t.nodes.length<N→t.wf→t.nodes.length≤100000→Pure Tryz.prog X1.Γ 93 [aw t] (t2F (dU t)) false:=by
 intro N
 induction N with
 | zero=>intro t ht;omega
 | succ N ih0=>
 intro t hN ht htl;have inst:∀t:Tre,C 93 [aw t] (t2F (dU t)) false (t.nodes.length<N∧t.wf∧t.nodes.length≤100000):=fun t=>⟨fun h=>ih0 t h.1 h.2.1 h.2.2⟩
 have hsm:Sm t:=⟨ht,by omega⟩
 cases hri:ao t with
 | false=>
  rw[kn hri];refine kf rfl rfl ?_;repeat' first|exact k9|refine k2 ?_|apply kA|apply kI;intro hc|refine k8 ?_|apply kL;intro hl
  exact aa.i rfl
 | true=>
  obtain⟨Q,hF,hfb,hrk,hfit,hkids⟩:=fU hri;have hmk:=BW hri hF hfb hrk hfit;have hless:=qP hri hF;have hdw:Q.dwf:=by
   have h1:(foT t).dwf:=eS ht.nodes _ _;rw[hF] at h1;exact h1.2.1
  have hns:=Fo.fc Q;have hnt:=sR hfb;obtain⟨g1,g2,g3⟩:=jl hdw (by omega);have hlen:∀x∈Q.trees,x.nodes.length<N∧x.wf∧x.nodes.length≤100000:=fun x hx=>by
   have h1:=bH hx;rw[jc] at h1;exact⟨by omega,(g2 x hx).wf,by omega⟩
  have hwr:=iu ht;have hs4:(av t).kind=4→av t=b5:=fun h=>(dg hfit h hrk).1
  have hs5:(av t).kind=5→av t=en:=fun h=>(dd hfit h hrk).1
  have hpre:((av t).kids=[]∧xo (av t))∧Q.norm.fb∧Q.norm.ok∧Q.norm.dwf∧Q.norm.size≤100000:=⟨⟨hrk,hs4,hs5,hwr⟩,Fo.pM hfb,Fo.sB Q,Fo.jy hdw,by omega⟩
  rw[hmk];have hmk2:ab.fC (av t) Q.norm=dU t:=hmk.symm;rw[←hmk];generalize dU t=z at *;refine kf rfl rfl ?_;repeat' first|exact k9|refine k2 ?_|apply kA|apply kI;intro hc|apply kL;intro hl|((simp only[hkids])<;>conv=>whnf)|refine k8 ?_|fail
  apply Stp.fW 4 38 2 rfl rfl;apply kCt [1,2,4,5,6] [];conv=>whnf
  refine Lp.ind (fun x:Nat=>Q.trees.length - x) (fun x=>x≤Q.trees.length) (fun x=>[(6,InD x)]) (fun x=>[(2,.ro 0 38 2 (((Q.trees.take x).map fun t=>(dU t).1).map fg))]) (fun _=>(t2F z,false)) 0 (by simp) rfl rfl rfl ?_
  rintro G i ih hi
  by_cases hx:i<Q.trees.length
  ·obtain⟨x,hxx⟩:=exEq (Q.trees[i]);have hxi:∀h,Q.trees[i]'h=x:=fun _=>hxx.symm
   have hlx:=hlen x (by rw[hxx];exact Of hx)
   repeat' first|exact k9|refine k2 ?_|apply kA|apply kI;intro hc|apply kL;intro hl|((simp only[hxi])<;>conv=>whnf)|refine k8 ?_|fail
   apply kCt [1,2,4,5,6] [];conv=>whnf
   refine ih (i+1) _ _ _ (by omega) (by omega) rfl rfl ?_;rw[List.take_succ_eq_append_getElem hx,List.map_append,List.map_append,OK,OK,←hxx];rfl
  ·rw[Om (by omega),hnt]
   repeat' first|exact k9|refine k2 ?_|apply kA|apply kI;intro hc|apply kL;intro hl|((simp only[hmk2])<;>conv=>whnf)|refine k8 ?_|fail
instance(t:Tre):C 93 [aw t] (t2F (dU t)) false (t.wf∧t.nodes.length≤100000):=⟨fun h=>Fq (t.nodes.length+1) t (by omega) h.1 h.2⟩
end Go.Km
end
section
namespace Go.ab
open Go Go.Sl
theorem rD:∀{l:List Tre},me l=true→l.map (fun t=>(dU t).1)=(foL l).norm.trees
 | [],_=>rfl
 | t :: l,h=>by
  have h':=eI.1 h;have ht:=h' t (by simp);obtain⟨m,j,e⟩:=Fo.one (show(foT t).norm.len=1 by rw[Fo.jt,(ov ht).2]);rw[OB,rD (eI.2 fun x hx=>h' x (by simp[hx])),foL,Fo.z6,Fo.fe,dH ht,e];rfl
def rQ(n x:Int):Bool:=(decide (n=4)&&(decide (x=4)||decide (x=0)))||(decide (n=5)&&decide (x=5))
theorem Jp(ns:List Nod)(n:Nod):eB ns n=n.kids.all fun k=>!rQ n.kind (bj ns k):=by
 unfold eB rQ
 by_cases h4:n.kind=4
 ·simp[h4]
 ·by_cases h5:n.kind=5
  ·simp[h5]
  ·simp[h4,h5]
end Go.ab
namespace Go.Km
open Go Go.Vc Go.Proofs Go.ab
set_option maxRecDepth 100000
set_option maxHeartbeats 0
theorem Di(kind sa sb sc sd:Int)(text:ByteArray)(lo hi:Int)(X:List (List F))(l:List Tre)(hp:xo ⟨kind,⟨sa,sb,sc,sd⟩,text,lo,hi,[]⟩)(hw:∀t∈l,t.wf)(hto:tot l≤100000)(hll:l.length≤100000) :
  Pure Tryz.prog X1.Γ 92 [.ag [byF kind,.vl (.int .u64 sa),.vl (.int .u64 sb),.vl (.int .u64 sc),.vl (.int .u64 sd),stF text,inF lo,inF hi,.sl X],dO l] (t2F (eG ⟨kind,⟨sa,sb,sc,sd⟩,text,lo,hi,[]⟩ l)) false:=by
 have hwl:=hw;refine kf rfl rfl ?_;repeat' first|exact k9|refine k2 ?_|apply kA|apply kI;intro hc|refine k8 ?_|apply kL;intro hl
 apply Stp.fW 6 38 2 rfl rfl;apply kCt [1,2,4,6,7] [];conv=>whnf
 refine Lp.ind (fun x:Nat=>l.length - x) (fun x=>x≤l.length∧me (l.take x)=true) (fun x=>[(7,InD x)]) (fun x=>[(2,.ro 0 38 2 (((l.take x).map fun t=>(dU t).1).map fg))]) (fun _=>(t2F (eG ⟨kind,⟨sa,sb,sc,sd⟩,text,lo,hi,[]⟩ l),false)) 0 ⟨by simp,rfl⟩ rfl rfl rfl ?_
 rintro G i ih ⟨hil,hall⟩
 by_cases hx:i<l.length
 ·obtain⟨x,hxx⟩:=exEq (l[i]);have hxi:∀h,l[i]'h=x:=fun _=>hxx.symm
  have hxl:x∈l:=by rw[hxx];exact Of hx
  have hpre:x.wf∧x.nodes.length≤100000:=⟨hw x hxl,by have:=bH hxl;omega⟩
  have hm:(dU x).2=ao x:=G8 x
  cases hrx:ao x with
  | false=>
   have hno:eG ⟨kind,⟨sa,sb,sc,sd⟩,text,lo,hi,[]⟩ l=(.zero,false):=mg (by
    cases hal:me l with
    | false=>rfl
    | true=>rw[eI.1 hal x hxl] at hrx;cases hrx)
   rw[hrx] at hm;rw[hno]
   repeat' first|exact k9|refine k2 ?_|apply kA|apply kI;intro hc|apply kL;intro hl|((simp only[hxi])<;>conv=>whnf)|((simp only[hm])<;>conv=>whnf)|refine k8 ?_|fail
   exact aa.i rfl
  | true=>
   rw[hrx] at hm
   repeat' first|exact k9|refine k2 ?_|apply kA|apply kI;intro hc|apply kL;intro hl|((simp only[hxi])<;>conv=>whnf)|((simp only[hm])<;>conv=>whnf)|refine k8 ?_|fail
   apply kCt [1,2,4,6,7] [];conv=>whnf
   refine ih (i+1) _ _ _ (by omega) ⟨by omega,?_⟩ rfl rfl ?_
   ·rw[List.take_succ_eq_append_getElem hx,←hxx];unfold me at hall ⊢;rw[QG,hall];simp[hrx]
   ·rw[List.take_succ_eq_append_getElem hx,List.map_append,List.map_append,OK,OK,←hxx];rfl
 ·rw[Om (by omega)] at hall ⊢;obtain⟨hfb,hfl⟩:=Im (eI.1 hall);have hns:=Fo.fc (foL l);rw[jI (eI.1 hall)] at hns;have hpre:xo ⟨kind,⟨sa,sb,sc,sd⟩,text,lo,hi,[]⟩∧(foL l).norm.fb∧(foL l).norm.ok∧(foL l).norm.dwf∧(foL l).norm.size≤100000:=⟨hp,Fo.pM hfb,Fo.sB _,Fo.jy (se hw),by omega⟩
  rw[rD hall,←D3 hall]
  repeat' first|exact k9|refine k2 ?_|apply kA|apply kI;intro hc|refine k8 ?_|apply kL;intro hl
instance(t:Tre):C 65 [aw t] (boF (dY t)) true (Sm t):=⟨fun ⟨ht,hle⟩=>by
 have hsm:Sm t:=⟨ht,hle⟩
 have hlen:=ht.len;simp only[b9] at hlen
 cases hr:ao t with
 | false=>
  rw[s7 hr];refine kf rfl rfl ?_;repeat' first|exact k9|refine k2 ?_|apply kA|apply kI;intro hc|refine k8 ?_|apply kL;intro hl
 | true=>
  have hR:=ak hr;unfold dY;rw[hr,PG];refine kf rfl rfl ?_;repeat' first|exact k9|refine k2 ?_|apply kA|apply kI;intro hc|refine k8 ?_|apply kL;intro hl
  apply kCt [1,3] [];conv=>whnf
  refine Lp.ind (fun z:Nat=>t.nodes.length - z) (fun z=>z≤t.nodes.length∧∀y,∀h:y<t.nodes.length,y<z→eB t.nodes t.nodes[y]=true) (fun z=>[(3,InD z)]) (fun z=>[]) (fun _=>(boF (t.nodes.all (eB t.nodes)),true)) 0 ⟨by simp,fun y _ h=>by omega⟩ rfl rfl rfl ?_
  rintro G i ih ⟨hi,hA⟩
  by_cases hx:i<t.nodes.length
  ·obtain⟨n,hn⟩:=exEq (t.nodes[i]);have hni:∀h:i<t.nodes.length,t.nodes[i]'h=n:=fun _=>hn.symm
   have hget:t.nodes[i]?=some n:=by rw[hn];exact Oe hx
   have hkb:=hR.kok i n hget;have hkl:n.kids.length≤17592186044416:=(ht.nodes n (by rw[hn];exact Of hx)).kids.1;have hno:eB t.nodes n=false→t.nodes.all (eB t.nodes)=false:=fun h=>by
    rw[QL];exact⟨n,by rw[hn];exact Of hx,by rw[h];decide⟩
   have hnx:eB t.nodes n=true→∀y,∀h:y<t.nodes.length,y<i+1→eB t.nodes t.nodes[y]=true:=fun h y hy hyi=>by
    rcases Pu y i with h1|h1
    ·exact hA y hy h1
    ·have:y=i:=by omega
     subst this;rw[hni];exact h
   rw[Jp] at hno hnx
   repeat' first|exact k9|refine k2 ?_|apply kA|apply kI;intro hc|apply kL;intro hl|((simp only[hni])<;>conv=>whnf)|refine k8 ?_|fail
   apply kCt [1,3,4,5] [];conv=>whnf
   refine Lp.ind (fun z:Nat=>n.kids.length - z) (fun z=>z≤n.kids.length∧∀y,∀h:y<n.kids.length,y<z→rQ n.kind (bj t.nodes n.kids[y])=false) (fun z=>[(5,InD z)]) (fun z=>[]) (fun _=>(boF (t.nodes.all (eB t.nodes)),true)) 0 ⟨by simp,fun y _ h=>by omega⟩ rfl rfl rfl ?_
   rintro G' j ih' ⟨hj,hB⟩
   by_cases hy:j<n.kids.length
   ·obtain⟨q,hq⟩:∃q:Nat,n.kids[j]=q:=⟨(n.kids[j]).toNat,by have:=hkb _ (Of hy);omega⟩
    have hqi:∀h:j<n.kids.length,n.kids[j]'h=(q:Int):=fun _=>hq
    have hql:q<t.nodes.length:=by have:=hkb _ (Of hy);omega
    obtain⟨m,hm⟩:=exEq (t.nodes[q]);have hmi:∀h:q<t.nodes.length,t.nodes[q]'h=m:=fun _=>hm.symm
    have hkq:bj t.nodes (q:Int)=m.kind:=by rw[hm];exact jq t.nodes hql
    have hbad:rQ n.kind m.kind=true→t.nodes.all (eB t.nodes)=false:=fun h=>hno (by
     rw[QL];refine⟨n.kids[j],Of hy,?_⟩;rw[hq,hkq,h]
     decide)
    have hok:rQ n.kind m.kind=false→∀y,∀h:y<n.kids.length,y<j+1→rQ n.kind (bj t.nodes n.kids[y])=false:=fun h y hy2 hyj=>by
     rcases Pu y j with h1|h1
     ·exact hB y hy2 h1
     ·have:y=j:=by omega
      subst this;rw[hq,hkq];exact h
    have hbT:(n.kind=4∧(m.kind=4∨m.kind=0)∨n.kind=5∧m.kind=5)→rQ n.kind m.kind=true:=fun h=>by
     unfold rQ;rcases h with ⟨h,h'|h'⟩|⟨h,h'⟩<;>simp[h,h']
    have hbF:¬(n.kind=4∧(m.kind=4∨m.kind=0)∨n.kind=5∧m.kind=5)→rQ n.kind m.kind=false:=fun h=>by
     cases hb:rQ n.kind m.kind with
     | false=>rfl
     | true=>
      refine absurd ?_ h;unfold rQ at hb;simp only[Pp,Oi,decide_eq_true_eq] at hb;exact hb
    repeat' first|exact k9|refine k2 ?_|apply kA|apply kI;intro hc|apply kL;intro hl|((simp only[hqi,Oo])<;>conv=>whnf)|((simp only[hmi])<;>conv=>whnf)|refine k8 ?_|fail
    all_goals simp only[hqi,Oo,hmi] at *
    all_goals first
     | exact aa.b (hbad (hbT (by omega))).symm rfl
     | (
       apply kCt [1,3,4,5] [];conv=>whnf
       exact ih' (j+1) _ _ _ (by omega) ⟨by omega,hok (hbF (by omega))⟩ rfl rfl rfl)
   ·have hN:(n.kids.all fun k=>!rQ n.kind (bj t.nodes k))=true:=by
     rw[OF];intro x hx;obtain⟨y,hy2,rfl⟩:=QO.1 hx;rw[hB y hy2 (by omega)];rfl
    repeat' first|exact k9|refine k2 ?_|apply kA|apply kI;intro hc|refine k8 ?_|apply kL;intro hl
    apply kCt [1,3] [];conv=>whnf
    exact ih (i+1) _ _ _ (by omega) ⟨by omega,hnx hN⟩ rfl rfl rfl
  ·repeat' first|exact k9|refine k2 ?_|apply kA|apply kI;intro hc|refine k8 ?_|apply kL;intro hl
   refine aa.b ?_ rfl;rw[eq_comm,OF];intro x hx2;obtain⟨y,hy2,rfl⟩:=QO.1 hx2;exact hA y hy2 (by omega)⟩
instance(kind sa sb sc sd:Int)(text:ByteArray)(lo hi:Int)(X:List (List F))(l:List Tre):C 92 [.ag [byF kind,.vl (.int .u64 sa),.vl (.int .u64 sb),.vl (.int .u64 sc),.vl (.int .u64 sd),stF text,inF lo,inF hi,.sl X],dO l] (t2F (eG ⟨kind,⟨sa,sb,sc,sd⟩,text,lo,hi,[]⟩ l)) false (xo ⟨kind,⟨sa,sb,sc,sd⟩,text,lo,hi,[]⟩∧(∀t∈l,t.wf)∧tot l≤100000∧l.length≤100000):=⟨fun h=>Di kind sa sb sc sd text lo hi X l h.1 h.2.1 h.2.2.1 h.2.2.2⟩
instance(kind sa sb sc sd:Int)(text:ByteArray)(lo hi:Int)(X:List (List F))(t:Tre):C 92 [.ag [byF kind,.vl (.int .u64 sa),.vl (.int .u64 sb),.vl (.int .u64 sc),.vl (.int .u64 sd),stF text,inF lo,inF hi,.sl X],.sl [fg t]] (t2F (eG ⟨kind,⟨sa,sb,sc,sd⟩,text,lo,hi,[]⟩ [t])) false (xo ⟨kind,⟨sa,sb,sc,sd⟩,text,lo,hi,[]⟩∧(∀x∈[t],Tre.wf x)∧tot [t]≤100000∧[t].length≤100000):=⟨fun h=>Di kind sa sb sc sd text lo hi X [t] h.1 h.2.1 h.2.2.1 h.2.2.2⟩
instance(l:List Tre):C 55 [dO l] (t2F (eG b5 l)) false ((∀t∈l,t.wf)∧tot l≤100000∧l.length≤100000):=⟨fun h=>by
 have hpre:xo ⟨4,⟨0,0,0,0⟩,⟨#[]⟩,0,0,[]⟩∧(∀t∈l,t.wf)∧tot l≤100000∧l.length≤100000:=⟨⟨fun _=>rfl,fun h=>absurd h (by show ¬(4:Int)=5;decide),kx⟩,h⟩
 refine kf rfl rfl ?_;repeat' first|exact k9|refine k2 ?_|apply kA|apply kI;intro hc|refine k8 ?_|apply kL;intro hl
 exact aa.i rfl⟩
instance(t:Tre)(lo hi:Int):C 57 [aw t,inF lo,inF hi] (t2F (eG ⟨6,.zero,⟨#[]⟩,lo,hi,[]⟩ [t])) false (t.wf∧t.nodes.length≤100000∧(⟨6,.zero,⟨#[]⟩,lo,hi,[]⟩:Nod).wf):=⟨fun h=>by
 have hpre:xo ⟨6,⟨0,0,0,0⟩,⟨#[]⟩,lo,hi,[]⟩∧(∀x∈[t],Tre.wf x)∧tot [t]≤100000∧[t].length≤100000:=⟨⟨fun h=>absurd h (by show ¬(6:Int)=4;decide),fun h=>absurd h (by show ¬(6:Int)=5;decide),h.2.2⟩,by simpa using h.1,by simpa [tot] using h.2.1,by simp⟩
 refine kf rfl rfl ?_;repeat' first|exact k9|refine k2 ?_|apply kA|apply kI;intro hc|refine k8 ?_|apply kL;intro hl
 exact aa.i rfl⟩
end Go.Km
end
section
namespace Go.Km
open Go Go.Vc Go.Proofs Go.ab Go.Proofs.YthebhpcjcihjgaaGreatDoor
set_option maxRecDepth 100000
set_option maxHeartbeats 0
instance(a b:Int):C 159 [byF a,byF b] (boF (bW a b)) true True:=⟨fun h=>by
 refine kf rfl rfl ?_;repeat' first|exact k9|refine k2 ?_|apply kA|apply kI;intro hc|refine k8 ?_|apply kL;intro hl
 all_goals (refine aa.b ?_ rfl;simp[bW,dG, *])⟩
instance(a b:Int):C 162 [inF a,inF b] (stF ⟨(lx a b).toArray⟩) true True:=⟨fun h=>by
 have ha:(dR a.toNat).length≤2:=iZ _;have hb:(dR b.toNat).length≤2:=iZ _;refine kf rfl rfl ?_;repeat' first|exact k9|refine k2 ?_|apply kA|apply kI;intro hc|refine k8 ?_|apply kL;intro hl
 all_goals try apply Stp.on
 all_goals repeat' first|exact k9|refine k2 ?_|apply kA|apply kI;intro hc|refine k8 ?_|apply kL;intro hl
 all_goals try apply Stp.on
 all_goals repeat' first|exact k9|refine k2 ?_|apply kA|apply kI;intro hc|refine k8 ?_|apply kL;intro hl
 all_goals try apply Stp.on
 all_goals repeat' first|exact k9|refine k2 ?_|apply kA|apply kI;intro hc|refine k8 ?_|apply kL;intro hl
 all_goals first
  | exact⟨by simp only[cC,bA,Og,Ol];omega⟩
  | (
    refine aa.s ?_ rfl
    try simp only[bp]
    unfold lx
    repeat' first
     | rw[if_pos (by omega)]
     | rw[if_neg (by omega)])⟩
end Go.Km
end
section
namespace Go.ab
open Go
def iJ(ns:List Nod)(k:Int):List UInt8:=(aF ns ns.length [k]).txt (-1) true
def dQ(ns:List Nod)(par k:Int):List UInt8:=if bW par (ju ns k).kind=true then [40]++iJ ns k++[41] else iJ ns k
theorem yo{ns:List Nod}(hk:KOk ns){k:Int}(h0:0≤k)(h1:k<ns.length):iJ ns k=aQ (ju ns k)++((aF ns ns.length (ah ns k)).txt (ju ns k).kind true++a9 (ju ns k)):=by
 obtain⟨N,hN⟩:∃N,ns.length=N+1:=⟨ns.length - 1,by omega⟩
 have hch:=hk.ah;have e2:aF ns N (ah ns k)=aF ns (N+1) (ah ns k):=cN hch N (N+1) _ (fun x hx=>⟨(hch k x hx).1,by have:=(hch k x hx).2;omega⟩) (fun x hx=>by have:=(hch k x hx).2;omega);have hw:bW (-1) (dat ns k).kind=false:=by unfold bW;simp
 unfold iJ;rw[hN,aH,aA,e2];simp only[Fo.txt,hw,if_true];simp only[OQ,if_false,OH,Oj];rfl
theorem ze{ns:List Nod}(hk:KOk ns){k:Int}(h0:0≤k)(h1:k<ns.length)(par:Int)(r:List UInt8):((if bW par (dat ns k).kind then [40] else [])++(aQ (dat ns k)++((aF ns ns.length (ah ns k)).txt (dat ns k).kind true++(a9 (dat ns k)++((if bW par (dat ns k).kind then [41] else [])++r)))))=dQ ns par k++r:=by
 have d1:(dat ns k).kind=(ju ns k).kind:=rfl;have d2:aQ (dat ns k)=aQ (ju ns k):=rfl;have d3:a9 (dat ns k)=a9 (ju ns k):=rfl;rw[dQ,yo hk h0 h1,d1,d2,d3]
 split<;>simp
theorem Ai{ns:List Nod}(hk:KOk ns)(par:Int):∀(l:List Int),(∀k∈l,0≤k∧k<ns.length)→(aF ns ns.length l).txt par false=l.flatMap fun k=>bJ par++dQ ns par k
 | [],_=>by rw[aA];rfl
 | k :: l,h=>by
  have hkk:=h k (by simp);obtain⟨N,hN⟩:∃N,ns.length=N+1:=⟨ns.length - 1,by omega⟩
  have hch:=hk.ah;have e2:aF ns N (ah ns k)=aF ns ns.length (ah ns k):=cN hch N _ _ (fun x hx=>⟨(hch k x hx).1,by have:=(hch k x hx).2;omega⟩) (fun x hx=>by have:=(hch k x hx).2;omega);have ih:=Ai hk par l fun x hx=>h x (ON _ hx)
  rw[OR,←ih];conv=>lhs;rw[hN,aH,e2,←hN]
  rw[Fo.txt,ze hk hkk.1 hkk.2];simp
theorem zZ{ns:List Nod}(hk:KOk ns)(par k:Int)(l:List Int)(h:∀x∈k :: l,0≤x∧x<ns.length):(aF ns ns.length (k :: l)).txt par true=dQ ns par k++l.flatMap fun k=>bJ par++dQ ns par k:=by
 have hkk:=h k (by simp);obtain⟨N,hN⟩:∃N,ns.length=N+1:=⟨ns.length - 1,by omega⟩
 have hch:=hk.ah;have e2:aF ns N (ah ns k)=aF ns ns.length (ah ns k):=cN hch N _ _ (fun x hx=>⟨(hch k x hx).1,by have:=(hch k x hx).2;omega⟩) (fun x hx=>by have:=(hch k x hx).2;omega);have ih:=Ai hk par l fun x hx=>h x (ON _ hx)
 rw[←ih];conv=>lhs;rw[hN,aH,e2,←hN]
 rw[Fo.txt,ze hk hkk.1 hkk.2];simp
theorem jr{n:Nod}{c:Int}(h:fits n c=true):((n.kind≤3→c=0)∧(6≤n.kind→c=1)∧(n.kind=4∨n.kind=5→2≤c))∧(n.kind=0→n.text=⟨#[]⟩):=by
 unfold fits at h
 repeat' split at h
 all_goals try (cases h;done)
 all_goals simp only[Oi,decide_eq_true_eq,Pc] at h
 all_goals refine⟨⟨fun h1=>?_,fun h1=>?_,fun h1=>?_⟩,fun h1=>?_⟩
 all_goals first
  | omega
  | exact h.1.1.1.2
theorem xy{t:Tre}(hR:ax t){i:Nat}{n:Nod}(h:t.nodes[i]?=some n):n.kids.length≤t.nodes.length:=by
 have hlt:=(Ox.1 h).1;have hN:=fP hR (node:=(i:Int)) (by omega) (by omega);have hkb:=hR.kok i n h;rw[aU,(dc _ _ _).length_eq] at hN;obtain⟨f,hf⟩:∃f,t.nodes.length=f+1:=⟨t.nodes.length - 1,by omega⟩
 rw[hf] at hN ⊢;have e:dfs (ah t.nodes) (f+1) [(i:Int)]=(i:Int) :: dfs (ah t.nodes) f n.kids:=by rw[aM h];simp[dfs]
 rw[e,Og] at hN
 cases f with
 | zero=>
  cases hk:n.kids with
  | nil=>simp
  | cons x l=>
   have:=hkb x (by rw[hk];simp);omega
 | succ f=>
  have:=dA (ch:=ah t.nodes) (f+1) n.kids (by omega);omega
end Go.ab
namespace Go.Km
open Go Go.Vc Go.Proofs Go.ab Go.Proofs.YthebhpcjcihjgaaGreatDoor
set_option maxRecDepth 100000
set_option maxHeartbeats 0
abbrev txR (b:List UInt8):List F:=[stF ⟨b.toArray⟩]
instance:mb txR 1:=⟨fun _=>rfl⟩
theorem D1{t:Tre}(hR:ax t){k:Int}(h0:0≤k)(h1:k<t.nodes.length):(iJ t.nodes k).length≤3020 * t.nodes.length:=by
 have h2:=pH (aF t.nodes t.nodes.length [k]) (-1) true (oY hR t.nodes.length [k] (by intro x hx;simp at hx;subst hx;omega) (Ov _));have h3:=jz hR h0 h1;rw[mM hR h0 h1,j8] at h3;exact OA h2 (Nat.mul_le_mul_left _ h3)
theorem JQ:∀(N:Nat) (t:Tre) (i:Nat),i<N→t.wf→ax t→i<t.nodes.length→t.nodes.length≤100000→Pure Tryz.prog X1.Γ 150 [aw t,inF (i:Int)] (stF ⟨(iJ t.nodes i).toArray⟩) true:=by
 intro N
 induction N with
 | zero=>intro t i ht;omega
 | succ N ih0=>
 intro t i hN ht hR hil hle;have inst:∀i:Nat,C 150 [aw t,inF (i:Int)] (stF ⟨(iJ t.nodes i).toArray⟩) true (i<N∧i<t.nodes.length):=fun i=>⟨fun h=>ih0 t i h.1 ht hR h.2 hle⟩
 have hlT:∀k:Int,0≤k→k<t.nodes.length→(iJ t.nodes k).length≤302000000:=fun k h0 h1=>OA (D1 hR h0 h1) (by omega)
 obtain⟨n,hn⟩:=exEq (t.nodes[i]);have hni:∀h,t.nodes[i]'h=n:=fun _=>hn.symm
 have hget:t.nodes[i]?=some n:=by rw[hn];exact Oe hil
 have hkb:=hR.kok i n hget;have hkl:n.kids.length≤17592186044416:=(ht.nodes n (by rw[hn];exact Of hil)).kids.1;have hnw:=ht.nodes n (by rw[hn];exact Of hil);have hfit:=hR.fits i n hget;have hnd:ju t.nodes (i:Int)=n:=by rw[hn];exact ic (k:=(i:Int)) hil
 have hch:ah t.nodes (i:Int)=n.kids:=(aM hget).symm;have hno:=yo hR.kok (k:=(i:Int)) (by omega) (by omega);rw[hnd,hch] at hno;have hkN:n.kids.length≤100000:=OA (xy hR hget) hle;refine kf rfl rfl ?_;repeat' first|exact k9|refine k1 ?_|apply kA|apply kI;intro hc|apply kL;intro hl|refine k5 ?_|((simp only[hni])<;>conv=>whnf)|refine k8 ?_|fail
 apply Stp.fW 6 9 1 rfl rfl;apply kCt [2,5,6,7] [];conv=>whnf
 refine Lp.ind (fun x:Nat=>n.kids.length - x) (fun x=>x≤n.kids.length) (fun x=>[(7,InD x)]) (fun x=>[(2,.ro 0 9 1 (((n.kids.take x).map fun k=>dQ t.nodes n.kind k).map txR))]) (fun _=>(stF ⟨(iJ t.nodes i).toArray⟩,true)) 0 (by simp) rfl rfl rfl ?_
 rintro G j ih hj
 by_cases hx:j<n.kids.length
 ·obtain⟨q,hq⟩:∃q:Nat,n.kids[j]=q:=⟨(n.kids[j]).toNat,by have:=hkb _ (Of hx);omega⟩
  have hqi:∀h:j<n.kids.length,n.kids[j]'h=(q:Int):=fun _=>hq
  have hql:q<i:=by have:=hkb _ (Of hx);omega
  have hqn:q<N∧q<t.nodes.length:=⟨by omega,by omega⟩
  obtain⟨m,hm⟩:=exEq (t.nodes[q]'(by omega));have hmi:∀h:q<t.nodes.length,t.nodes[q]'h=m:=fun _=>hm.symm
  have hz:=hlT q (by omega) (by omega);have hz0:szS ⟨(iJ t.nodes q).toArray⟩≤302000000:=by rw[bA];exact hz
  have hz1:szS ⟨#[40]⟩=1:=rfl;have hz2:szS ⟨#[41]⟩=1:=rfl;have hz3:szS (ff ⟨#[40]⟩ ⟨(iJ t.nodes q).toArray⟩)≤302000001:=by rw[cC];omega
  have hw:dQ t.nodes n.kind n.kids[j]=if bW n.kind m.kind=true then [40]++iJ t.nodes q++[41] else iJ t.nodes q:=by
   rw[hq,dQ,ic (k:=(q:Int)) (by omega:((q:Int)).toNat<t.nodes.length),hm];rfl
  have hnx:(n.kids.take (j+1)).map (fun k=>dQ t.nodes n.kind k)=(n.kids.take j).map (fun k=>dQ t.nodes n.kind k)++[dQ t.nodes n.kind n.kids[j]]:=by
   rw[List.take_succ_eq_append_getElem hx,List.map_append,OK]
  rw[hw] at hnx
  repeat' first|exact k9|refine k1 ?_|apply kA|apply kI;intro hc|apply kL;intro hl|refine k5 ?_|((simp only[hqi,Oo])<;>conv=>whnf)|((simp only[hmi])<;>conv=>whnf)|refine k8 ?_|fail
  all_goals
   simp only[hqi,Oo,hmi] at hc;apply kCt [2,5,6,7] [];conv=>whnf
   refine ih (j+1) _ _ _ (by omega) (by omega) rfl rfl ?_;rw[hnx,hc,List.map_append];rfl
 ·rw[Om (by omega)];have hk:=jj hfit;obtain⟨⟨f1,f2,f3⟩,f4⟩:=jr hfit;have hset:=hnw.set;have htsz:n.text.size≤1000000:=by omega
  have hwl:∀k∈n.kids,(dQ t.nodes n.kind k).length≤302000002:=fun k hk=>by
   have:=hkb k hk;have:=hlT k (by omega) (by omega);unfold dQ
   split
   ·simp only[Oh,Og,Ol];omega
   ·omega
  have hin:∀x∈n.kids,0≤x∧x<t.nodes.length:=fun x hx=>by have:=hkb x hx;omega
  by_cases hleaf:n.kind≤3
  ·have hk0:n.kids=[]:=OJ (by have:=f1 hleaf;omega);rw[hk0,aA,show Fo.txt n.kind true .nil=[] from rfl,OH,show a9 n=[] by rw[a9,if_neg (by omega),if_neg (by omega)],Oj] at hno;rw[hno];have hcases:n.kind=0∨n.kind=1∨n.kind=2∨n.kind=3:=by omega
   repeat' first|exact k9|refine k1 ?_|apply kA|apply kI;intro hc|apply kL;intro hl|refine k5 ?_|refine k8 ?_|fail
   ·refine aa.s ?_ rfl;rw[aQ,if_pos (.inl hc),f4 hc];rfl
   ·refine aa.s ?_ rfl;rw[aQ,if_neg (by omega),if_pos hc]
   ·refine aa.s ?_ rfl;rw[aQ,if_pos (.inr hc)]
   ·refine aa.s ?_ rfl;rw[aQ,if_neg (by omega),if_neg (by omega),if_pos (by omega)]
  by_cases hone:6≤n.kind
  ·obtain⟨k,hk1⟩:∃k,n.kids=[k]:=P2.1 (by have:=f2 hone;omega);have hw1:=hwl k (by rw[hk1];simp);rw[hk1] at hno hin;rw[zZ hR.kok _ _ _ hin,Rh,Oj] at hno;have hW:n.kids.map (fun k=>dQ t.nodes n.kind k)=[dQ t.nodes n.kind k]:=by rw[hk1];rfl
   rw[hW];rw[hno];generalize dQ t.nodes n.kind k=w at *;have hz0:szS ⟨w.toArray⟩≤302000002:=by rw[bA];exact hw1
   have hzt:szS n.text≤255:=hk.2;have hct:=uw n.min n.max
   repeat' first|exact k9|refine k1 ?_|apply kA|apply kI;intro hc|apply kL;intro hl|refine k5 ?_|refine k8 ?_|fail
   all_goals first
    | exact⟨by simp only[cC,bA,Og,Ol];omega⟩
    | (
      refine aa.s ?_ rfl;simp only[bp,Hh];unfold aQ a9
      repeat' first
       | rw[if_pos (by omega)]
       | rw[if_neg (by omega)]
      simp)
  ·have h45:n.kind=4∨n.kind=5:=by omega
   obtain⟨k,k2,l,hk2⟩:∃k k2 l,n.kids=k :: k2 :: l:=by
    have:=f3 h45
    match hkk:n.kids with
    | []=>rw[hkk] at this;simp at this
    | [_]=>rw[hkk] at this;simp at this
    | k :: k2 :: l=>exact⟨k,k2,l,rfl⟩
   rw[hk2] at hno hin;rw[zZ hR.kok _ _ _ hin] at hno;rw[←hk2] at hin;have hW:n.kids.map (fun k=>dQ t.nodes n.kind k)=dQ t.nodes n.kind k :: (k2 :: l).map (fun k=>dQ t.nodes n.kind k):=by rw[hk2];rfl
   have hwl':∀w∈n.kids.map (fun k=>dQ t.nodes n.kind k),w.length≤302000002:=fun w hw=>by
    obtain⟨x,hx,rfl⟩:=Pq.1 hw;exact hwl x hx
   rw[show aQ n=[] by rw[aQ,if_neg (by omega),if_neg (by omega),if_neg (by omega),if_neg (by omega),if_neg (by omega),if_neg (by omega)],show a9 n=[] by rw[a9,if_neg (by omega),if_neg (by omega)],OH,Oj] at hno;have hflat:((k2 :: l).flatMap fun k=>bJ n.kind++dQ t.nodes n.kind k)=((k2 :: l).map (fun k=>dQ t.nodes n.kind k)).flatMap fun w=>bJ n.kind++w:=by rw[List.flatMap_map]
   rw[hflat] at hno;have hwlen:(n.kids.map (fun k=>dQ t.nodes n.kind k)).length≤100000:=by rw[Ok];exact hkN
   generalize (k2 :: l).map (fun k=>dQ t.nodes n.kind k)=V at *;generalize dQ t.nodes n.kind k=w at *;rw[hno];generalize n.kids.map (fun k=>dQ t.nodes n.kind k)=W at *;subst hW
   repeat' first|exact k9|refine k1 ?_|apply kA|apply kI;intro hc|apply kL;intro hl|refine k5 ?_|refine k8 ?_|fail
   ·have hb:bJ n.kind=[32,47,32]:=by rw[bJ,if_neg (by omega),if_pos (by omega)]
    rw[hb];have hpl:∀i,(w++(V.take i).flatMap fun w=>[32,47,32]++w).length≤302000005 * (i+1):=fun i=>by
     have h1:∀(V:List (List UInt8)),(∀x∈V,x.length≤302000002)→(V.flatMap fun w=>([32,47,32]:List UInt8)++w).length≤302000005 * V.length:=by
      intro V
      induction V with
      | nil=>intro _;simp
      | cons v V ihv=>
       intro hv;have:=ihv fun x hx=>hv x (ON _ hx)
       have:=hv v (by simp);simp only[OR,Oh,Og,Ol] at *;omega
     have h2:=h1 (V.take i) fun x hx=>hwl' x (ON _ (OC hx))
     have h3:=hwl' w (by simp);rw[Ou] at h2;rw[Oh];omega
    apply kCt [6,9,10,11] [];conv=>whnf
    refine Lp.ind (fun x:Nat=>V.length - x) (fun x=>x≤V.length) (fun x=>[(11,InD (x+1:Nat)),(10,.fr (stF ⟨(w++(V.take x).flatMap fun w=>[32,47,32]++w).toArray⟩))]) (fun x=>[]) (fun _=>(stF ⟨(w++V.flatMap fun w=>[32,47,32]++w).toArray⟩,true)) 0 (by simp) rfl (by simp only[Pd,Rh,Oj];rfl) rfl ?_
    rintro G' x ih' hxx
    have hpx:=hpl x
    by_cases hv:x<V.length
    ·have hvl:=hwl' V[x] (ON _ (Of hv));have hWx:∀h,(w :: V)[x+1]'h=V[x]:=fun h=>rfl
     have hz1:szS ⟨(w++(V.take x).flatMap fun w=>[32,47,32]++w).toArray⟩≤302000005 * (x+1):=by rw[bA];exact hpx
     simp only[Og] at hwlen;have hWl:(w :: V).length=V.length+1:=rfl
     repeat' first|exact k9|refine k1 ?_|apply kA|apply kI;intro hc|apply kL;intro hl|refine k5 ?_|((simp only[hWx])<;>conv=>whnf)|refine k8 ?_|fail
     ·exact⟨by rw[show szS ⟨([32,47,32]:List UInt8).toArray⟩=([32,47,32]:List UInt8).length from bA _];simp only[Og,Ol];omega⟩
     ·exact⟨by rw[cC,show szS ⟨([32,47,32]:List UInt8).toArray⟩=([32,47,32]:List UInt8).length from bA _,bA V[x]];simp only[Og,Ol];omega⟩
     ·apply kCt [6,9,10,11] [];conv=>whnf
      refine ih' (x+1) _ _ _ (by omega) (by omega) rfl ?_ rfl;have e:w++(V.take (x+1)).flatMap (fun w=>[32,47,32]++w)=w++(V.take x).flatMap (fun w=>[32,47,32]++w)++[32,47,32]++V[x]:=by
       rw[List.take_succ_eq_append_getElem hv,PE,Q5];simp only[List.append_assoc]
      rw[e,←bp,←bp];rfl
    ·rw[Om (by omega)];have hWl:(w :: V).length=V.length+1:=rfl
     repeat' first|exact k9|refine k1 ?_|apply kA|apply kI;intro hc|apply kL;intro hl|refine k5 ?_|refine k8 ?_|fail
   ·have hb:bJ n.kind=[32]:=by rw[bJ,if_pos (by omega)]
    rw[hb];have hpl:∀i,(w++(V.take i).flatMap fun w=>[32]++w).length≤302000005 * (i+1):=fun i=>by
     have h1:∀(V:List (List UInt8)),(∀x∈V,x.length≤302000002)→(V.flatMap fun w=>([32]:List UInt8)++w).length≤302000005 * V.length:=by
      intro V
      induction V with
      | nil=>intro _;simp
      | cons v V ihv=>
       intro hv;have:=ihv fun x hx=>hv x (ON _ hx)
       have:=hv v (by simp);simp only[OR,Oh,Og,Ol] at *;omega
     have h2:=h1 (V.take i) fun x hx=>hwl' x (ON _ (OC hx))
     have h3:=hwl' w (by simp);rw[Ou] at h2;rw[Oh];omega
    apply kCt [6,9,10,11] [];conv=>whnf
    refine Lp.ind (fun x:Nat=>V.length - x) (fun x=>x≤V.length) (fun x=>[(11,InD (x+1:Nat)),(10,.fr (stF ⟨(w++(V.take x).flatMap fun w=>[32]++w).toArray⟩))]) (fun x=>[]) (fun _=>(stF ⟨(w++V.flatMap fun w=>[32]++w).toArray⟩,true)) 0 (by simp) rfl (by simp only[Pd,Rh,Oj];rfl) rfl ?_
    rintro G' x ih' hxx
    have hpx:=hpl x
    by_cases hv:x<V.length
    ·have hvl:=hwl' V[x] (ON _ (Of hv));have hWx:∀h,(w :: V)[x+1]'h=V[x]:=fun h=>rfl
     have hz1:szS ⟨(w++(V.take x).flatMap fun w=>[32]++w).toArray⟩≤302000005 * (x+1):=by rw[bA];exact hpx
     simp only[Og] at hwlen;have hWl:(w :: V).length=V.length+1:=rfl
     repeat' first|exact k9|refine k1 ?_|apply kA|apply kI;intro hc|apply kL;intro hl|refine k5 ?_|((simp only[hWx])<;>conv=>whnf)|refine k8 ?_|fail
     ·exact⟨by rw[show szS ⟨([32]:List UInt8).toArray⟩=([32]:List UInt8).length from bA _];simp only[Og,Ol];omega⟩
     ·exact⟨by rw[cC,show szS ⟨([32]:List UInt8).toArray⟩=([32]:List UInt8).length from bA _,bA V[x]];simp only[Og,Ol];omega⟩
     ·apply kCt [6,9,10,11] [];conv=>whnf
      refine ih' (x+1) _ _ _ (by omega) (by omega) rfl ?_ rfl;have e:w++(V.take (x+1)).flatMap (fun w=>[32]++w)=w++(V.take x).flatMap (fun w=>[32]++w)++[32]++V[x]:=by
       rw[List.take_succ_eq_append_getElem hv,PE,Q5];simp only[List.append_assoc]
      rw[e,←bp,←bp];rfl
    ·rw[Om (by omega)];have hWl:(w :: V).length=V.length+1:=rfl
     repeat' first|exact k9|refine k1 ?_|apply kA|apply kI;intro hc|apply kL;intro hl|refine k5 ?_|refine k8 ?_|fail
instance(t:Tre):C 132 [aw t] (stF ⟨(eR t).toArray⟩) true (t.wf∧t.nodes.length≤100000):=⟨fun ⟨ht,hle⟩=>by
 have hsm:Sm t:=⟨ht,by omega⟩
 cases hr:ao t with
 | false=>
  refine kf rfl rfl ?_;repeat' first|exact k9|refine k1 ?_|apply kA|apply kI;intro hc|apply kL;intro hl|refine k5 ?_|refine k8 ?_|fail
  exact aa.s (by rw[eR,if_neg (by rw[hr];decide)]) rfl
 | true=>
  have hR:=ak hr;have h0:=hR.root;obtain⟨r,hrt⟩:∃r:Nat,t.root=r:=⟨t.root.toNat,by omega⟩
  have inst:C 150 [aw t,inF t.root] (stF ⟨(iJ t.nodes t.root).toArray⟩) true True:=⟨fun _=>by
   have:=JQ (r+1) t r (by omega) ht hR (by omega) hle;rw[←hrt] at this;exact this⟩
  have e:eR t=iJ t.nodes t.root:=by rw[eR,if_pos hr,iJ];rfl
  rw[e];refine kf rfl rfl ?_;repeat' (first|exact k9|refine k1 ?_|apply kA|apply kI;intro hc|apply kL;intro hl|refine k5 ?_|refine k8 ?_|fail)⟩
set_option maxRecDepth 100000
set_option maxHeartbeats 0
instance(d:Dfn):C 102 [.ag (mI d)] (stF ⟨(ep d).toArray⟩) true (d.wf∧d.body.nodes.length≤100000):=⟨fun h=>by
 obtain⟨hw,hl⟩:=h;have hn:=hw.name;have hb:=hw.body;have hp:d.body.wf∧d.body.nodes.length≤100000:=⟨hb,hl⟩
 have hp2:Sm d.body:=⟨hb,by omega⟩
 have hsn:szS d.name≤140737488355328:=hn;have hst:=qq (t:=d.body);have key1:eR d.body=[]∨gj d.name=false→(⟨(ep d).toArray⟩:ByteArray)=⟨#[]⟩:=fun e=>by rw[ep,if_pos e]
 have key2:eR d.body≠[]→gj d.name=true→(⟨(ep d).toArray⟩:ByteArray)=ff (ff (ff d.name ⟨#[32,60,45,32]⟩) ⟨(eR d.body).toArray⟩) ⟨#[10]⟩:=fun e1 e2=>by
  rw[ep,if_neg (by rintro(h|h);exact e1 h;rw[e2] at h;cases h)];simp[ff]
 refine kf rfl rfl ?_;repeat' first|exact k9|refine k2 ?_|apply kA|apply kI;intro hc|refine k8 ?_|apply kL;intro hl
 ·exact⟨by simp only[cC,bA,Og,Ol];omega⟩
 ·exact⟨by simp only[cC,bA,Og,Ol];omega⟩
 ·exact⟨by simp only[cC,bA,Og,Ol];omega⟩
 ·rename_i hc1;exact aa.s (key2 (fun e=>by rw[wQ.1 e] at hc;cases hc) hc1).symm rfl
 ·exact aa.s (key1 (.inl (wQ.2 hc))).symm rfl
 ·exact aa.s (key1 (.inr (by assumption))).symm rfl⟩
structure MG(g:List Dfn):Prop where
 wf:∀d∈g,d.wf
 len:∀d∈g,d.body.nodes.length≤1024
 n:g.length≤200
instance(g:List Dfn):C 68 [aN g] (stF ⟨(lU g).toArray⟩) true (MG g):=⟨fun h=>by
 obtain⟨hw,hl,hn⟩:=h;have hd:∀(i:Nat) (h:i<g.length),g[i].wf∧g[i].body.nodes.length≤100000:=fun i h=>⟨hw _ (Of h),OA (hl _ (Of h)) (by decide)⟩
 have hdl:∀(i:Nat) (h:i<g.length),szS ⟨(ep g[i]).toArray⟩≤1000000000:=fun i h=>by
  have:=um (hl _ (Of h));rw[bA];omega
 have he0:∀(i:Nat) (h:i<g.length),((⟨(ep g[i]).toArray⟩:ByteArray)=⟨#[]⟩↔ep g[i]=[]):=fun i h=>⟨fun e=>by simpa using e,fun e=>by rw[e]⟩
 have hbad:∀(i:Nat) (h:i<g.length),ep g[i]=[]→(⟨(lU g).toArray⟩:ByteArray)=⟨#[]⟩:=fun i h e=>by
  rw[lU,if_neg];intro q;have:=OF.1 q _ (Of h);simp[e] at this
 have hfl:=pU hl;have hll:=hl;refine kf rfl rfl ?_;repeat' first|exact k9|refine k2 ?_|apply kA|apply kI;intro hc|refine k8 ?_|apply kL;intro hl
 apply kCt [1,3,4] [];conv=>whnf
 refine Lp.ind (fun z:Nat=>g.length - z) (fun z=>z≤g.length∧∀(i:Nat) (h:i<g.length),i<z→ep g[i]≠[]) (fun z=>[(4,InD z),(3,.fr (stF ⟨((g.take z).flatMap ep).toArray⟩))]) (fun z=>[]) (fun _=>_) 0 ⟨by omega,fun i h hi=>by omega⟩ rfl rfl rfl ?_
 rintro G i ih ⟨hi,hok⟩
 have hlt:szS ⟨((g.take i).flatMap ep).toArray⟩≤3100000 * 200:=by
  have:=pU (g:=g.take i) (fun x hx=>hll x (OC hx));rw[Ou] at this;rw[bA];omega
 by_cases hx:i<g.length
 ·have hpd:=hd i hx;have hps:=hdl i hx
  repeat' first|exact k9|refine k2 ?_|apply kA|apply kI;intro hc|refine k8 ?_|apply kL;intro hl
  ·exact aa.s (hbad i hx ((he0 i hx).1 (by assumption))).symm rfl
  have h0:=hc.1;apply kCt [1,3,4] [];conv=>whnf
  refine ih (i+1) _ _ _ (by omega) ⟨by omega,fun j hj hji=>?_⟩ rfl ?_ rfl
  ·by_cases hjj:j=i
   ·subst hjj;exact fun e=>h0 ((he0 j hx).2 e)
   ·exact hok j hj (by omega)
  ·rw[qv hx,←bp];rfl
 ·repeat' first|exact k9|refine k2 ?_|apply kA|apply kI;intro hc|refine k8 ?_|apply kL;intro hl
  refine aa.s ?_ rfl;rw[lU,if_pos,Om (by omega)];rw[OF];intro d hd;obtain⟨j,hj,rfl⟩:=OT hd;simpa using hok j hj (by omega)⟩
instance(g:List Dfn)(s:ByteArray):C 69 [aN g,stF s] (inF (cI g s)) true (g.length≤1000000):=⟨fun hn=>by
 refine kf rfl rfl ?_;repeat' first|exact k9|refine k2 ?_|apply kA|apply kI;intro hc|refine k8 ?_|apply kL;intro hl
 apply kCt [1,2,5] [];conv=>whnf
 refine Lp.ind (fun z:Nat=>g.length - z) (fun z=>z≤g.length∧∀(j:Nat) (hj:j<g.length),j<z→g[j].name≠s) (fun z=>[(5,InD z)]) (fun _=>[]) (fun _=>_) 0 ⟨Oq _,fun j hj h=>by omega⟩ rfl rfl rfl ?_
 rintro G i ih ⟨hi,hne⟩
 by_cases hx:i<g.length
 ·repeat' first|exact k9|refine k2 ?_|apply kA|apply kI;intro hc|refine k8 ?_|apply kL;intro hl
  ·exact aa.n (vG hne hx (by assumption)).symm rfl
  have h0:=hc;apply kCt [1,2,5] [];conv=>whnf
  refine ih (i+1) _ _ _ (by omega) ⟨by omega,fun j hj hji=>?_⟩ rfl rfl rfl
  by_cases hjj:j=i
  ·subst hjj;exact h0
  ·exact hne j hj (by omega)
 ·repeat' first|exact k9|refine k2 ?_|apply kA|apply kI;intro hc|refine k8 ?_|apply kL;intro hl
  exact aa.n (uN hne (by omega)).symm rfl⟩
instance(g:List Dfn):C 66 [aN g] (inF (bw g)) true (g.length≤1000∧∀d∈g,d.wf∧d.body.nodes.length≤500000):=⟨fun ⟨hn,hw⟩=>by
 have hsm:∀(i:Nat) (h:i<g.length),Sm g[i].body∧0≤iF g[i].body∧iF g[i].body≤2000000000000:=fun i h=>by
  have:=hw _ (Of h);exact⟨⟨this.1.body,this.2⟩,tb this.1.body⟩
 have hle:∀i,0≤bw (g.take i)∧bw (g.take i)≤2000000000000 * 1000:=fun i=>by
  have:=qz (g:=g.take i) fun d hd=>(hw d (OC hd)).1
  rw[Ou] at this;omega
 refine kf rfl rfl ?_;repeat' first|exact k9|refine k2 ?_|apply kA|apply kI;intro hc|refine k8 ?_|apply kL;intro hl
 apply kCt [1,3,4] [];conv=>whnf
 refine Lp.ind (fun z:Nat=>g.length - z) (fun z=>z≤g.length) (fun z=>[(4,InD z),(3,InD (bw (g.take z)))]) (fun z=>[]) (fun _=>_) 0 (by omega) rfl rfl rfl ?_
 rintro G i ih hi
 have hni:=hle i
 by_cases hx:i<g.length
 ·obtain⟨h1,h2,h3⟩:=hsm i hx
  repeat' first|exact k9|refine k2 ?_|apply kA|apply kI;intro hc|refine k8 ?_|apply kL;intro hl
  apply kCt [1,3,4] [];conv=>whnf
  refine ih (i+1) _ _ _ (by omega) (by omega) rfl ?_ rfl;rw[mi hx];rfl
 ·rw[Om (by omega)]
  repeat' (first|exact k9|refine k2 ?_|apply kA|apply kI;intro hc|refine k8 ?_|apply kL;intro hl)⟩
set_option maxRecDepth 100000
set_option maxHeartbeats 0
theorem uf{g:List Dfn}{s:ByteArray}{i:Nat}(hi:i<g.length)(h:g[i].name=s):∃j,∃hj:j<g.length,j≤i∧cI g s=(j:Int)∧g[j].name=s:=by
 cases e:bf g s with
 | none=>exact absurd h (tW.1 e _ (Of hi))
 | some j=>
  obtain⟨hj,hn⟩:=fM e;refine⟨j,hj,?_,by rw[cI,e],hn⟩;rw[bf,Ql] at e;obtain⟨_,_,h3⟩:=e;rcases Pu i j with h4|h4
  ·have:=h3 i h4;simp[h] at this
  ·exact h4
theorem Bc{g:List Dfn}{i:Nat}(hi:i<g.length)(h:cI g g[i].name≠(i:Int)):eL g=true:=by
 obtain⟨j,hj,hji,h1,h2⟩:=uf hi rfl;rw[h1] at h;rw[eL,Pc,decide_eq_false_iff_not];intro hn;refine QQ.1 hn j i (by simpa using hj) (by simpa using hi) (by omega) ?_;simpa using h2
theorem Ca{g:List Dfn}(h:∀(i:Nat) (hi:i<g.length),cI g g[i].name=(i:Int)):eL g=false:=by
 rw[eL,Bool.not_eq_false',decide_eq_true_eq];refine QQ.2 fun i j hi hj hij=>?_
 simp only[Ok] at hi hj;simp only[PO];intro e;obtain⟨k,hk,hki,h1,h2⟩:=uf hi e;rw[h j hj] at h1;omega
theorem vR{g:List Dfn}{s:ByteArray}:cI g s<0↔(bf g s).isNone=true:=by
 unfold cI
 cases bf g s with
 | none=>simp
 | some j=>simp
abbrev SmG(g:List Dfn):Prop:=g.length≤1000∧∀d∈g,d.wf∧d.body.nodes.length≤500000
instance(g:List Dfn):C 28 [aN g] (inF (b4 g)) true (SmG g):=⟨fun h=>by
 have hsg:=h;obtain⟨hn,hw⟩:=h;have hw1:∀(i:Nat) (h:i<g.length),g[i].name.size≤140737488355328∧Sm g[i].body:=fun i h=>by
  have:=hw _ (Of h);exact⟨this.1.name,this.1.body,this.2⟩
 by_cases hp:0<g.length
 ·have hne:g.isEmpty=false:=by cases g<;>simp at hp ⊢
  refine kf rfl rfl ?_;repeat' first|exact k9|refine k2 ?_|apply kA|apply kI;intro hc|refine k8 ?_|apply kL;intro hl
  apply kCt [1,3] [];conv=>whnf
  refine Lp.ind (fun z:Nat=>g.length - z) (fun z=>z≤g.length∧∀(j:Nat) (hj:j<g.length),j<z→(gj g[j].name&&dY g[j].body)=true) (fun z=>[(3,InD z)]) (fun _=>[]) (fun _=>_) 0 ⟨Oq _,fun j hj h=>by omega⟩ rfl rfl rfl ?_
  rintro G i ih ⟨hi,hok⟩
  by_cases hx:i<g.length
  ·obtain⟨hwn,hwb⟩:=hw1 i hx;have hbad:(gj g[i].name&&dY g[i].body)=false→b4 g=4:=fun e=>by
    have:mh g=false:=by
     rw[mh,Bool.and_eq_false_iff];refine .inr (Bool.eq_false_iff.2 fun q=>?_);have:=OF.1 q _ (Of hx);rw[e] at this
     cases this
    rw[b4,if_pos this]
   repeat' first|exact k9|refine k2 ?_|apply kA|apply kI;intro hc|refine k8 ?_|apply kL;intro hl
   ·rename_i q1 q2;have q3:(gj g[i].name&&dY g[i].body)=true:=by simp[*]
    apply kCt [1,3] [];conv=>whnf
    refine ih (i+1) _ _ _ (by omega) ⟨by omega,fun j hj hji=>?_⟩ rfl rfl rfl
    by_cases hjj:j=i
    ·subst hjj;exact q3
    ·exact hok j hj (by omega)
   ·exact aa.n (hbad (by simp[*])).symm rfl
   ·exact aa.n (hbad (by simp[*])).symm rfl
  ·obtain rfl:i=g.length:=by omega
   have hform:mh g=true:=by
    rw[mh,hne,Q9,PG];refine OF.2 fun d hd=>?_
    obtain⟨j,hj,rfl⟩:=OT hd;exact hok j hj hj
   clear ih
   repeat' first|exact k9|refine k2 ?_|apply kA|apply kI;intro hc|refine k8 ?_|apply kL;intro hl
   ·have h64:eH g=true:=by rw[eH,decide_eq_true (by omega)];simp
    apply Stp.on
    repeat' first|exact k9|refine k2 ?_|apply kA|apply kI;intro hc|refine k8 ?_|apply kL;intro hl
    exact aa.n (by rw[b4,hform,if_neg (by decide),if_pos h64]) rfl
   ·have h64:g.length≤64:=by omega
    have hL:eH g=(g.any (fun d=>!kO d.body)||decide (1024<bw g)||decide (8192<(lU g).length)):=by rw[eH,decide_eq_false (by omega),Qy]
    apply kCt [1,4,5] [];conv=>whnf
    clear hc;refine Lp.ind (fun z:Nat×Bool=>g.length - z.1) (fun z=>z.1≤g.length∧z.2=(decide (1024<bw g)||(g.take z.1).any fun d=>!kO d.body)) (fun z=>[(5,InD z.1),(4,.fr (boF z.2))]) (fun z=>[]) (fun _=>_) (0,ltI 1024 (bw g)) ⟨Oq _,by simp[mB]⟩ rfl rfl rfl ?_
    rintro G ⟨i,b⟩ ih ⟨hi,hb⟩
    dsimp only at hi hb ih ⊢
    cases b with
    | true=>
     have hlarge:eH g=true:=by
      rw[hL];rcases Pp _ _▸hb.symm with h|h
      ·rw[h];simp
      ·obtain⟨d,hd,hd2⟩:=Po.1 h;rw[Po.2 ⟨d,OC hd,hd2⟩];simp
     repeat' first|exact k9|refine k2 ?_|apply kA|apply kI;intro hc|refine k8 ?_|apply kL;intro hl
     all_goals exact aa.n (by rw[b4,hform,if_neg (by decide),if_pos hlarge]) rfl
    | false=>
     have hb1:bw g≤1024∧∀d∈g.take i,kO d.body=true:=by
      have:=hb.symm;rw[PX,decide_eq_false_iff_not,Pn] at this;exact⟨by omega,fun d hd=>by simpa using this.2 d hd⟩
     by_cases hx:i<g.length
     ·obtain⟨hwn,hwb⟩:=hw1 i hx
      repeat' first|exact k9|refine k2 ?_|apply kA|apply kI;intro hc|refine k8 ?_|apply kL;intro hl
      apply kCt [1,4,5] [];conv=>whnf
      refine ih (i+1,!kO g[i].body) _ _ _ (by dsimp only;omega) ⟨by dsimp only;omega,?_⟩ rfl rfl rfl;dsimp only;rw[List.take_succ_eq_append_getElem hx,List.any_append,←Bool.or_assoc,←hb];simp
     ·have hall:∀d∈g,kO d.body=true:=fun d hd=>hb1.2 d (by rw[Om (by omega)];exact hd)
      have hgs:MG g:=⟨fun d hd=>(hw d hd).1,fun d hd=>by
       have:=hall d hd;simp only[kO,Oi,decide_eq_true_eq] at this;exact this.1.1,by omega⟩
      have hL2:eH g=decide (8192<(lU g).length):=by
       rw[hL,decide_eq_false (by omega),Pn.2 (fun d hd=>by rw[hall d hd];simp)];simp
      have hzg:szS ⟨(lU g).toArray⟩=(lU g).length:=bA _;clear ih
      repeat' first|exact k9|refine k2 ?_|apply kA|apply kI;intro hc|refine k8 ?_|apply kL;intro hl
      ·exact aa.n (by rw[b4,hform,if_neg (by decide),if_pos (by rw[hL2,decide_eq_true_eq];change (8192:Int)<(szS ⟨(lU g).toArray⟩:Int) at hc;omega)]) rfl
      ·have hlarge:eH g=false:=by rw[hL2,decide_eq_false_iff_not];change (szS ⟨(lU g).toArray⟩:Int)≤8192 at hc;omega
       clear hc hzg hL2 hL hb1;apply kCt [1,6] [];conv=>whnf
       refine Lp.ind (fun z:Nat=>g.length - z) (fun z=>z≤g.length∧∀(j:Nat) (hj:j<g.length),j<z→cI g g[j].name=(j:Int)) (fun z=>[(6,InD z)]) (fun _=>[]) (fun _=>_) 0 ⟨Oq _,fun j hj h=>by omega⟩ rfl rfl rfl ?_
       rintro G i ih ⟨hi,hfi⟩
       by_cases hx:i<g.length
       ·repeat' first|exact k9|refine k2 ?_|apply kA|apply kI;intro hc|refine k8 ?_|apply kL;intro hl
        ·apply kCt [1,6] [];conv=>whnf
         refine ih (i+1) _ _ _ (by omega) ⟨by omega,fun j hj hji=>?_⟩ rfl rfl rfl
         by_cases hjj:j=i
         ·subst hjj;exact hc
         ·exact hfi j hj (by omega)
        ·exact aa.n (by rw[b4,hform,if_neg (by decide),hlarge,if_neg (by decide),if_pos (Bc hx hc)]) rfl
       ·have htw:eL g=false:=Ca fun j hj=>hfi j hj (by omega)
        clear ih hfi
        repeat' first|exact k9|refine k2 ?_|apply kA|apply kI;intro hc|refine k8 ?_|apply kL;intro hl
        apply kCt [1,7] [];conv=>whnf
        refine Lp.ind (fun z:Nat=>g.length - z) (fun z=>z≤g.length∧∀(j:Nat) (hj:j<g.length),j<z→(g[j].body.nodes.any fun n=>decide (n.kind=3)&&(bf g n.text).isNone)=false) (fun z=>[(7,InD z)]) (fun _=>[]) (fun _=>_) 0 ⟨Oq _,fun j hj h=>by omega⟩ rfl rfl rfl ?_
        rintro G i ih ⟨hi,hlo⟩
        by_cases hx:i<g.length
        ·obtain⟨d,hd⟩:=exEq (g[i]);have hdi:∀h:i<g.length,g[i]'h=d:=fun _=>hd.symm
         have hdl:d.body.nodes.length≤1466015503701:=by rw[hd];exact(hw1 i hx).2.wf.len
         repeat' first|exact k9|refine k2 ?_|apply kA|apply kI;intro hc|apply kL;intro hl|((simp only[hdi])<;>conv=>whnf)|refine k8 ?_|fail
         apply kCt [1,7,8,9] [];conv=>whnf
         obtain⟨L,hL⟩:=exEq (d.body.nodes);have hnx:(L.any fun n=>decide (n.kind=3)&&(bf g n.text).isNone)=false→∀(j:Nat) (hj:j<g.length),j<i+1→(g[j].body.nodes.any fun n=>decide (n.kind=3)&&(bf g n.text).isNone)=false:=fun h j hj hji=>by
          by_cases hjj:j=i
          ·subst hjj;rw[←hd,←hL];exact h
          ·exact hlo j hj (by omega)
         have hbad:(L.any fun n=>decide (n.kind=3)&&(bf g n.text).isNone)=true→nG g=true:=fun h=>by
          rw[nG,Po];exact⟨g[i],Of hx,by rw[←hd,←hL];exact h⟩
         rw[←hL] at hdl ⊢;refine Lp.ind (fun z:Nat=>L.length - z) (fun z=>z≤L.length∧∀(j:Nat) (hj:j<L.length),j<z→¬(L[j].kind=3∧(bf g L[j].text).isNone=true)) (fun z=>[(9,InD z)]) (fun _=>[]) (fun _=>_) 0 ⟨Oq _,fun j hj h=>by omega⟩ rfl rfl rfl ?_
         rintro G' k ih' ⟨hk,hok'⟩
         by_cases hy:k<L.length
         ·have hstep:¬(L[k].kind=3∧(bf g L[k].text).isNone=true)→∀(j:Nat) (hj:j<L.length),j<k+1→¬(L[j].kind=3∧(bf g L[j].text).isNone=true):=fun h j hj hji=>by
           by_cases hjj:j=k
           ·subst hjj;exact h
           ·exact hok' j hj (by omega)
          have hg1:g.length≤1000000:=by omega
          repeat' first|exact k9|refine k2 ?_|apply kA|apply kI;intro hc|refine k8 ?_|apply kL;intro hl
          ·have h3:L[k].kind=3:=by assumption
           have hlost:nG g=true:=hbad (Po.2 ⟨L[k],Of hy,by rw[decide_eq_true h3,vR.1 hc];rfl⟩);exact aa.n (by rw[b4,hform,if_neg (by decide),hlarge,if_neg (by decide),htw,if_neg (by decide),if_pos hlost]) rfl
          ·apply kCt [1,7,8,9] [];conv=>whnf
           exact ih' (k+1) _ _ _ (by omega) ⟨by omega,hstep fun h=>by have:=vR.2 h.2;omega⟩ rfl rfl rfl
          ·apply kCt [1,7,8,9] [];conv=>whnf
           exact ih' (k+1) _ _ _ (by omega) ⟨by omega,hstep fun h=>hc h.1⟩ rfl rfl rfl
         ·have hany:(L.any fun n=>decide (n.kind=3)&&(bf g n.text).isNone)=false:=by
           rw[Pn];intro n hn;obtain⟨j,hj,rfl⟩:=OT hn;have:=hok' j hj (by omega);simpa using this
          repeat' first|exact k9|refine k2 ?_|apply kA|apply kI;intro hc|refine k8 ?_|apply kL;intro hl
          apply kCt [1,7] [];conv=>whnf
          exact ih (i+1) _ _ _ (by omega) ⟨by omega,hnx hany⟩ rfl rfl rfl
        ·have hlost:nG g=false:=by
          rw[nG,Pn];intro d hd;obtain⟨j,hj,rfl⟩:=OT hd;rw[hlo j hj (by omega)]
          decide
         repeat' first|exact k9|refine k2 ?_|apply kA|apply kI;intro hc|refine k8 ?_|apply kL;intro hl
         exact aa.n (by rw[b4,hform,if_neg (by decide),hlarge,if_neg (by decide),htw,if_neg (by decide),hlost,if_neg (by decide)]) rfl
 ·refine kf rfl rfl ?_;repeat' first|exact k9|refine k2 ?_|apply kA|apply kI;intro hc|refine k8 ?_|apply kL;intro hl
  exact aa.n (by rw[b4,if_pos (by rw[mh,show g=[] from OJ (by omega)];rfl)]) rfl⟩
end Go.Km
end
