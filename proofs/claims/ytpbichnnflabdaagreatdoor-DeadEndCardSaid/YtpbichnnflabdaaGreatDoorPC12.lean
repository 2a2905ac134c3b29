/- The card of DeadEnd: whatever comes in, DeadEnd answers true, and what came in reads as it did. -/
import Derived.Test.YtpbichnnflabdaaGreatDoorPC11
set_option linter.all false
section
namespace Go.Km
open Go Go.Sl Go.RowKit Go.Vc
mutual
def flD{H:Type}:DataW H→Option (List Value)
 |.lit (.int k n)=>some [.int k n]
 |.lit (.string b)=>some [.string ⟨b.toArray⟩]
 |.agg ds=>Ft ds
 |_=>none
def Ft{H:Type}:List (DataW H)→Option (List Value)
 |[]=>some []
 |d::ds=>match flD d,Ft ds with
  |some a,some b=>some (a++b)
  |_,_=>none
end
def FlT(H:Type)(P:Program)(w:World)(t:TypeId):Prop:=∀(enc:TypeId×Value→H) (base:Nat) (spare:Nat→Bool) (held:Bool) (m:Nat) (cs:List Value) (y:DataW H×List MemPlace),DataW.trod enc P w base spare held m t cs=some y→∀vs,flD y.1=some vs→cs=vs
section
variable {H:Type}{P:Program}{w:World}{t:TypeId}
theorem BS{k:IntKind}(ht:P.underlying t=some (.int k)):FlT H P w t:=fun enc base spare held m cs y h vs hv=>by
 obtain⟨n,rfl,rfl,_⟩:=DataW.trod_int ht h;rw[flD]at hv;exact Option.some.inj hv
theorem LY(ht:P.underlying t=some .string):FlT H P w t:=fun enc base spare held m cs y h vs hv=>by
 obtain⟨s,rfl,rfl,_⟩:=DataW.trod_string ht h;rw[flD]at hv;have:=Option.some.inj hv;rw[←this]
theorem chunks{sz:Nat}:∀(l:List (List Value)) (cs:List Value),cs.length=l.length*sz→(∀(i:Nat) (h:i<l.length),(cs.drop (i*sz)).take sz=l[i])→cs=l.flatten
 |[],cs,h,_=>by
  simp at h;rw[h];rfl
 |x::l,cs,h,k=>by
  have h0:=k 0 (by simp);simp only[Nat.zero_mul,List.drop_zero,List.getElem_cons_zero]at h0;have ih:=chunks (sz:=sz) l (cs.drop sz) (by rw[List.length_drop,h,List.length_cons,Nat.add_mul];omega) fun i hi=>by
   have:=k (i+1) (by simpa using hi);rw[List.getElem_cons_succ]at this;rw[←this,List.drop_drop,Nat.add_mul,Nat.one_mul,Nat.add_comm]
  rw[List.flatten_cons,←ih,←h0,List.take_append_drop]
theorem wB:∀(ds:List (DataW H)) (vs:List Value),Ft ds=some vs→∃l:List (List Value),vs=l.flatten∧l.length=ds.length∧∀(i:Nat) (d:DataW H) (r:List Value),ds[i]?=some d→l[i]?=some r→flD d=some r
 |[],vs,h=>⟨[],by rw[Ft]at h;rw[←Option.some.inj h];rfl,rfl,fun i d r h=>by simp at h⟩
 |d::ds,vs,h=>by
  rw[Ft]at h
  split at h
  ·rename_i a b ha hb;obtain⟨l,h1,h2,h3⟩:=wB ds b hb;refine⟨a::l,by rw[←Option.some.inj h,h1];rfl,by simp[h2],fun i d' r hd hr=>?_⟩
   cases i with
   |zero=>
    simp only[List.getElem?_cons_zero,Option.some.injEq]at hd hr;rw[←hd,←hr];exact ha
   |succ i=>exact h3 i d' r (by simpa using hd) (by simpa using hr)
  ·cases h
theorem nP{n e sz:Nat}(ht:P.underlying t=some (.array n e))(hc:P.cellsOf t=n*sz)(hs:P.cellsOf e=sz)(he:FlT H P w e):FlT H P w t:=fun enc base spare held m cs y h vs hv=>by
 obtain⟨xs,m1,_,rfl,hl,hn,hf⟩:=DataW.trod_array ht h;simp only[flD]at hv;obtain⟨l,h1,h2,h3⟩:=wB _ _ hv;rw[List.length_map]at h2;rw[h1];refine chunks (sz:=sz) l cs (by rw[hl,hc,h2,hn]) fun i hi=>?_
 have hi2:i<xs.length:=by omega
 have h4:=hf i (by omega);rw[hs,List.getElem?_eq_getElem hi2]at h4;exact he enc base spare held m1 _ _ h4 _ (h3 i xs[i].1 l[i] (by rw[List.getElem?_map,List.getElem?_eq_getElem hi2];rfl) (List.getElem?_eq_getElem hi))
theorem Gs{fs:Array Field}{a b c:Field}(ht:P.underlying t=some (.struct fs))(hfs:fs=#[a,b,c])(hc:P.cellsOf t=3)(oa:a.offset=0∧P.cellsOf a.type=1)(ob:b.offset=1∧P.cellsOf b.type=1)(oc:c.offset=2∧P.cellsOf c.type=1)(ha:FlT H P w a.type)(hb:FlT H P w b.type)(hcc:FlT H P w c.type):FlT H P w t:=fun enc base spare held m cs y h vs hv=>by
 subst hfs;obtain⟨xs,m1,_,rfl,hl,hn,hf⟩:=DataW.trod_struct ht h;have hl:=hl.trans hc
 match cs,hl with
 |[c0,c1,c2],_=>
  match xs,hn with
  |[x0,x1,x2],_=>
   have f0:=hf 0 a rfl;have f1:=hf 1 b rfl;have f2:=hf 2 c rfl;rw[oa.1,oa.2]at f0;rw[ob.1,ob.2]at f1;rw[oc.1,oc.2]at f2;simp only[List.drop_succ_cons,List.drop_zero,List.take_succ_cons,List.take_zero,List.getElem?_cons_zero,List.getElem?_cons_succ]at f0 f1 f2;simp only[flD,List.map_cons,List.map_nil]at hv;obtain⟨l,h1,h2,h3⟩:=wB _ _ hv
   match l,h2 with
   |[r0,r1,r2],_=>
    have e0:=ha enc base spare held m1 _ _ f0 r0 (h3 0 _ _ rfl rfl);have e1:=hb enc base spare held m1 _ _ f1 r1 (h3 1 _ _ rfl rfl);have e2:=hcc enc base spare held m1 _ _ f2 r2 (h3 2 _ _ rfl rfl);rw[h1,←e0,←e1,←e2];rfl
theorem zC{Z:Nat→Prop}:∀vs:List Value,F.ah Z w (vs.map .vl) vs
 |[]=>gJ
 |v::vs=>bc (eu v) (zC vs)
theorem MS{n:String}{g:Nat}{cs:Array Value}{vs:List Value}(hg:P.globalNamed n=some g)(hv:w.var? P n=some cs)(e:cs.toList=vs)(h1:cb vs=true)(h0:0<vs.length):F.rep (fun b=>b<w.heap.size) w (.pt vs.length [vs.map .vl] 0 0) (.pointer (some ⟨g,0,none⟩)):=by
 have hcell:=World.var?_cell hg hv;have hsz:g<w.heap.size:=by
  simp only[World.var?,hg,Option.bind_some]at hv
  split at hv
  ·rename_i hh;exact(Array.getElem?_eq_some_iff.1 hh).1
  ·cases hv
 unfold F.rep;refine⟨⟨g,0,none⟩,[vs],by simp[Addr.add],⟨rfl,by simp,fun _=>⟨⟨g,0,none⟩,rfl,hsz,fun j v hj=>?_⟩⟩,by simpa using h1,?_⟩
 ·simp only[List.flatten_cons,List.flatten_nil,List.append_nil]at hj;rw[add_lit,Nat.zero_add,hcell j,←Array.getElem?_toList,e];exact hj
 ·unfold F.aI;refine⟨vs,[],rfl,zC vs,?_⟩;unfold F.aI;rfl
end
end Go.Km
namespace Go.Proofs.YtpbichnnflabdaaGreatDoor
open Go Go.Sl Go.RowKit Go.Vc Go.Km Go.aa
open Go.ChangeShapes Go.WideShapes Go.ChangeAt
set_option maxRecDepth 100000
theorem N0:ownKnob Tryz.prog.godebug=none:=by kernel_rfl
theorem GH:laidOutB Tryz.prog=true:=by kernel_rfl
def gw:List (String×DataW Unit):=[("math/bits.deBruijn32tab",Rows.laid_math_bits_deBruijn32tab),("math/bits.deBruijn64tab",Rows.laid_math_bits_deBruijn64tab),("internal/strconv.uint64pow10",Rows.laid_internal_strconv_uint64pow10),("bonsai/tree.counts",Rows.laid_bonsai_tree_counts),("bonsai/print.counts",Rows.laid_bonsai_print_counts),("bonsai/print.signs",Rows.laid_bonsai_print_signs)]
theorem ES(os:Os)(args:Array Value):laidMetH Tryz.prog gw ((World.doorLaid Tryz.prog 400 os).forCall (fun _ _=>0) ⟨#[],args,[]⟩).memory:=
 laidMetH_of_parts3 (fuel:=8) (laidMet_of_run' 8 (by kernel_rfl) (by kernel_rfl)) (by kernel_rfl) (by kernel_rfl)
variable {H:Type}{W:World}
theorem Gg:FlT H Tryz.prog W 3:=BS Tryz.underlying3
theorem Dj:FlT H Tryz.prog W 9:=LY Tryz.underlying9
theorem NM:FlT H Tryz.prog W 5:=BS Tryz.underlying5
theorem M6:FlT H Tryz.prog W 42:=BS Tryz.underlying42
theorem flA:FlT H Tryz.prog W 177:=nP (sz:=2) Tryz.underlying177 (by kernel_rfl) (by kernel_rfl) (nP (sz:=1) Tryz.underlying176 (by kernel_rfl) (by kernel_rfl) Gg)
theorem flB:FlT H Tryz.prog W 256:=nP (sz:=1) Tryz.underlying256 (by kernel_rfl) (by kernel_rfl) NM
theorem flC:FlT H Tryz.prog W 269:=nP (sz:=1) Tryz.underlying269 (by kernel_rfl) (by kernel_rfl) NM
theorem flE:FlT H Tryz.prog W 264:=nP (sz:=1) Tryz.underlying264 (by kernel_rfl) (by kernel_rfl) M6
theorem flS:FlT H Tryz.prog W 232:=nP (sz:=3) Tryz.underlying232 (by kernel_rfl) (by kernel_rfl) (Gs Tryz.underlying231 rfl (by kernel_rfl) ⟨rfl,by kernel_rfl⟩ ⟨rfl,by kernel_rfl⟩ ⟨rfl,by kernel_rfl⟩ Dj Dj Dj)
theorem flN:FlT H Tryz.prog W 246:=nP (sz:=3) Tryz.underlying246 (by kernel_rfl) (by kernel_rfl) (Gs Tryz.underlying245 rfl (by kernel_rfl) ⟨rfl,by kernel_rfl⟩ ⟨rfl,by kernel_rfl⟩ ⟨rfl,by kernel_rfl⟩ Gg Gg Dj)
theorem EF{W:World}(h:laidMetH Tryz.prog gw W):∀(n:String) (d:DataW Unit),(n,d)∈gw→∃g t cs fuel p,Tryz.prog.globalNamed n=some g∧(Tryz.prog.globals[g]?).map (·.type)=some t∧W.var? Tryz.prog n=some cs∧DataW.trod (fun _=>()) Tryz.prog W 0 (fun _=>true) false fuel t cs.toList=some (d,p):=by
 rw[MakeChecks.laidMetH_plain _ _ _ (by kernel_rfl)]at h;obtain⟨ps,hl,_⟩:=h;have key:∀(l:List (String×DataW Unit)) (ps:List MemPlace),DataW.LaidVars Tryz.prog W l ps→∀n d,(n,d)∈l→∃g t cs fuel p,Tryz.prog.globalNamed n=some g∧(Tryz.prog.globals[g]?).map (·.type)=some t∧W.var? Tryz.prog n=some cs∧DataW.trod (fun _=>()) Tryz.prog W 0 (fun _=>true) false fuel t cs.toList=some (d,p):=by
  intro l
  induction l with
  |nil=>intro ps _ n d hm;cases hm
  |cons x l ih=>
   intro ps hx n d hm;obtain⟨n0,d0⟩:=x;obtain⟨g,t,cs,f,p,q,h1,h2,h3,h4,h5,h6⟩:=hx;rcases List.mem_cons.1 hm with e|hm
   ·cases e;exact⟨g,t,cs,f,p,h1,h2,h3,h4⟩
   ·exact ih _ h5 n d hm
 exact key gw ps hl
theorem MK{W:World}(h:laidMetH Tryz.prog gw W):∀g cs,X1.Γ g=some cs→F.rep (mI W) W (.pt cs.length [cs] 0 0) (.pointer (some ⟨g,0,none⟩)):=by
 have hv:=EF h;have one:∀(n:String) (d:DataW Unit) (g t:Nat) (vs:List Value),(n,d)∈gw→Tryz.prog.globalNamed n=some g→(Tryz.prog.globals[g]?).map (·.type)=some t→FlT Unit Tryz.prog W t→flD d=some vs→cb vs=true→0<vs.length→F.rep (mI W) W (.pt vs.length [vs.map .vl] 0 0) (.pointer (some ⟨g,0,none⟩)):=fun n d g t vs hm hg ht hf hd h1 h0=>by
  obtain⟨g',t',cs,fuel,p,q1,q2,q3,q4⟩:=hv n d hm;obtain rfl:=Option.some.inj (hg.symm.trans q1);obtain rfl:=Option.some.inj (ht.symm.trans q2);exact MS hg q3 (hf _ _ _ _ _ _ _ q4 vs hd) h1 h0
 have a0:=one "bonsai/tree.counts" Rows.laid_bonsai_tree_counts 0 177 _ (by simp[gw]) (by kernel_rfl) (by kernel_rfl) flA rfl (by kernel_rfl) (Nat.le_of_ble_eq_true rfl);have a1:=one "bonsai/print.signs" Rows.laid_bonsai_print_signs 1 232 _ (by simp[gw]) (by kernel_rfl) (by kernel_rfl) flS rfl (by kernel_rfl) (Nat.le_of_ble_eq_true rfl);have a2:=one "bonsai/print.counts" Rows.laid_bonsai_print_counts 2 246 _ (by simp[gw]) (by kernel_rfl) (by kernel_rfl) flN rfl (by kernel_rfl) (Nat.le_of_ble_eq_true rfl);have a3:=one "math/bits.deBruijn64tab" Rows.laid_math_bits_deBruijn64tab 3 256 _ (by simp[gw]) (by kernel_rfl) (by kernel_rfl) flB rfl (by kernel_rfl) (Nat.le_of_ble_eq_true rfl);have a5:=one "internal/strconv.uint64pow10" Rows.laid_internal_strconv_uint64pow10 5 264 _ (by simp[gw]) (by kernel_rfl) (by kernel_rfl) flE rfl (by kernel_rfl) (Nat.le_of_ble_eq_true rfl);have a6:=one "math/bits.deBruijn32tab" Rows.laid_math_bits_deBruijn32tab 6 269 _ (by simp[gw]) (by kernel_rfl) (by kernel_rfl) flC rfl (by kernel_rfl) (Nat.le_of_ble_eq_true rfl);intro g cs hg;have key:∀(l:List (Nat×List F)),(∀x∈l,F.rep (mI W) W (.pt x.2.length [x.2] 0 0) (.pointer (some ⟨x.1,0,none⟩)))→Vc.lk l g=some cs→F.rep (mI W) W (.pt cs.length [cs] 0 0) (.pointer (some ⟨g,0,none⟩)):=by
  intro l
  induction l with
  |nil=>intro _ h;cases h
  |cons x l ih=>
   intro hx h;obtain⟨k,v⟩:=x;unfold Vc.lk at h
   cases hk:Nat.beq k g with
   |true=>
    rw[hk,cond_true]at h;have e:=Nat.eq_of_beq_eq_true hk;have e2:=Option.some.inj h;subst e e2;exact hx (_,_) (List.mem_cons_self ..)
   |false=>
    rw[hk,cond_false]at h;exact ih (fun y hy=>hx y (by simp[hy])) h
 exact key LH (by
  intro x hx;simp only[LH,List.mem_cons,List.not_mem_nil,or_false]at hx;rcases hx with rfl|rfl|rfl|rfl|rfl|rfl
  ·exact a0
  ·exact a1
  ·exact a2
  ·exact a3
  ·exact a5
  ·exact a6) hg
theorem GU{H:Type}{P:Program}{ts:List TypeId}{ds:List (DataW H)}(h:(DataW.weightsEach P ts ds).all (·≤reachBytes)=true):∀(i:Nat) t d,ts[i]?=some t→ds[i]?=some d→fT P t d:=by
 refine fu fun k hk=>?_;have:=List.all_eq_true.1 h k hk;simpa using this
end Go.Proofs.YtpbichnnflabdaaGreatDoor
end
section
namespace Go.Proofs.YtpbichnnflabdaaGreatDoor
open Go Go.Sl Go.RowKit Go.Vc Go.Km Go.aa
open Go.ChangeShapes Go.WideShapes Go.ChangeAt
theorem Af (W:World) (v1:Value) (g:List Dfn) (h1:F.rep (mI W) W (cx g) v1) (hL:laidMetH Tryz.prog gw W)
  (hn:g.length≤dJ) (hw:∀d∈g,d.wf) :
  Calls Tryz.prog 5 #[v1] W (fun e W'=>e=.returned (.bool true)∧Below W.heap.size W W'):=by
 have hr:=(D8 g hn hw).run (mI W) W [v1] (fun _ h=>h) (MK hL) (bc h1 gJ);refine hr.mono fun e W' ⟨v,he,hb,hv⟩=>?_
 unfold F.rep at hv;subst hv;exact⟨he,hb⟩
set_option maxRecDepth 100000 in
theorem sR(os:Os)(started:os.Started)(H:Type)(enc:TypeId×Value→H) :
  ReturnsInHanded {} Tryz.checked os 5 .any (fun w args=>(Rows.deadEndSpec.pre enc Tryz.prog Tryz.f5 [] false w args∧laidMetH Tryz.prog gw w)∧sizedMet enc Tryz.prog Tryz.f5 (OpenSpec.ofChange Rows.deadEndSpec) false w args)
   (Rows.deadEndSpec.post enc Tryz.prog Tryz.f5 false true false false):=by
 refine returnsInHanded_of_change_and (C:=Tryz.checked) (X:=fun w _=>laidMetH Tryz.prog gw w) (fun _ _ _ hh h=>h.of_heap hh) N0 started (by kernel_rfl) Tryz.func5
  (ChangeSpec.witness_shaped (enc:=enc) (C:=Tryz.checked) (os:=os) (X:=fun w _=>laidMetH Tryz.prog gw w) false (World.doorLaid Tryz.prog 400 os) #[.agg #[.slice none 0 0]] 8 rfl (World.shaped_of_RefB (by kernel_rfl) (by kernel_rfl)) (by kernel_rfl) (by kernel_rfl) (by kernel_rfl) (ES os _)) ?_
 intro W base args ds gs before hval0 hW _ hsz0 hL _;have hsz:=GU hsz0;have hlt:∀x∈before,x.block<W.heap.size:=fun x hx=>by simpa using hW.lt x hx
 have hW':=hW;obtain⟨p,q,hA0,hV,rfl,hfz,hnd⟩:=hW;have hA:DataW.TrodAll enc Tryz.prog W 0 (fun _=>true) true Tryz.f5.params.toList args.toList ds p:=hA0;rw[Tryz.params5]at hA hsz hval0;obtain⟨v1,d1,rfl,rfl,h1⟩:=trodAll_one hA;obtain⟨rfl,rfl⟩:=trodVars_none hV;have h1':=h1;obtain⟨a1,rfl,_⟩:=okWide_struct Tryz.underlying24 (hval0 0 _ _ rfl rfl);obtain⟨_,h1⟩:=h1;obtain⟨x1,hr1,hlr1,hw1⟩:=E0 h1 (hsz 0 _ _ rfl rfl);simp only[List.append_nil]at hW' hlt;have hb1':∀x∈p,x.block<W.heap.size:=fun x hx=>hlt x (by simp[hx])
 have hxGrammar:∀W':World,Below W.heap.size W W'→∀(v d p),DataW.Trod enc Tryz.prog W 0 (fun _=>true) true 24 v d p→(∀x∈p,x.block<W.heap.size)→DataW.Trod enc Tryz.prog W' 0 (fun b=>decide (b<W.heap.size)) true 24 v d p:=
  fun W' hb v d p h hp=>Below.trod GH (by kernel_rfl) (of_decide_eq_true (by kernel_rfl)) h hb hp
 refine(Af W _ x1 hr1 hL hlr1 hw1).mono fun e W' ⟨he,hb⟩=>?_;subst he;exact⟨_,rfl,_,_,_,[],p,[],hW',trodAll_mk1 (shut_bool Tryz.underlying4 _),trodAll_mk1 (hxGrammar W' hb _ _ _ h1' hb1'),rfl,hb.frame _,fun h=>by cases h⟩
set_option maxRecDepth 100000 in
theorem uA:Rows.DeadEndSaid:=
 OpenClaim.holds_of_wide 5 Tryz.f5 rfl rfl rfl rfl rfl rfl rfl ⟨rfl,rfl,rfl,rfl,rfl⟩ rfl rfl rfl rfl rfl (by kernel_rfl) Tryz.func5 (by kernel_rfl)
  (of_decide_eq_true (by kernel_rfl)) (by unfold Func.isWrapper;first|(rw[if_pos (by decide +kernel)];kernel_rfl)|(rw[if_neg (by decide +kernel)];exact⟨rfl,rfl⟩))
  (fun os started H enc _=>sR os started H enc)
set_option maxRecDepth 100000 in
theorem deadEnd_card_holds:Rows.DeadEndCardSaid:=
 Claim7.holds_tied_plain_at .later [] [.data,.data,.data,.data,.data,.data] true (true,"261646ac44af3a5509ab41c83a1ad89ad70877b4f4c8bd133ed783bfceeb2e4e") false
  uA (fun _ h=>by cases h) (by kernel_rfl) (fun _ h=>by cases h) deadEnd_row_tie rfl ⟨rfl,rfl⟩ (by kernel_rfl) rfl
  (fun f fn hf hfn=>by
   obtain rfl:f=5:=Option.some.inj ((show Tryz.prog.funcNamed "bonsai/bonsailaw20.DeadEnd"=some 5 by kernel_rfl).symm.trans hf) |>.symm;obtain rfl:fn=Tryz.f5:=(Option.some.inj (Tryz.func5.symm.trans hfn)).symm;exact⟨by kernel_rfl,fun j t ht=>by
    rw[Tryz.params5]at ht;have hm:t∈[24]:=by simpa using Array.mem_of_getElem? ht
    have hall:([24].all fun u=>!Tryz.prog.wantsStandIn u)=true:=by kernel_rfl
    exact(show Tryz.prog.wantsStandIn t=false by simpa using List.all_eq_true.1 hall t hm)⟩)
  (by kernel_rfl)
#print axioms deadEnd_card_holds
end Go.Proofs.YtpbichnnflabdaaGreatDoor
end
