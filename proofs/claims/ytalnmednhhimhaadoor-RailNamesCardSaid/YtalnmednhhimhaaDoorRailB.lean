/-
  Package quote and strings.Builder, walked; what the kinds draw, but a Set.
-/
import Derived.Test.YtalnmednhhimhaaDoorRailA
import Derived.Lib.Bytealg
import Derived.Laws.Externs
import Derived.Lib.Builder
import Derived.Lib.AppendStr
import Derived.Lib.UnsafeStr
set_option linter.all false
/- Package quote, walked: plain; strings.IndexByte by its entry. -/
namespace Go.Sl
open Go
/-- a call of a function without a body, which leaves the world as it is -/
theorem Ev.ext_ {P : Program} {n : FD} {s : Sg} {M : World → Prop} {ty : TypeId} {f : FuncId} {e : Array Value → Sem Value} {xs : List Operand} {vs : List Value} {tys : Array TypeId} {v : Value}
    (hf' : ∀ args w, (callFunc f args).run P w = ((e args).run P w).andThen fun v w' => .ok (.value v) w') (hxs : evs s xs = some vs) (hv : ∀ w, (e vs.toArray).run P w = .ok v w) :
    Ev P n s M (.call { callee := .value (.func f), args := xs.toArray, argTypes := tys }) ty v := by
  refine ⟨fun a w o ho ht hf hm => ?_⟩
  have h1 := evs_eq hf hxs
  have h2 := hv w
  simp [execOp, ho, resolve, Deferred.ofValue, Act.eval, invoke, hf' _ w, h1, h2]
end Go.Sl
namespace Go.Bonsai
open Go
/-- does a byte stand for itself, where some are left out? -/
def plainB (left : ByteArray) (b : Int) : Bool := decide (32 ≤ b) && decide (b ≤ 126) && !decide (b = 92) && decide (Lib.indexByte left.data.toList b.toNat.toUInt8 < 0)
end Go.Bonsai
namespace Go.Proofs.YtalnmednhhimhaaDoor
open Go Go.Sl Go.RowKit Go.Bonsai Go.Fl
set_option linter.unusedVariables false
set_option linter.unusedSimpArgs false
theorem cx_index (args : Array Value) (w : World) : (callFunc 91 args).run Tryd.prog w = ((Extern.BytealgIndexByte.indexByte args).run Tryd.prog w).andThen fun v w' => .ok (.value v) w' :=
  run_callFunc_extern Tryd.func91 (by kernel_rfl) (by kernel_rfl) (by kernel_rfl) (by kernel_rfl) args w
theorem sindex_any (s : ByteArray) (c : Int) (w : World) : Calls Tryd.prog 81 #[.string s, .int .u8 c] w (RetV w (.int .i64 (Lib.indexByte s.data.toList c.toNat.toUInt8))) := by
  refine TC.calls (l := [.string s, .int .u8 c]) Tryd.func81 rfl Tryd.ntmps81 rfl (St.start w) ?_
  repeat' (first | ((apply T.ev_; exact rfl; exact Ev.ext_ (vs := [.string s, .int .u8 c]) cx_index rfl (fun w => Lib.run_indexByteString s c w))) | (refine W1 ?_) | (refine W2 (fun hc => ?_) (fun hc => ?_)) | (intro _))
  exact TX.ret_tmp rfl rfl (fun w' hw => RetV.eq hw rfl)
theorem index_any (s : ByteArray) (c : Int) (w : World) : Calls Tryd.prog 73 #[.string s, .int .u8 c] w (RetV w (.int .i64 (Lib.indexByte s.data.toList c.toNat.toUInt8))) := by
  refine TC.calls (l := [.string s, .int .u8 c]) Tryd.func73 rfl Tryd.ntmps73 rfl (St.start w) ?_
  repeat' (first | ((apply T.callV (f := 81); exact rfl; exact rfl; exact fun w' _ => sindex_any s c w')) | (refine W1 ?_) | (refine W2 (fun hc => ?_) (fun hc => ?_)) | (intro _))
  exact TX.ret_tmp rfl rfl (fun w' hw => RetV.eq hw rfl)
theorem plain_any (b : Int) (left : ByteArray) (w : World) : Calls Tryd.prog 72 #[.int .u8 b, .string left] w (RetV w (.bool (plainB left b))) := by
  refine TC.calls (l := [.int .u8 b, .string left]) Tryd.func72 rfl Tryd.ntmps72 rfl (St.start w) ?_
  repeat' (first | ((apply T.callV (f := 73); exact rfl; exact rfl; exact fun w' _ => index_any left b w')) | (refine W1 ?_) | (refine W2 (fun hc => ?_) (fun hc => ?_)) | (intro _))
  all_goals
    refine TX.ret_tmp rfl rfl (fun w' hw => RetV.eq hw (congrArg Value.bool ?_))
    unfold plainB
    first
    | (simp_all; done)
    | (simp_all; omega)
    | (simp_all; intros; omega)
end Go.Proofs.YtalnmednhhimhaaDoor
/- strings.Builder, walked: copyCheck, WriteByte. -/
namespace Go.Sl
open Go
section
variable {P : Program} {n : FD} {s : Sg} {M : World → Prop} {ty : TypeId}
theorem Ev.ptr_nil {x y : Operand} {t te u : TypeId} {a : Option Addr} (hp : P.underlying t = some (.pointer te)) (hx : ev s x = some (.pointer a)) (hy : ev s y = some (.pointer none)) : Ev P n s M (.binOp .eql t x y u) ty (.bool a.isNone) := by
  refine ⟨fun ac w o ho ht hf hm => ?_⟩
  have h : (Op.equal t (.pointer a) (.pointer none)).run P w = .ok a.isNone w := by
    show (Op.equalIn (9999 + 1) t (.pointer a) (.pointer none)).run P w = _
    rw [Op.equalIn]
    cases a <;> simp [run_underlying hp]
  simp [execOp, ho, hf.ev hx, hf.ev hy, eqGuard, binOp, h]
theorem Ev.ptr_same {x y : Operand} {t te u : TypeId} {j : TypeInfo} {a : Addr} (hp : P.underlying t = some (.pointer te)) (hj : P.info? te = some j) (hx : ev s x = some (.pointer (some a))) (hy : ev s y = some (.pointer (some a))) : Ev P n s M (.binOp .neq t x y u) ty (.bool false) := by
  refine ⟨fun ac w o ho ht hf hm => ?_⟩
  have h := Lib.run_neq_ptr_same w a hp hj
  simp [execOp, ho, hf.ev hx, hf.ev hy, eqGuard, h]
theorem Ev.to_unsafe {x : Operand} {src dst t e : TypeId} {j : TypeInfo} {cells : Nat} {a : Addr} (hs : P.underlying src = some (.pointer t)) (hd : P.underlying dst = some .unsafePointer) (ht : P.info? t = some j) (hj : j.size ≠ 0) (hx : ev s x = some (.pointer (some a))) (hsh : ∀ w, M w → w.shape? a.block = some (e, cells)) (hoff : a.off < cells) :
    Ev P n s M (.convert src dst x) ty (.pointer (some a)) := by
  refine ⟨fun ac w o ho ht' hf hm => ?_⟩
  have h := Lib.run_to_unsafe w a hs hd ht hj (hsh w hm) hoff
  simp [execOp, ho, hf.ev hx, h]
theorem Ev.from_unsafe {x : Operand} {src dst u e : TypeId} {j : TypeInfo} {cells : Nat} {a : Addr} (hs : P.underlying src = some .unsafePointer) (hd : P.underlying dst = some (.pointer u)) (hu : P.info? u = some j) (hx : ev s x = some (.pointer (some a))) (hsh : ∀ w, M w → w.shape? a.block = some (e, cells)) (hl : liesAt P P.depth e (cells / P.cellsOf e) a.off u 1 = true) :
    Ev P n s M (.convert src dst x) ty (.pointer (some a)) := by
  refine ⟨fun ac w o ho ht' hf hm => ?_⟩
  have h := Lib.run_from_unsafe w a hs hd hu (hsh w hm) hl
  simp [execOp, ho, hf.ev hx, h]
theorem St.blk_shape {w0 w : World} {L : List HP} {b t : Nat} {cs : List Value} (h : St w0 L w) (ha : At L (blk b cs t)) : w.shape? b = some (t, cs.length) := by
  have := h.blk_heap ha
  simp [World.shape?, this]
end
end Go.Sl
namespace Go.Proofs.YtalnmednhhimhaaDoor
open Go Go.Sl Go.RowKit Go.Bonsai Go.Fl
set_option linter.unusedVariables false
set_option linter.unusedSimpArgs false
theorem bld_info : (Tryd.prog.info? 87).map (·.size) = some 2 := by kernel_rfl
theorem bld_lies : liesAt Tryd.prog Tryd.prog.depth 87 (2 / Tryd.prog.cellsOf 87) 0 87 1 = true := by kernel_rfl
theorem cx_noescape (args : Array Value) (w : World) : (callFunc 66 args).run Tryd.prog w = ((Extern.AbiNoEscape.same args).run Tryd.prog w).andThen fun v w' => .ok (.value v) w' :=
  run_callFunc_extern Tryd.func66 (by kernel_rfl) (by kernel_rfl) (by kernel_rfl) (by kernel_rfl) args w
/-- a builder, new or written -/
abbrev bBlk (b : Nat) (ad : Option Addr) (p : Option Addr × Nat) (n : Nat) : HP := blk b [.pointer ad, .slice p.1 n p.2] 87
set_option maxRecDepth 20000 in
theorem copyCheck_any {w0 : World} {L0 : List HP} (b : Nat) (ad : Option Addr) (p : Option Addr × Nat) (n : Nat) (w : World) (had : ad = none ∨ ad = some ⟨b, 0, none⟩) (hw : St w0 (bBlk b ad p n :: L0) w) :
    Calls Tryd.prog 51 #[.pointer (some ⟨b, 0, none⟩)] w (fun e w' => ∃ x : Unit, e = .returned (.tuple #[]) ∧ St w0 (bBlk b (some ⟨b, 0, none⟩) p n :: L0) w') := by
  obtain ⟨j, hj, hjs⟩ := Option.map_eq_some_iff.1 bld_info
  refine TC.calls (l := [.pointer (some ⟨b, 0, none⟩)]) (M := St w0 (bBlk b ad p n :: L0)) Tryd.func51 rfl Tryd.ntmps51 rfl hw ?_
  have hne : j.size ≠ 0 := by rw [hjs]; decide
  have u1 : Tryd.prog.underlying 84 = some (.pointer 87) := Tryd.underlying84
  have u2 : Tryd.prog.underlying 127 = some .unsafePointer := Tryd.underlying127
  have hl := bld_lies
  rcases had with rfl | rfl
  · repeat' (first | ((apply T.ev_; exact rfl; apply Ev.ptr_nil u1; exact rfl; exact rfl)) | ((apply T.ev_; exact rfl; apply Ev.to_unsafe u1 u2 hj hne; exact rfl; exact (fun w hw => St.blk_shape (b := b) hw .here); exact Nat.zero_lt_succ 1)) | ((apply T.ev_; exact rfl; apply Ev.ext_ (vs := [.pointer (some ⟨b, 0, none⟩)]) cx_noescape; exact rfl; exact (fun w => Lib.run_noEscape w _))) | ((apply T.ev_; exact rfl; apply Ev.from_unsafe u2 u1 hj; exact rfl; exact (fun w hw => St.blk_shape (b := b) hw .here); exact hl)) | (refine W1 ?_) | (refine W2 (fun hc => ?_) (fun hc => ?_)) | (intro _))
    exact TX.end0 rfl (fun w' hw => ⟨(), rfl, hw⟩)
  · repeat' (first | ((apply T.ev_; exact rfl; apply Ev.ptr_nil u1; exact rfl; exact rfl)) | ((apply T.ev_; exact rfl; apply Ev.ptr_same u1 hj; exact rfl; exact rfl)) | (refine W1 ?_) | (refine W2 (fun hc => ?_) (fun hc => ?_)) | (intro _))
    exact TX.end0 rfl (fun w' hw => ⟨(), rfl, hw⟩)
def bRows (l : List UInt8) : List (List Value) := l.map fun x => [.int .u8 (x.toNat : Int)]
abbrev bOwn (p : Option Addr × Nat) (n : Nat) (l : List UInt8) : HP := own 5 1 p.1 n p.2 (bRows l)
theorem bRows_len (l : List UInt8) : (bRows l).length = l.length := by simp [bRows]
set_option maxRecDepth 20000 in
theorem writeByte_any {w0 : World} {L0 : List HP} (b : Nat) (ad : Option Addr) (p : Option Addr × Nat) (l : List UInt8) (c : UInt8) (w : World) (had : ad = none ∨ ad = some ⟨b, 0, none⟩) (hl : l.length ≤ 1000000000) (hw : St w0 (bBlk b ad p l.length :: bOwn p l.length l :: L0) w) :
    Calls Tryd.prog 57 #[.pointer (some ⟨b, 0, none⟩), .int .u8 (c.toNat : Int)] w (fun e w' => ∃ x : Option Addr × Nat, e = .returned .nilIface ∧ St w0 (bBlk b (some ⟨b, 0, none⟩) x (l ++ [c]).length :: bOwn x (l ++ [c]).length (l ++ [c]) :: L0) w') := by
  refine TC.calls (l := [.pointer (some ⟨b, 0, none⟩), .int .u8 (c.toNat : Int)]) (M := St w0 (bBlk b ad p l.length :: bOwn p l.length l :: L0)) Tryd.func57 rfl Tryd.ntmps57 rfl hw ?_
  repeat' (first | (refine W1 ?_) | (refine W2 (fun hc => ?_) (fun hc => ?_)) | (intro _))
  refine T.callM (val := fun _ : Unit => .tuple #[]) rfl rfl (fun w' hw' => copyCheck_any b ad p l.length w' had hw') (fun _ => ?_)
  repeat' (first | (refine W1 ?_) | (refine W2 (fun hc => ?_) (fun hc => ?_)) | (intro _))
  refine T.append (rows := bRows l) (news := [[.int .u8 (c.toNat : Int)]]) rfl rfl rfl DelA (fun w hw => St.own_arr hw AtA) (fun _ _ r hr => by simp at hr; subst hr; rfl) (by unfold maxLen; omega) (by omega) (fun A4 c4 => ?_)
  repeat' (first | (refine W1 ?_) | (refine W2 (fun hc => ?_) (fun hc => ?_)) | (intro _))
  refine TX.ret_tmp rfl rfl (fun w' hw => ⟨(A4, c4), rfl, ?_⟩)
  have e : (l ++ [c]).length = l.length + 1 := by simp
  have e2 : bRows (l ++ [c]) = bRows l ++ [[.int .u8 (c.toNat : Int)]] := by simp [bRows]
  rw [e]
  show St w0 (bBlk b (some ⟨b, 0, none⟩) (A4, c4) (l.length + 1) :: own 5 1 A4 (l.length + 1) c4 (bRows (l ++ [c])) :: L0) w'
  rw [e2]
  exact St.inc IncQ hw
end Go.Proofs.YtalnmednhhimhaaDoor
/- A string's bytes appended to bytes; strings.Builder's WriteString. -/
namespace Go.Sl
open Go Go.RowKit Go.Lib
def sRows (s : ByteArray) : List (List Value) := (strCells s).map fun v => [v]
theorem sRows_flat (s : ByteArray) : (sRows s).flatten = strCells s := by
  unfold sRows
  induction strCells s with
  | nil => rfl
  | cons v l ih => simp only [List.map_cons, List.flatten_cons, ih]; rfl
theorem sRows_len (s : ByteArray) : (sRows s).length = s.size := by rw [sRows, List.length_map, strCells_length]
section
variable {P : Program} {n : FD} {s : Sg} {ty : TypeId} {w0 : World} {L : List HP}
theorem Ac.append_str {x y : Operand} {t u e m c : Nat} {A : Option Addr} {rows : List (List Value)} {bs : ByteArray} {L0 : List HP} [ht : SlT P t e 1 1 (.int .u8 0)] (hu : P.underlying u = some .string) (hx : ev s x = some (.slice A m c)) (hy : ev s y = some (.string bs))
    (hdl : Del L (own e 1 A m c rows) L0) (h63 : m + bs.size ≤ maxLen) (hb : m + bs.size ≤ 140737488355328) : Ac P n s (St w0 L) (.call { callee := .builtin .append, args := #[x, y], argTypes := #[t, u] }) ty (ι := Option Addr × Nat) (fun p => .slice p.1 (m + bs.size) p.2) (fun p => St w0 (own e 1 p.1 (m + bs.size) p.2 (rows ++ sRows bs) :: L0)) := by
  refine ⟨fun a w o ho ht' hf hm => ?_⟩
  obtain ⟨inf, i1, i2, i3, i4⟩ := ht.info
  obtain ⟨S1, g1, g2, g3⟩ := (hm.del hdl).upd (H' := own e 1 A m c rows) Upd.here
  clear g3
  obtain ⟨v', w', r1, r2, r3, r4⟩ := run_append_own_string (P := P) w 0 t u ty e inf ht.und hu i1 i2 i3 i4 (.slice A m c) m rows.flatten g2.1 bs h63 hb (Nat.zero_le _)
  have hmx : m + bs.size ≤ 9223372036854775807 := by unfold maxLen at h63; omega
  have r5 : v'.ownBlock = (Value.slice A m c).ownBlock ∨ v'.ownBlock = some w.heap.size ∧ w.heap.size < w'.heap.size := by
    rcases g2.1.2 with ⟨hv, h0⟩ | ⟨g, cap, cur, hv, _, hg, hnc, _, hcs, _⟩
    · injection hv with a1 a2 a3
      subst a1; subst a2; subst a3
      by_cases hs : bs.size = 0
      · exact .inl (by rw [r4.2 ⟨rfl, hs⟩])
      · have h := run_append_nil_string (P := P) w t u ty e inf _ ht.und hu i1 i2 bs (by omega) (by omega) (by rw [i4]; omega)
        rw [h] at r1
        injection r1 with e1 e2
        subst e1; subst e2
        exact .inr ⟨rfl, by simp⟩
    · injection hv with a1 a2 a3
      subst a1; subst a3
      by_cases hr : m + bs.size ≤ c
      · have h := run_append_room_string (P := P) w t u ty e inf ht.und hu i1 i3 g m c cur hg bs hr (by omega)
        rw [h] at r1
        injection r1 with e1 e2
        subst e1
        exact .inl rfl
      · have holds : ∀ j u, rows.flatten[j]? = some u → w.cell? ((⟨g, 0, none⟩ : Addr).add j) = some u := g2.1.cells (g := g) rfl
        have h := run_append_grow_string (P := P) w t u ty e inf _ ht.und hu i1 i2 ⟨g, 0, none⟩ m c rows.flatten (by rw [i3]; exact g2.1.1) holds bs (by omega) (by omega) (by rw [i4]; exact growslice_fits (by omega) (by omega))
        rw [h] at r1
        injection r1 with e1 e2
        subst e1; subst e2
        exact .inr ⟨rfl, by simp⟩
  have hval : ∃ A2 c2, v' = .slice A2 (m + bs.size) c2 := by
    rcases r2.2 with ⟨hv, h0⟩ | ⟨g, cap, cur, hv, _⟩
    · exact ⟨none, 0, by rw [hv, h0]⟩
    · exact ⟨_, _, hv⟩
  obtain ⟨A2, c2, rfl⟩ := hval
  refine ⟨(A2, c2), w', ?_, ?_⟩
  · simp [execOp, ho, resolve, hf.ev hx, hf.ev hy, invoke, builtin, ht', r1]
  · obtain ⟨S1, g1, g2, g3⟩ := (hm.del hdl).upd (H' := own e 1 A2 (m + bs.size) c2 (rows ++ sRows bs)) Upd.here
    refine g3 (fun b => S1 b ∨ (w.heap.size ≤ b ∧ b < w'.heap.size)) w' (Chg.grown r3 (fun g hg => g2.2.2.2 g hg)) (fun b hb => hb) ?_
    refine ⟨by rw [List.flatten_append, sRows_flat]; exact r2, by simp [g2.2.1, sRows_len], ?_, fun g hg => ?_⟩
    · intro r hr
      rcases List.mem_append.1 hr with hr | hr
      · exact g2.2.2.1 r hr
      · obtain ⟨v, _, rfl⟩ := List.mem_map.1 hr
        rfl
    · rcases r5 with r5 | ⟨r5, r6⟩
      · exact .inl (g2.2.2.2 g (r5 ▸ hg))
      · rw [r5] at hg
        injection hg with hg
        exact .inr ⟨by omega, by omega⟩
theorem T.append_str {ops : Array Oper} {Q : Exit → Act → World → Prop} {rest : List Oper} {d : Nat} {pos : String} {af : Array Edge} {x y : Operand} {t u e m c : Nat} {A : Option Addr} {rows : List (List Value)} {bs : ByteArray} {L0 : List HP} (hd : Nat.blt d n.sz = true) [ht : SlT P t e 1 1 (.int .u8 0)] (hu : P.underlying u = some .string) (hx : ev s x = some (.slice A m c)) (hy : ev s y = some (.string bs))
    (hdl : Del L (own e 1 A m c rows) L0) (h63 : m + bs.size ≤ maxLen) (hb : m + bs.size ≤ 140737488355328)
    (k : ∀ A2 c2, T P ops Q rest n ((d, .slice A2 (m + bs.size) c2) :: s) (St w0 (own e 1 A2 (m + bs.size) c2 (rows ++ sRows bs) :: L0))) : T P ops Q (⟨some d, .call { callee := .builtin .append, args := #[x, y], argTypes := #[t, u] }, ty, pos, af, none⟩ :: rest) n s (St w0 L) :=
  T.act hd (Ac.append_str hu hx hy hdl h63 hb) (fun p => k p.1 p.2)
end
end Go.Sl
namespace Go.Proofs.YtalnmednhhimhaaDoor
open Go Go.Sl Go.RowKit Go.Bonsai Go.Fl Go.Lib
set_option linter.unusedVariables false
set_option linter.unusedSimpArgs false
set_option maxRecDepth 20000 in
theorem writeString_any {w0 : World} {L0 : List HP} (b : Nat) (ad : Option Addr) (p : Option Addr × Nat) (l : List UInt8) (bs : ByteArray) (w : World) (had : ad = none ∨ ad = some ⟨b, 0, none⟩) (hl : l.length ≤ 1000000000) (hbs : bs.size ≤ 1000000000) (hw : St w0 (bBlk b ad p l.length :: bOwn p l.length l :: L0) w) :
    Calls Tryd.prog 28 #[.pointer (some ⟨b, 0, none⟩), .string bs] w (fun e w' => ∃ x : Option Addr × Nat, e = .returned (.tuple #[.int .i64 (bs.size : Int), .nilIface]) ∧ St w0 (bBlk b (some ⟨b, 0, none⟩) x (l ++ bs.data.toList).length :: bOwn x (l ++ bs.data.toList).length (l ++ bs.data.toList) :: L0) w') := by
  refine TC.calls (l := [.pointer (some ⟨b, 0, none⟩), .string bs]) (M := St w0 (bBlk b ad p l.length :: bOwn p l.length l :: L0)) Tryd.func28 rfl Tryd.ntmps28 rfl hw ?_
  repeat' (first | (refine W1 ?_) | (refine W2 (fun hc => ?_) (fun hc => ?_)) | (intro _))
  refine T.callM (val := fun _ : Unit => .tuple #[]) rfl rfl (fun w' hw' => copyCheck_any b ad p l.length w' had hw') (fun _ => ?_)
  repeat' (first | (refine W1 ?_) | (refine W2 (fun hc => ?_) (fun hc => ?_)) | (intro _))
  refine T.append_str (rows := bRows l) rfl Tryd.underlying9 rfl rfl DelA (by unfold maxLen; omega) (by omega) (fun A4 c4 => ?_)
  repeat' (first | (refine W1 ?_) | (refine W2 (fun hc => ?_) (fun hc => ?_)) | (intro _))
  refine TX.ret_tmp2 rfl rfl rfl (fun w' hw => ⟨(A4, c4), rfl, ?_⟩)
  have e : (l ++ bs.data.toList).length = l.length + bs.size := by rw [List.length_append, Array.length_toList]; rfl
  have e2 : bRows (l ++ bs.data.toList) = bRows l ++ sRows bs := by unfold bRows sRows strCells; rw [List.map_append, List.map_map]; rfl
  rw [e]
  show St w0 (bBlk b (some ⟨b, 0, none⟩) (A4, c4) (l.length + bs.size) :: own 5 1 A4 (l.length + bs.size) c4 (bRows (l ++ bs.data.toList)) :: L0) w'
  rw [e2]
  exact St.inc IncQ hw
end Go.Proofs.YtalnmednhhimhaaDoor
/- Package quote, walked: put writes a byte's own sign. -/
namespace Go.Sl
open Go
section
variable {P : Program} {n : FD} {s : Sg} {M : World → Prop} {ty : TypeId}
theorem fdiv_pow4 : ∀ a : Nat, a < 256 → Int.fdiv (a : Int) (2 ^ 4) = ((a / 16 : Nat) : Int) := by decide +kernel
theorem Ev.shr4 {x y : Operand} {t u : TypeId} {a : Nat} (ha : a < 256) (hx : ev s x = some (.int .u8 (a : Int))) (hy : ev s y = some (.int .u64 4)) : Ev P n s M (.binOp .shr t x y u) ty (.int .u8 ((a / 16 : Nat) : Int)) := by
  refine ⟨fun ac w o ho ht hf hm => ?_⟩
  have h : (Op.shift .shr .u8 (a : Int) .u64 4).run P w = .ok (.int .u8 ((a / 16 : Nat) : Int)) w := by
    rw [← fdiv_pow4 a ha]; rfl
  simp [execOp, ho, hf.ev hx, hf.ev hy, eqGuard, binOp, h]
theorem and_15 : ∀ a : Nat, a < 256 → IntKind.u8.wrap ((BitVec.ofInt IntKind.u8.bits (a : Int) &&& BitVec.ofInt IntKind.u8.bits 15).toNat : Int) = ((a % 16 : Nat) : Int) := by decide +kernel
theorem Ev.and15 {x y : Operand} {t u : TypeId} {a : Nat} (ha : a < 256) (hx : ev s x = some (.int .u8 (a : Int))) (hy : ev s y = some (.int .u8 15)) : Ev P n s M (.binOp .and t x y u) ty (.int .u8 ((a % 16 : Nat) : Int)) := by
  refine ⟨fun ac w o ho ht hf hm => ?_⟩
  have h : (Op.intBits .and .u8 (a : Int) 15).run P w = .ok (.int .u8 ((a % 16 : Nat) : Int)) w := by
    rw [← and_15 a ha]; rfl
  simp [execOp, ho, hf.ev hx, hf.ev hy, eqGuard, binOp, h]
end
end Go.Sl
namespace Go.Bonsai
open Go
def hexD (n : Nat) : UInt8 := if n < 10 then (48 + n).toUInt8 else (87 + n).toUInt8
/-- a byte's own sign -/
def putB (left : ByteArray) (c : UInt8) : List UInt8 :=
  if plainB left (c.toNat : Int) = true then [c] else if c.toNat = 10 then [92, 110] else if c.toNat = 13 then [92, 114] else if c.toNat = 9 then [92, 116]
  else if c.toNat = 92 ∨ 0 ≤ Lib.indexByte left.data.toList ((c.toNat : Int).toNat.toUInt8) then [92, c] else [92, 120, hexD (c.toNat / 16), hexD (c.toNat % 16)]
end Go.Bonsai
namespace Go.Proofs.YtalnmednhhimhaaDoor
open Go Go.Sl Go.RowKit Go.Bonsai Go.Fl Go.Lib
set_option linter.unusedVariables false
set_option linter.unusedSimpArgs false
theorem hex_tab : ∀ a : Nat, a < 16 → (#[48, 49, 50, 51, 52, 53, 54, 55, 56, 57, 97, 98, 99, 100, 101, 102] : Array UInt8)[a]? = some (hexD a) := by decide +kernel
abbrev sf (b : Nat) : Option Addr := some ⟨b, 0, none⟩
set_option maxHeartbeats 2000000 in
set_option maxRecDepth 20000 in
theorem qput_any {w0 : World} {L0 : List HP} (b : Nat) (ad : Option Addr) (p : Option Addr × Nat) (l : List UInt8) (c : UInt8) (left : ByteArray) (w : World) (had : ad = none ∨ ad = some ⟨b, 0, none⟩) (hl : l.length ≤ 900000000) (hw : St w0 (bBlk b ad p l.length :: bOwn p l.length l :: L0) w) :
    Calls Tryd.prog 59 #[.pointer (some ⟨b, 0, none⟩), .int .u8 (c.toNat : Int), .string left] w (fun e w' => ∃ x : Option Addr × Nat, e = .returned (.tuple #[]) ∧ St w0 (bBlk b (some ⟨b, 0, none⟩) x (l ++ putB left c).length :: bOwn x (l ++ putB left c).length (l ++ putB left c) :: L0) w') := by
  have hc : c.toNat < 256 := c.toNat_lt
  refine TC.calls (l := [.pointer (some ⟨b, 0, none⟩), .int .u8 (c.toNat : Int), .string left]) (M := St w0 (bBlk b ad p l.length :: bOwn p l.length l :: L0)) Tryd.func59 rfl Tryd.ntmps59 rfl hw ?_
  have hpl := fun w' => plain_any (c.toNat : Int) left w'
  have hix := fun w' => index_any left (c.toNat : Int) w'
  cases h1 : plainB left (c.toNat : Int) with
  | true =>
    have e : putB left c = [c] := by unfold putB; rw [if_pos h1]
    rw [e]
    rw [h1] at hpl
    repeat' (first | ((apply T.callV (f := 72); exact rfl; exact rfl; exact fun w' _ => hpl w')) | (refine W1 ?_) | (refine W2 (fun hc => ?_) (fun hc => ?_)) | (intro _))
    refine T.callM (f := 57) (val := fun _ : Option Addr × Nat => .nilIface) rfl rfl (fun w' hw' => writeByte_any b ad p l c w' had (by omega) hw') (fun x => ?_)
    repeat' (first | (refine W1 ?_) | (refine W2 (fun hc => ?_) (fun hc => ?_)) | (intro _))
    exact TX.end0 rfl (fun w' hw => ⟨x, rfl, hw⟩)
  | false =>
    rw [h1] at hpl
    have hn : ¬ plainB left (c.toNat : Int) = true := by rw [h1]; simp
    by_cases c10 : c.toNat = 10
    · have e : putB left c = [92, 110] := by unfold putB; rw [if_neg hn, if_pos c10]
      have d10 : decide ((c.toNat : Int) = 10) = true := decide_eq_true (by omega)
      rw [e]
      repeat' (first | ((apply T.callV (f := 72); exact rfl; exact rfl; exact fun w' _ => hpl w')) | (refine W1 ?_) | (refine W2 (fun hc => ?_) (fun hc => ?_)) | (intro _))
      refine T.callM (f := 28) (val := fun _ : Option Addr × Nat => .tuple #[.int .i64 2, .nilIface]) rfl rfl (fun w' hw' => writeString_any b ad p l ⟨#[92, 110]⟩ w' had (by omega) (by decide) hw') (fun x => ?_)
      repeat' (first | (refine W1 ?_) | (refine W2 (fun hc => ?_) (fun hc => ?_)) | (intro _))
      exact TX.end0 rfl (fun w' hw => ⟨x, rfl, hw⟩)
    have d10 : decide ((c.toNat : Int) = 10) = false := decide_eq_false (by omega)
    by_cases c13 : c.toNat = 13
    · have e : putB left c = [92, 114] := by unfold putB; rw [if_neg hn, if_neg c10, if_pos c13]
      have d13 : decide ((c.toNat : Int) = 13) = true := decide_eq_true (by omega)
      rw [e]
      repeat' (first | ((apply T.callV (f := 72); exact rfl; exact rfl; exact fun w' _ => hpl w')) | (refine W1 ?_) | (refine W2 (fun hc => ?_) (fun hc => ?_)) | (intro _))
      refine T.callM (f := 28) (val := fun _ : Option Addr × Nat => .tuple #[.int .i64 2, .nilIface]) rfl rfl (fun w' hw' => writeString_any b ad p l ⟨#[92, 114]⟩ w' had (by omega) (by decide) hw') (fun x => ?_)
      repeat' (first | (refine W1 ?_) | (refine W2 (fun hc => ?_) (fun hc => ?_)) | (intro _))
      exact TX.end0 rfl (fun w' hw => ⟨x, rfl, hw⟩)
    have d13 : decide ((c.toNat : Int) = 13) = false := decide_eq_false (by omega)
    by_cases c9 : c.toNat = 9
    · have e : putB left c = [92, 116] := by unfold putB; rw [if_neg hn, if_neg c10, if_neg c13, if_pos c9]
      have d9 : decide ((c.toNat : Int) = 9) = true := decide_eq_true (by omega)
      rw [e]
      repeat' (first | ((apply T.callV (f := 72); exact rfl; exact rfl; exact fun w' _ => hpl w')) | (refine W1 ?_) | (refine W2 (fun hc => ?_) (fun hc => ?_)) | (intro _))
      refine T.callM (f := 28) (val := fun _ : Option Addr × Nat => .tuple #[.int .i64 2, .nilIface]) rfl rfl (fun w' hw' => writeString_any b ad p l ⟨#[92, 116]⟩ w' had (by omega) (by decide) hw') (fun x => ?_)
      repeat' (first | (refine W1 ?_) | (refine W2 (fun hc => ?_) (fun hc => ?_)) | (intro _))
      exact TX.end0 rfl (fun w' hw => ⟨x, rfl, hw⟩)
    have d9 : decide ((c.toNat : Int) = 9) = false := decide_eq_false (by omega)
    have two : putB left c = [92, c] → ∀ (x : Option Addr × Nat) w', St w0 (bBlk b (sf b) x ((l ++ [92]) ++ [c]).length :: bOwn x ((l ++ [92]) ++ [c]).length ((l ++ [92]) ++ [c]) :: L0) w' → St w0 (bBlk b (sf b) x (l ++ putB left c).length :: bOwn x (l ++ putB left c).length (l ++ putB left c) :: L0) w' := fun e x w' h => by
      rw [e]
      rwa [List.append_assoc] at h
    by_cases c92 : c.toNat = 92
    · have e : putB left c = [92, c] := by unfold putB; rw [if_neg hn, if_neg c10, if_neg c13, if_neg c9, if_pos (.inl c92)]
      have d92 : decide ((c.toNat : Int) = 92) = true := decide_eq_true (by omega)
      repeat' (first | ((apply T.callV (f := 72); exact rfl; exact rfl; exact fun w' _ => hpl w')) | (refine W1 ?_) | (refine W2 (fun hc => ?_) (fun hc => ?_)) | (intro _))
      refine T.callM (f := 57) (val := fun _ : Option Addr × Nat => .nilIface) rfl rfl (fun w' hw' => writeByte_any b ad p l 92 w' had (by omega) hw') (fun x => ?_)
      repeat' (first | (refine W1 ?_) | (refine W2 (fun hc => ?_) (fun hc => ?_)) | (intro _))
      refine T.callM (f := 57) (val := fun _ : Option Addr × Nat => .nilIface) rfl rfl (fun w' hw' => writeByte_any b (sf b) x (l ++ [92]) c w' (.inr rfl) (by simp; omega) hw') (fun x2 => ?_)
      repeat' (first | (refine W1 ?_) | (refine W2 (fun hc => ?_) (fun hc => ?_)) | (intro _))
      exact TX.end0 rfl (fun w' hw => ⟨x2, rfl, two e x2 w' hw⟩)
    have d92 : decide ((c.toNat : Int) = 92) = false := decide_eq_false (by omega)
    generalize hix2 : Lib.indexByte left.data.toList ((c.toNat : Int).toNat.toUInt8) = z at *
    by_cases cz : 0 ≤ z
    · have e : putB left c = [92, c] := by unfold putB; rw [if_neg hn, if_neg c10, if_neg c13, if_neg c9, if_pos (.inr (by rw [hix2]; exact cz))]
      have dz : decide (0 ≤ z) = true := decide_eq_true cz
      repeat' (first | ((apply T.callV (f := 72); exact rfl; exact rfl; exact fun w' _ => hpl w')) | ((apply T.callV (f := 73); exact rfl; exact rfl; exact fun w' _ => hix w')) | (refine W1 ?_) | (refine W2 (fun hc => ?_) (fun hc => ?_)) | (intro _))
      refine T.callM (f := 57) (val := fun _ : Option Addr × Nat => .nilIface) rfl rfl (fun w' hw' => writeByte_any b ad p l 92 w' had (by omega) hw') (fun x => ?_)
      repeat' (first | (refine W1 ?_) | (refine W2 (fun hc => ?_) (fun hc => ?_)) | (intro _))
      refine T.callM (f := 57) (val := fun _ : Option Addr × Nat => .nilIface) rfl rfl (fun w' hw' => writeByte_any b (sf b) x (l ++ [92]) c w' (.inr rfl) (by simp; omega) hw') (fun x2 => ?_)
      repeat' (first | (refine W1 ?_) | (refine W2 (fun hc => ?_) (fun hc => ?_)) | (intro _))
      exact TX.end0 rfl (fun w' hw => ⟨x2, rfl, two e x2 w' hw⟩)
    have dz : decide (0 ≤ z) = false := decide_eq_false cz
    have e : putB left c = [92, 120, hexD (c.toNat / 16), hexD (c.toNat % 16)] := by
      unfold putB
      rw [if_neg hn, if_neg c10, if_neg c13, if_neg c9, if_neg (by rw [hix2]; exact fun h => h.elim c92 cz)]
    have hi1 := hex_tab (c.toNat / 16) (by omega)
    have hi2 := hex_tab (c.toNat % 16) (by omega)
    repeat' (first | ((apply T.callV (f := 72); exact rfl; exact rfl; exact fun w' _ => hpl w')) | ((apply T.callV (f := 73); exact rfl; exact rfl; exact fun w' _ => hix w')) | (refine W1 ?_) | (refine W2 (fun hc => ?_) (fun hc => ?_)) | (intro _))
    refine T.callM (f := 28) (val := fun _ : Option Addr × Nat => .tuple #[.int .i64 2, .nilIface]) rfl rfl (fun w' hw' => writeString_any b ad p l ⟨#[92, 120]⟩ w' had (by omega) (by decide) hw') (fun x => ?_)
    repeat' (first | ((apply T.ev_; exact rfl; apply Ev.shr4 hc; exact rfl; exact rfl)) | ((apply T.ev_; exact rfl; apply Ev.and15 hc; exact rfl; exact rfl)) | ((apply T.ev_; exact rfl; apply Ev.str_index; exact rfl; exact rfl; exact hi1)) | ((apply T.ev_; exact rfl; apply Ev.str_index; exact rfl; exact rfl; exact hi2)) | (refine W1 ?_) | (refine W2 (fun hc => ?_) (fun hc => ?_)) | (intro _))
    refine T.callM (f := 57) (val := fun _ : Option Addr × Nat => .nilIface) rfl rfl (fun w' hw' => writeByte_any b (sf b) x (l ++ [92, 120]) (hexD (c.toNat / 16)) w' (.inr rfl) (by simp; omega) hw') (fun x2 => ?_)
    repeat' (first | ((apply T.ev_; exact rfl; apply Ev.shr4 hc; exact rfl; exact rfl)) | ((apply T.ev_; exact rfl; apply Ev.and15 hc; exact rfl; exact rfl)) | ((apply T.ev_; exact rfl; apply Ev.str_index; exact rfl; exact rfl; exact hi1)) | ((apply T.ev_; exact rfl; apply Ev.str_index; exact rfl; exact rfl; exact hi2)) | (refine W1 ?_) | (refine W2 (fun hc => ?_) (fun hc => ?_)) | (intro _))
    refine T.callM (f := 57) (val := fun _ : Option Addr × Nat => .nilIface) rfl rfl (fun w' hw' => writeByte_any b (sf b) x2 (l ++ [92, 120] ++ [hexD (c.toNat / 16)]) (hexD (c.toNat % 16)) w' (.inr rfl) (by simp; omega) hw') (fun x3 => ?_)
    repeat' (first | (refine W1 ?_) | (refine W2 (fun hc => ?_) (fun hc => ?_)) | (intro _))
    refine TX.end0 rfl (fun w' hw => ⟨x3, rfl, ?_⟩)
    rw [e, show l ++ [92, 120, hexD (c.toNat / 16), hexD (c.toNat % 16)] = l ++ [92, 120] ++ [hexD (c.toNat / 16)] ++ [hexD (c.toNat % 16)] by simp]
    exact hw
end Go.Proofs.YtalnmednhhimhaaDoor
/- strings.Builder's String, walked. -/
namespace Go.Sl
open Go Go.RowKit Go.Lib
section
variable {P : Program} {n : FD} {s : Sg} {ty : TypeId} {w0 : World} {L : List HP} {M : World → Prop}
theorem Chg.freeze {w : World} {g : Nat} {S1 : Nat → Prop} (hg : S1 g) (k : Nat) : Chg w (w.freeze ⟨g, 0, none⟩ k) S1 := by
  unfold World.freeze
  split
  · exact Chg.refl
  · exact ⟨rfl, rfl, rfl, by simp, fun b hb hn => by
      simp only [Array.getElem?_modify]
      rw [if_neg (fun e => hn (by rw [← e]; exact hg))]⟩
def hNo : HP := ⟨fun _ _ => True, fun _ h => h, fun _ h => h⟩
theorem flat_one (l : List Value) : (l.map fun v => [v]).flatten = l := by
  induction l with
  | nil => rfl
  | cons v l ih => simp only [List.map_cons, List.flatten_cons, ih]; rfl
theorem Ac.ustr {x y : Operand} {pt it e c g : Nat} {l : List UInt8} {L0 : List HP} (hp : P.underlying pt = some (.pointer e)) (hc : P.cellsOf e = 1) (h0 : l ≠ []) (hl : l.length ≤ 1000000000) (hx : ev s x = some (.pointer (some ⟨g, 0, none⟩))) (hy : ev s y = some (.int .i64 (l.length : Int)))
    (hdl : Del L (own e 1 (some ⟨g, 0, none⟩) l.length c ((l.map fun b => Value.int .u8 (b.toNat : Int)).map fun v => [v])) L0) : Ac P n s (St w0 L) (.call { callee := .builtin .unsafeString, args := #[x, y], argTypes := #[pt, it] }) ty (ι := Unit) (fun _ => .string ⟨l.toArray⟩) (fun _ => St w0 L0) := by
  refine ⟨fun a w o ho ht' hf hm => ?_⟩
  obtain ⟨S1, g1, g2, g3⟩ := (hm.del hdl).upd (H' := hNo) Upd.here
  have hS : S1 g := g2.2.2.2 g rfl
  have hcell : ∀ j x, l[j]? = some x → w.cell? ((⟨g, 0, none⟩ : Addr).add j) = some (.int .u8 x.toNat) := fun j x hj => by
    refine g2.1.cells (g := g) rfl j _ ?_
    rw [flat_one, List.getElem?_map, hj]
    rfl
  have hrow : ∃ cur : Array Value, w.heap[g]? = some (.cells cur e (0, 0)) ∧ l.length ≤ cur.size := by
    rcases g2.1.2 with ⟨hv, _⟩ | ⟨g', cap, cur, hv, _, hg, hnc, _, hcs, _⟩
    · injection hv with a1; cases a1
    · injection hv with a1 a2 a3
      injection a1 with a1
      injection a1 with a1
      subst a1
      exact ⟨cur, hg, by omega⟩
  obtain ⟨cur, hg, hcur⟩ := hrow
  have hr := run_unsafeString_row (P := P) w pt it ty e hp hc g cur.size (by simp [World.shape?, hg]) l h0 hcur (by omega) hcell
  refine ⟨(), w.freeze ⟨g, 0, none⟩ l.length, ?_, (g3 S1 (w.freeze ⟨g, 0, none⟩ l.length) (Chg.freeze hS l.length) (fun b hb => .inl hb) trivial).drop 1⟩
  simp [execOp, ho, resolve, hf.ev hx, hf.ev hy, invoke, builtin, ht', hr]
theorem Ev.usliceData {x : Operand} {t : TypeId} {a : Addr} {k c : Nat} (hx : ev s x = some (.slice (some a) k c)) (hc : c ≠ 0) : Ev P n s M (.call { callee := .builtin .unsafeSliceData, args := #[x], argTypes := #[t] }) ty (.pointer (some a)) := by
  refine ⟨fun ac w o ho ht' hf hm => ?_⟩
  have h := run_unsafeSliceData_row (P := P) w #[t] ty a k c hc
  simp [execOp, ho, resolve, hf.ev hx, invoke, builtin, ht', h]
theorem Ac.of_ev {op : Op} {v : Value} (h : Ev P n s M op ty v) : Ac P n s M op ty (ι := Unit) (fun _ => v) (fun _ => M) := ⟨fun a w o ho ht hf hm => ⟨(), w, h.go a w o ho ht hf hm, hm⟩⟩
end
end Go.Sl
namespace Go.Proofs.YtalnmednhhimhaaDoor
open Go Go.Sl Go.RowKit Go.Bonsai Go.Fl Go.Lib
set_option linter.unusedVariables false
set_option linter.unusedSimpArgs false
theorem cells_u8b : Tryd.prog.cellsOf 5 = 1 := by kernel_rfl
set_option maxRecDepth 20000 in
theorem bstr_any {w0 : World} {L0 : List HP} (b : Nat) (ad : Option Addr) (p : Option Addr × Nat) (l : List UInt8) (w : World) (h0 : l ≠ []) (hl : l.length ≤ 1000000000) (hw : St w0 (bBlk b ad p l.length :: bOwn p l.length l :: L0) w) :
    Calls Tryd.prog 31 #[.pointer (some ⟨b, 0, none⟩)] w (fun e w' => ∃ x : Unit, e = .returned (.string ⟨l.toArray⟩) ∧ St w0 L0 w') := by
  have hpos : 0 < l.length := by cases l with
    | nil => exact absurd rfl h0
    | cons _ _ => simp
  obtain ⟨A, c⟩ := p
  have hon := hw.at_all (H := bOwn (A, c) l.length l) (.there .here)
  have hAg : ∃ g, A = some ⟨g, 0, none⟩ ∧ c ≠ 0 := by
    rcases hon.1.2 with ⟨hv, h⟩ | ⟨g, cap, cur, hv, _, _, hnc, _⟩
    · omega
    · injection hv with a1 a2 a3
      exact ⟨g, a1, by omega⟩
  obtain ⟨g, rfl, hc⟩ := hAg
  refine TC.calls (l := [.pointer (some ⟨b, 0, none⟩)]) (M := St w0 (bBlk b ad (some ⟨g, 0, none⟩, c) l.length :: bOwn (some ⟨g, 0, none⟩, c) l.length l :: L0)) Tryd.func31 rfl Tryd.ntmps31 rfl hw ?_
  repeat' (first | ((refine TC.lexT [(4, .keep)] (.seg [0, 1, 2, 3, 5, 6, 7, 8, 9, 4, 10, 11] .fin) mixed (by kernel_rfl) (TT.seg rfl ?_))) | ((apply TL.keep (d := 7); exact rfl; exact rfl; exact (fun _ h => h); exact Ac.of_ev (Ev.usliceData rfl hc); exact (fun _ _ h => h))) | (refine W1 ?_) | (refine W2 (fun hc => ?_) (fun hc => ?_)) | (intro _))
  refine TL.loud rfl rfl (Ac.ustr Tryd.underlying109 cells_u8b h0 hl rfl rfl (L0 := bBlk b ad (some ⟨g, 0, none⟩, c) l.length :: L0) (by
    have e : bRows l = (l.map fun b => Value.int .u8 (b.toNat : Int)).map fun v => [v] := by unfold bRows; rw [List.map_map]; rfl
    rw [← e]
    exact .there .here)) (fun _ => ?_)
  repeat' (first | ((apply TX.tree)) | ((apply TT.fin)) | (refine W1 ?_) | (refine W2 (fun hc => ?_) (fun hc => ?_)) | (intro _))
  exact TX.ret_tmp rfl rfl (fun w' hw => ⟨(), rfl, hw.drop 1⟩)
end Go.Proofs.YtalnmednhhimhaaDoor
/- quote.Literal, walked. -/
namespace Go.Bonsai
open Go
def signsB (left : ByteArray) (l : List UInt8) : List UInt8 := l.flatMap (putB left)
def litB (s : ByteArray) : List UInt8 := [34] ++ signsB ⟨#[34]⟩ s.data.toList ++ [34]
theorem putB_len (left : ByteArray) (c : UInt8) : (putB left c).length ≤ 4 := by
  unfold putB
  repeat' split
  all_goals simp
theorem signsB_len (left : ByteArray) : ∀ l : List UInt8, (signsB left l).length ≤ 4 * l.length
  | [] => by simp [signsB]
  | c :: l => by
    have h1 := putB_len left c
    have h2 := signsB_len left l
    simp only [signsB, List.flatMap_cons, List.length_append, List.length_cons] at h2 ⊢
    omega
theorem signsB_snoc (left : ByteArray) (l : List UInt8) (c : UInt8) : signsB left (l ++ [c]) = signsB left l ++ putB left c := by simp [signsB]
end Go.Bonsai
namespace Go.Proofs.YtalnmednhhimhaaDoor
open Go Go.Sl Go.RowKit Go.Bonsai Go.Fl Go.Lib
set_option linter.unusedVariables false
set_option linter.unusedSimpArgs false
set_option maxRecDepth 20000 in
theorem literal_any (s : ByteArray) (w : World) (hs : s.size ≤ 100000000) : Calls Tryd.prog 37 #[.string s] w (RetV w (.string ⟨(litB s).toArray⟩)) := by
  refine TC.calls (l := [.string s]) Tryd.func37 rfl Tryd.ntmps37 rfl (St.start w) ?_
  have hsl : s.data.toList.length = s.size := by rw [Array.length_toList]; rfl
  repeat' (first | (refine W1 ?_) | (refine W2 (fun hc => ?_) (fun hc => ?_)) | (intro _))
  rename_i b
  refine T.callM (f := 57) (val := fun _ : Option Addr × Nat => .nilIface) rfl rfl (fun w' hw' => writeByte_any (L0 := []) b none (none, 0) [] 34 w' (.inl rfl) (by simp) (by
    have g0 : St w (bBlk b none (none, 0) 0 :: []) w' := hw'
    exact St.inc (L' := [bBlk b none (none, 0) 0, bOwn (none, 0) 0 []]) IncQ (St.own_nil (e := 5) (sz := 1) g0))) (fun x0 => ?_)
  repeat' (first | (refine W1 ?_) | (refine W2 (fun hc => ?_) (fun hc => ?_)) | (intro _))
  refine TC.loopA (ι := (Option Addr × Nat) × Nat) (x0, 0) (fun k r => (4, .int .i64 k.2) :: r)
    (fun k => St w [bBlk b (sf b) k.1 ([34] ++ signsB ⟨#[34]⟩ (s.data.toList.take k.2)).length, bOwn k.1 ([34] ++ signsB ⟨#[34]⟩ (s.data.toList.take k.2)).length ([34] ++ signsB ⟨#[34]⟩ (s.data.toList.take k.2))])
    (fun k => k.2 ≤ s.size) (fun k => s.size - k.2) KpA SubA (fun w' hw => hw) (Nat.zero_le _) ?_
  rintro ⟨x, i⟩ hi
  simp only at hi ⊢
  have hln : ([34] ++ signsB ⟨#[34]⟩ (s.data.toList.take i)).length ≤ 4 * i + 1 := by
    have := signsB_len ⟨#[34]⟩ (s.data.toList.take i)
    rw [List.length_take] at this
    rw [List.length_append, List.length_singleton]
    omega
  by_cases hlt : i < s.size
  · have hck : decide ((i : Int) < (s.size : Int)) = true := by simp [hlt]
    have hil : i < s.data.toList.length := by omega
    have hgl : s.data.toList[i]? = some s.data.toList[i] := List.getElem?_eq_getElem hil
    have htk : s.data.toList.take (i + 1) = s.data.toList.take i ++ [s.data.toList[i]] := List.take_succ_eq_append_getElem hil
    generalize s.data.toList[i] = c at *
    have hgd : s.data[i]? = some c := by rw [← Array.getElem?_toList]; exact hgl
    repeat' (first | (refine W1 ?_) | (refine W2 (fun hc => ?_) (fun hc => ?_)) | (intro _))
    refine T.callM (f := 59) (val := fun _ : Option Addr × Nat => .tuple #[]) rfl rfl (fun w' hw' => qput_any (L0 := []) b (sf b) x ([34] ++ signsB ⟨#[34]⟩ (s.data.toList.take i)) c ⟨#[34]⟩ w' (.inr rfl) (by omega) hw') (fun x2 => ?_)
    repeat' (first | (refine W1 ?_) | (refine W2 (fun hc => ?_) (fun hc => ?_)) | (intro _))
    refine TX.round (x2, i + 1) hlt (show s.size - (i + 1) < s.size - i by omega) SubA (fun w' hw => ?_)
    dsimp only
    rw [htk, signsB_snoc, ← List.append_assoc]
    exact hw
  have hck : decide ((i : Int) < (s.size : Int)) = false := by simp; omega
  obtain rfl : i = s.size := by omega
  rw [List.take_of_length_le (by omega)] at hln ⊢
  repeat' (first | (refine W1 ?_) | (refine W2 (fun hc => ?_) (fun hc => ?_)) | (intro _))
  refine T.callM (f := 57) (val := fun _ : Option Addr × Nat => .nilIface) rfl rfl (fun w' hw' => writeByte_any (L0 := []) b (sf b) x ([34] ++ signsB ⟨#[34]⟩ s.data.toList) 34 w' (.inr rfl) (by omega) hw') (fun x3 => ?_)
  repeat' (first | (refine W1 ?_) | (refine W2 (fun hc => ?_) (fun hc => ?_)) | (intro _))
  refine T.callM (f := 31) (val := fun _ : Unit => .string ⟨(litB s).toArray⟩) (LL := fun _ => []) rfl rfl (fun w' hw' => bstr_any (L0 := []) b (sf b) x3 (litB s) w' (by simp [litB]) (by simp only [litB]; rw [List.length_append, List.length_singleton]; omega) hw') (fun _ => ?_)
  repeat' (first | (refine W1 ?_) | (refine W2 (fun hc => ?_) (fun hc => ?_)) | (intro _))
  exact TX.ret_tmp rfl rfl (fun w' hw => RetV.eq hw rfl)
end Go.Proofs.YtalnmednhhimhaaDoor
/- What the kinds draw, walked: Text, Rule, And, Not, Cap. -/
namespace Go.Proofs.YtalnmednhhimhaaDoor
open Go Go.Sl Go.RowKit Go.Bonsai Go.Fl
set_option linter.unusedVariables false
set_option linter.unusedSimpArgs false
theorem RetD.cell {w0 w : World} {L : List HP} {d : Drw} {x : (Option Addr × Nat) × (Option Addr × Nat)} (hw : St w0 L w) (hi : Inc L [hStrs (.slice x.1.1 d.ss.length x.1.2) d.ss, hLabs (.slice x.2.1 d.ls.length x.2.2) d.ls]) : RetD w0 d (.returned (dVal x.1 x.2 d)) w := Ret.mk x trivial hi hw
theorem litB_len (s : ByteArray) : (litB s).length ≤ 4 * s.size + 2 := by
  have h := signsB_len ⟨#[34]⟩ s.data.toList
  have hsl : s.data.toList.length = s.size := by rw [Array.length_toList]; rfl
  unfold litB
  simp only [List.length_append, List.length_singleton]
  omega
set_option maxHeartbeats 1000000 in
theorem kText_any (n : Nod) (kv kids : Value) (w : World) (hn : n.text.size ≤ 1000000) : Calls Tryd.prog 36 #[.agg (n.cells kv).toArray, kids] w (RetD w (leafD ⟨(litB n.text).toArray⟩)) := by
  refine TC.calls (l := [.agg (n.cells kv).toArray, kids]) Tryd.func36 rfl Tryd.ntmps36 rfl (St.start w) ?_
  have hl := litB_len n.text
  have hz : (⟨(litB n.text).toArray⟩ : ByteArray).size = (litB n.text).length := by show (litB n.text).toArray.size = _; simp
  repeat' (first | ((apply T.callV (f := 37); exact rfl; exact rfl; exact fun w' _ => literal_any n.text w' (by omega))) | (refine W1 ?_) | (refine W2 (fun hc => ?_) (fun hc => ?_)) | (intro _))
  refine T.callR (f := 34) rfl rfl (fun w' hw' => rleaf_any _ w' (by omega)) (fun x _ => ?_)
  generalize leafD ⟨(litB n.text).toArray⟩ = D at *
  repeat' (first | (refine W1 ?_) | (refine W2 (fun hc => ?_) (fun hc => ?_)) | (intro _))
  refine TX.ret_gen (rs := [.cell 4 30]) (vs := [dVal x.1 x.2 D]) rfl (.cell rfl (blk_res (cs := [.int .i64 D.w, .int .i64 D.up, .int .i64 D.dn, .slice x.1.1 D.ss.length x.1.2, .slice x.2.1 D.ls.length x.2.2]) AtA rfl) .nil) (fun w' hw => ?_)
  exact RetD.cell hw (.cons .here (.cons .here .nil))
set_option maxHeartbeats 1000000 in
theorem kRule_any (n : Nod) (kv kids : Value) (w : World) (hn : n.text.size ≤ 1000000) : Calls Tryd.prog 38 #[.agg (n.cells kv).toArray, kids] w (RetD w (leafD n.text)) := by
  refine TC.calls (l := [.agg (n.cells kv).toArray, kids]) Tryd.func38 rfl Tryd.ntmps38 rfl (St.start w) ?_
  repeat' (first | (refine W1 ?_) | (refine W2 (fun hc => ?_) (fun hc => ?_)) | (intro _))
  refine T.callR (f := 34) rfl rfl (fun w' hw' => rleaf_any n.text w' (by omega)) (fun x _ => ?_)
  generalize leafD n.text = D at *
  repeat' (first | (refine W1 ?_) | (refine W2 (fun hc => ?_) (fun hc => ?_)) | (intro _))
  refine TX.ret_gen (rs := [.cell 4 30]) (vs := [dVal x.1 x.2 D]) rfl (.cell rfl (blk_res (cs := [.int .i64 D.w, .int .i64 D.up, .int .i64 D.dn, .slice x.1.1 D.ss.length x.1.2, .slice x.2.1 D.ls.length x.2.2]) AtA rfl) .nil) (fun w' hw => ?_)
  exact RetD.cell hw (.cons .here (.cons .here .nil))
set_option maxHeartbeats 1000000 in
theorem any_kAnd (n : Nod) (kv : Value) (l : List Drw) (k : Drw) (A : Option Addr) (c K : Nat) (w : World) (hr : RSl 5 RDr (Old w) w (.slice A l.length c) l) (h0 : l[0]? = some k) (hk : k.Ok K) (hK : K ≤ 100000000) :
    Calls Tryd.prog 42 #[.agg (n.cells kv).toArray, .slice A l.length c] w (RetD w (framedD ⟨#[38]⟩ k)) := by
  obtain ⟨A', c', krows, e, hA, hrows, _⟩ := hr
  injection e with e1 _ e3
  subst e1; subst e3
  obtain ⟨cs, hcs, hcr⟩ := hrows.get h0
  obtain ⟨kp, kr, rfl, hk1, hk2⟩ := hcr.open_
  have hkr : RdD w kp kr k := ⟨hk1, hk2⟩
  have hl0 : 0 < l.length := (List.getElem?_eq_some_iff.1 h0).1
  have hA' : A = some (A.getD default) := hA.some_ (by omega)
  refine TC.calls (l := [.agg (n.cells kv).toArray, .slice A l.length c]) Tryd.func42 rfl Tryd.ntmps42 rfl (St.start w) ?_
  repeat' (first | (refine W1 ?_) | (refine W2 (fun hc => ?_) (fun hc => ?_)) | (intro _))
  refine T.callR (f := 43) rfl rfl (fun w' hw' => framed_any ⟨#[38]⟩ k kp kr K w' (by decide) (hkr.old hw') hk (by omega)) (fun x _ => ?_)
  generalize framedD ⟨#[38]⟩ k = D at *
  repeat' (first | (refine W1 ?_) | (refine W2 (fun hc => ?_) (fun hc => ?_)) | (intro _))
  refine TX.ret_gen (rs := [.cell 4 30]) (vs := [dVal x.1 x.2 D]) rfl (.cell rfl (blk_res (cs := [.int .i64 D.w, .int .i64 D.up, .int .i64 D.dn, .slice x.1.1 D.ss.length x.1.2, .slice x.2.1 D.ls.length x.2.2]) AtA rfl) .nil) (fun w' hw => ?_)
  exact RetD.cell hw (.cons .here (.cons .here .nil))
set_option maxHeartbeats 1000000 in
theorem any_kNot (n : Nod) (kv : Value) (l : List Drw) (k : Drw) (A : Option Addr) (c K : Nat) (w : World) (hr : RSl 5 RDr (Old w) w (.slice A l.length c) l) (h0 : l[0]? = some k) (hk : k.Ok K) (hK : K ≤ 100000000) :
    Calls Tryd.prog 44 #[.agg (n.cells kv).toArray, .slice A l.length c] w (RetD w (framedD ⟨#[33]⟩ k)) := by
  obtain ⟨A', c', krows, e, hA, hrows, _⟩ := hr
  injection e with e1 _ e3
  subst e1; subst e3
  obtain ⟨cs, hcs, hcr⟩ := hrows.get h0
  obtain ⟨kp, kr, rfl, hk1, hk2⟩ := hcr.open_
  have hkr : RdD w kp kr k := ⟨hk1, hk2⟩
  have hl0 : 0 < l.length := (List.getElem?_eq_some_iff.1 h0).1
  have hA' : A = some (A.getD default) := hA.some_ (by omega)
  refine TC.calls (l := [.agg (n.cells kv).toArray, .slice A l.length c]) Tryd.func44 rfl Tryd.ntmps44 rfl (St.start w) ?_
  repeat' (first | (refine W1 ?_) | (refine W2 (fun hc => ?_) (fun hc => ?_)) | (intro _))
  refine T.callR (f := 43) rfl rfl (fun w' hw' => framed_any ⟨#[33]⟩ k kp kr K w' (by decide) (hkr.old hw') hk (by omega)) (fun x _ => ?_)
  generalize framedD ⟨#[33]⟩ k = D at *
  repeat' (first | (refine W1 ?_) | (refine W2 (fun hc => ?_) (fun hc => ?_)) | (intro _))
  refine TX.ret_gen (rs := [.cell 4 30]) (vs := [dVal x.1 x.2 D]) rfl (.cell rfl (blk_res (cs := [.int .i64 D.w, .int .i64 D.up, .int .i64 D.dn, .slice x.1.1 D.ss.length x.1.2, .slice x.2.1 D.ls.length x.2.2]) AtA rfl) .nil) (fun w' hw => ?_)
  exact RetD.cell hw (.cons .here (.cons .here .nil))
end Go.Proofs.YtalnmednhhimhaaDoor
/- What a Cap draws, walked. -/
namespace Go.Sl
open Go
theorem Ev.str_addE {P : Program} {n : FD} {s : Sg} {M : World → Prop} {ty : TypeId} {t u : TypeId} {x y : Operand} {a b r : ByteArray} (hr : a ++ b = r) (hx : ev s x = some (.string a)) (hy : ev s y = some (.string b)) (hl : a.size + b.size ≤ 9223372036854775807) : Ev P n s M (.binOp .add t x y u) ty (.string r) := hr ▸ Ev.str_add hx hy hl
end Go.Sl
namespace Go.Proofs.YtalnmednhhimhaaDoor
open Go Go.Sl Go.RowKit Go.Bonsai Go.Fl
set_option linter.unusedVariables false
set_option linter.unusedSimpArgs false
set_option maxHeartbeats 1000000 in
set_option maxRecDepth 20000 in
theorem any_kCap (n : Nod) (kv : Value) (l : List Drw) (k : Drw) (A : Option Addr) (c K : Nat) (w : World) (hn : n.text.size ≤ 1000000) (hr : RSl 5 RDr (Old w) w (.slice A l.length c) l) (h0 : l[0]? = some k) (hk : k.Ok K) (hK : K ≤ 100000000) :
    Calls Tryd.prog 45 #[.agg (n.cells kv).toArray, .slice A l.length c] w (RetD w (framedD (n.text ++ ⟨#[58]⟩) k)) := by
  obtain ⟨A', c', krows, e, hA, hrows, _⟩ := hr
  injection e with e1 _ e3
  subst e1; subst e3
  obtain ⟨cs, hcs, hcr⟩ := hrows.get h0
  obtain ⟨kp, kr, rfl, hk1, hk2⟩ := hcr.open_
  have hkr : RdD w kp kr k := ⟨hk1, hk2⟩
  have hl0 : 0 < l.length := (List.getElem?_eq_some_iff.1 h0).1
  have hA' : A = some (A.getD default) := hA.some_ (by omega)
  have e58 : (⟨#[58]⟩ : ByteArray).size = 1 := rfl
  have hsz : (n.text ++ (⟨#[58]⟩ : ByteArray)).size ≤ 1000000000 := by rw [ByteArray.size_append, e58]; omega
  have hl : n.text.size + (⟨#[58]⟩ : ByteArray).size ≤ 9223372036854775807 := by rw [e58]; omega
  obtain ⟨tt, htt⟩ : ∃ tt, n.text ++ (⟨#[58]⟩ : ByteArray) = tt := ⟨_, rfl⟩
  rw [htt] at hsz ⊢
  refine TC.calls (l := [.agg (n.cells kv).toArray, .slice A l.length c]) Tryd.func45 rfl Tryd.ntmps45 rfl (St.start w) ?_
  repeat' (first | ((refine TC.lexT [] (.seg [0, 1, 2, 3, 4, 5, 6, 7] .fin) mixed (by kernel_rfl) (TT.seg rfl ?_))) | ((apply TL.pure_ (d := 7); exact rfl; exact rfl; apply Ev.str_addE htt; exact rfl; exact rfl; exact hl)) | (refine W1 ?_) | (refine W2 (fun hc => ?_) (fun hc => ?_)) | (intro _))
  refine TL.kcallR (f := 43) (vs := [.string tt, dVal kp kr k]) rfl (fun w' hw' => framed_any tt k kp kr K w' hsz (hkr.old hw') hk (by omega)) rfl rfl DropA (fun x _ => ?_)
  generalize framedD tt k = D at *
  repeat' (first | ((apply TX.tree)) | ((apply TT.fin)) | (refine W1 ?_) | (refine W2 (fun hc => ?_) (fun hc => ?_)) | (intro _))
  refine TX.ret_gen (rs := [.cell 4 30]) (vs := [dVal x.1 x.2 D]) rfl (.cell rfl (blk_res (cs := [.int .i64 D.w, .int .i64 D.up, .int .i64 D.dn, .slice x.1.1 D.ss.length x.1.2, .slice x.2.1 D.ls.length x.2.2]) AtA rfl) .nil) (fun w' hw => ?_)
  exact RetD.cell hw (.cons .here (.cons .here .nil))
end Go.Proofs.YtalnmednhhimhaaDoor
/- The kinds' functions, told in a row. -/
namespace Go.Sl
open Go Go.RowKit
theorem Ev.build_arr {P : Program} {n : FD} {s : Sg} {M : World → Prop} {ty t len e sz : Nat} {cs0 cs : Array Value} {ps : List (Nat × Operand)} {vs : List (Nat × Value)} [ht : AT P t len e sz] [hz : ZV P t (.agg cs0)] (hvs : evp s ps = some vs) (hc : Instr.fill (fun i => some (i * sz, sz)) cs0 vs = some cs) :
    Ev P n s M (.build t ps.toArray) ty (.agg cs) := by
  refine ⟨fun a w o ho ht' hf hm => ?_⟩
  obtain ⟨inf, h1, h2⟩ := ht.info
  have e1 := evp_eq hf hvs
  rw [← e1] at hc
  simp [execOp, ho, Instr.build, hz.run w, run_underlying ht.und, sizeOf, typeInfo, h1, h2, Value.cells, hc]
end Go.Sl
namespace Go.Proofs.YtalnmednhhimhaaDoor
open Go Go.Sl Go.RowKit Go.Bonsai Go.Fl
set_option linter.unusedVariables false
set_option linter.unusedSimpArgs false
/-- a function without captured values -/
def fnV (f : FuncId) : Value := .func (.func f) #[] #[]
def drawsL : List Value := [fnV 32, fnV 33, fnV 36, fnV 38, fnV 39, fnV 40, fnV 41, fnV 42, fnV 44, fnV 45]
def drawsV : Value := .agg #[fnV 32, fnV 33, fnV 36, fnV 38, fnV 39, fnV 40, fnV 41, fnV 42, fnV 44, fnV 45]
theorem drawings_any (w : World) : Calls Tryd.prog 20 #[] w (RetV w drawsV) := by
  refine TC.calls (l := []) Tryd.func20 rfl Tryd.ntmps20 rfl (St.start w) ?_
  repeat' (first | (apply T.ev_; exact rfl; apply Ev.build_arr (cs := #[fnV 32, fnV 33, fnV 36, fnV 38, fnV 39, fnV 40, fnV 41, fnV 42, fnV 44, fnV 45]); exact rfl; exact rfl) | (refine W1 ?_) | (refine W2 (fun hc => ?_) (fun hc => ?_)) | (intro _))
  exact TX.ret_gen (rs := [.cell 0 72]) (vs := [drawsV]) rfl (.cell rfl (blk_res AtA rfl) .nil) (fun w' hw => RetV.eq hw rfl)
end Go.Proofs.YtalnmednhhimhaaDoor
