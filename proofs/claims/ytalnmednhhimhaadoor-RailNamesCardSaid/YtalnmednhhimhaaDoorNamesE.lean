/-
  Labels' sameness, where the points are told.
-/
import Derived.Test.YtalnmednhhimhaaDoorNamesQ
import Derived.Test.YtalnmednhhimhaaDoorShowK
import Derived.Test.YtalnmednhhimhaaDoorNum
set_option linter.all false
namespace Go.Proofs.YtalnmednhhimhaaDoor
open Go Go.Sl Go.RowKit Go.Bonsai Go.Fl
set_option linter.unusedVariables false
set_option linter.unusedSimpArgs false
theorem rlab_eq {a b c d : Nat} {i j : Int} (s : ByteArray) (ha : Den a i) (hb : Den b j) (hc : Den c i) (hd : Den d j) (w : World) : (Op.equalIn 10000 58 (.agg #[.complex .f64 a b, .string s]) (.agg #[.complex .f64 c d, .string s])).run Tryd.prog w = .ok true w := by
  have e1 : FloatKind.f64.format.order a c = some (compare i i) := order_den ha hc
  have e2 : FloatKind.f64.format.order b d = some (compare j j) := order_den hb hd
  have e3 : compare i i = .eq := Int.compare_eq_eq.2 rfl
  have e4 : compare j j = .eq := Int.compare_eq_eq.2 rfl
  rw [e3] at e1
  rw [e4] at e2
  have h1 : ∀ w, (Op.equalIn 9999 56 (.complex .f64 a b) (.complex .f64 c d)).run Tryd.prog w = .ok true w := fun w => by
    show (Op.equalIn (9998 + 1) _ _ _).run _ _ = _
    rw [Op.equalIn]
    simp [run_underlying Tryd.underlying56, Op.floatEq, e1, e2]
  have h2 : ∀ w, (isAgg 56).run Tryd.prog w = .ok false w := fun w => by simp [isAgg, run_underlying Tryd.underlying56]
  have h3 : ∀ w, (isAgg 9).run Tryd.prog w = .ok false w := fun w => by simp [isAgg, run_underlying Tryd.underlying9]
  have h5 : ∀ w, (Op.equalIn 9999 9 (.string s) (.string s)).run Tryd.prog w = .ok true w := fun w => by
    show (Op.equalIn (9998 + 1) _ _ _).run _ _ = _
    rw [Op.equalIn]
    simp [run_underlying Tryd.underlying9]
    show (s.data == s.data) = true
    exact beq_self_eq_true _
  show (Op.equalIn (9999 + 1) _ _ _).run _ _ = _
  rw [Op.equalIn]
  simp only [Sem.run_bind, run_underlying Tryd.underlying58, Result.andThen_ok]
  simp [part, h1, h2, h3, h5]
theorem Ev.rlab_eqS {n : FD} {s : Sg} {M : World → Prop} {ty u : TypeId} {x y : Operand} {a b c d : Nat} {i j : Int} {tx : ByteArray} (hx : ev s x = some (.agg #[.complex .f64 a b, .string tx])) (hy : ev s y = some (.agg #[.complex .f64 c d, .string tx])) (ha : Den a i) (hb : Den b j) (hc : Den c i) (hd : Den d j) :
    Ev Tryd.prog n s M (.binOp .eql 58 x y u) ty (.bool true) := by
  refine ⟨fun ac w o ho ht hf hm => ?_⟩
  have hg : Tryd.prog.eqGuardType Tryd.prog.depth 58 = false := by kernel_rfl
  have h := rlab_eq tx ha hb hc hd w
  simp only [execOp, ho, hf.ev hx, hf.ev hy]
  simp [run_eqGuard_agg w _ _ _ _ _ _ hg, run_eql_struct, h]
theorem ls4 {l : List (Pt × ByteArray)} {u v : ByteArray} (h1 : l.map (·.1) = [(0, 0), (2, 2), (0, 5), (2, 7)]) (h2 : (l.map (·.2))[0]? = some u) (h3 : (l.map (·.2))[2]? = some v) : ∃ t1 t3, l = [((0, 0), u), ((2, 2), t1), ((0, 5), v), ((2, 7), t3)] := by
  match l, h1, h2, h3 with
  | [(p0, a0), (p1, a1), (p2, a2), (p3, a3)], h1, h2, h3 =>
    simp at h1 h2 h3
    obtain ⟨rfl, rfl, rfl, rfl⟩ := h1
    subst h2; subst h3
    exact ⟨a1, a3, rfl⟩
theorem Ev.ceqT {n : FD} {s : Sg} {M : World → Prop} {ty : TypeId} {x y : Operand} {t u : TypeId} {a b c d : Nat} {i j : Int} (hx : ev s x = some (.complex .f64 a b)) (hy : ev s y = some (.complex .f64 c d)) (ha : Den a i) (hb : Den b j) (hc : Den c i) (hd : Den d j) : Ev Tryd.prog n s M (.binOp .eql t x y u) ty (.bool true) := by
  have h := Ev.ceql (P := Tryd.prog) (n := n) (M := M) (ty := ty) (t := t) (u := u) hx hy ha hb hc hd
  simpa using h
theorem num_itoa (x : Int) (hx : I64 x) : NumK TabI (fun x => ⟨(Lib.itoa x).toArray⟩) x := ⟨by
  have := itoa_len x hx
  show (Lib.itoa x).toArray.size ≤ 40
  rw [List.size_toArray]
  omega, fun w hk => int_any x w hx hk⟩
theorem tabI_st : KSt TabI := fun _ _ _ h hs => h.st hs
/-- Show, of the drawing that is only a size and a label between the whole points -/
theorem minS_any {w0 w : World} {L : List HP} {e B : Nat} (hw : St w0 L w) (hI : TabI w) (ho : At L (own e 2 (some ⟨B, 0, none⟩) 1 1 [[.complex .f64 4609434218613702656 13826050856027422720, .string ⟨#[116]⟩]])) : Calls Tryd.prog 19 #[dVal (none, 0) (some ⟨B, 0, none⟩, 1) minD] w (RetV w (.string ⟨#[115, 105, 122, 101, 32, 45, 49, 32, 48, 32, 48, 10, 108, 97, 98, 101, 108, 32, 49, 44, 45, 49, 32, 116, 10]⟩)) := by
  have nN : NumK TabI (fun x => ⟨(Lib.itoa x).toArray⟩) (-1) := num_itoa (-1) (by unfold I64; omega)
  have n0 : NumK TabI (fun x => ⟨(Lib.itoa x).toArray⟩) 0 := num_itoa 0 (by unfold I64; omega)
  have n1 : NumK TabI (fun x => ⟨(Lib.itoa x).toArray⟩) 1 := num_itoa 1 (by unfold I64; omega)
  have h := show_drawK TabI tabI_st (fun v p => v = .complex .f64 4609434218613702656 13826050856027422720 ∧ p = (1, -1)) (fun x => ⟨(Lib.itoa x).toArray⟩) minD (none, 0) (some ⟨B, 0, none⟩, 1) w hI ⟨none, 0, [], rfl, Arr.nil, .nil, Nat.le_refl _⟩
    ⟨_, _, [[.complex .f64 4609434218613702656 13826050856027422720, .string ⟨#[116]⟩]], rfl, St.own_arr hw ho, All2.more ⟨_, _, rfl, rfl, rfl⟩ .nil, Nat.le_refl _⟩
    ⟨nN, n0, n0, fun s hs => (by cases hs), fun l hl => ?_, (by decide), (by decide), (by rw [min1]; decide)⟩
  · rw [min1] at h
    exact h
  · simp only [minD, List.mem_singleton] at hl
    subst hl
    refine ⟨ptK_size (K := TabI) ⟨⟨by decide, by decide⟩, n1, nN⟩, by decide, fun v hv w hk => ?_⟩
    obtain ⟨rfl, _⟩ := hv
    exact rshowF TabI tabI_st _ _ _ (1, -1) w hk whole15 wholeN05 n1 nN
end Go.Proofs.YtalnmednhhimhaaDoor
