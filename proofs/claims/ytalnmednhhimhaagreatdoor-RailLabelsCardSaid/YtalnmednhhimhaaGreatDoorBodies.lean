/-
  The law's bodies and names, walked.
-/
import Derived.Test.YtalnmednhhimhaaGreatDoorSheet
set_option linter.all false
namespace Go.Bonsai
open Go Go.Sl Go.RowKit
/-- the rows of the first bodies -/
def bodR (rows : List (List Value)) : List (List Value) := (rows.take 600).map (·.drop 1)
def bodT (l : List Row) : List Tre := (l.take 600).map (·.2)
theorem bodR_step {rows : List (List Value)} {i : Nat} {r : List Value} (h : rows[i]? = some r) (hi : i < 600) : (bodR rows).take (i + 1) = (bodR rows).take i ++ [r.drop 1] := by
  have hlt := (List.getElem?_eq_some_iff.1 h).1
  have hb : (bodR rows)[i]? = some (r.drop 1) := by
    unfold bodR
    rw [List.getElem?_map, List.getElem?_take, if_pos hi, h]
    rfl
  have hbl := (List.getElem?_eq_some_iff.1 hb).1
  rw [List.take_succ_eq_append_getElem hbl]
  rw [List.getElem?_eq_getElem hbl] at hb
  rw [Option.some.inj hb]
theorem bodR_len {rows : List (List Value)} {n : Nat} (h : rows.length = n) : (bodR rows).length = min 600 n := by simp [bodR, h]
theorem bodT_len (l : List Row) : (bodT l).length = min 600 l.length := by simp [bodT]
theorem bodT_wf {l : List Row} (h : ∀ r ∈ l, r.2.wf) : ∀ t ∈ bodT l, t.wf := by
  intro t ht
  simp only [bodT, List.mem_map] at ht
  obtain ⟨r, hr, rfl⟩ := ht
  exact h r (List.mem_of_mem_take hr)
theorem bod_all {S : Nat → Prop} {w : World} {rows : List (List Value)} {l : List Row} (h : All2 (RRow S w) rows l) : All2 (RTreeC S w) (bodR rows) (bodT l) := by
  refine ⟨by rw [bodR_len h.1, bodT_len], fun i r t hr ht => ?_⟩
  simp only [bodR, bodT, List.getElem?_map, List.getElem?_take] at hr ht
  split at hr
  · rename_i hi
    rw [if_pos hi] at ht
    cases hc : rows[i]? with
    | none => rw [hc] at hr; cases hr
    | some c =>
      cases hx : l[i]? with
      | none => rw [hx] at ht; cases ht
      | some x =>
        rw [hc] at hr; rw [hx] at ht
        simp only [Option.map_some, Option.some.injEq] at hr ht
        obtain ⟨A, k, rfl, h1⟩ := h.2 i c x hc hx
        subst hr; subst ht
        exact ⟨A, k, rfl, h1⟩
  · cases hr
end Go.Bonsai
namespace Go.Proofs.YtalnmednhhimhaaGreatDoor
open Go Go.Sl Go.RowKit Go.Bonsai
set_option linter.unusedVariables false
set_option linter.unusedSimpArgs false
set_option maxHeartbeats 2000000 in
set_option maxRecDepth 100000 in
theorem bodies_any (l : List Row) (A : Option Addr) (c : Nat) (rows : List (List Value)) (w : World) (hA : Arr 3 (Old w) w A l.length rows) (hrows : All2 (RRow (Old w) w) rows l) : Calls Tryz.prog 14 #[.agg #[.slice A l.length c]] w (Ret w (fun p : Option Addr × Nat => .slice p.1 (bodT l).length p.2) (fun p => [own 27 2 p.1 (bodT l).length p.2 (bodR rows)]) (fun _ => True)) := by
  refine TC.calls (l := [.agg #[.slice A l.length c]]) Tryz.func14 rfl Tryz.ntmps14 rfl (St.start w) ?_
  have hbl := bodT_len l
  have hrl := bodR_len hA.1
  repeat' (first | (refine W1 ?_) | (refine W2 (fun hc => ?_) (fun hc => ?_)) | (intro _))
  rename_i b1
  refine TC.loopA (ι := Nat × (Option Addr × Nat)) (0, (none, 0)) (fun k r => (4, .int .i64 k.1) :: (3, .slice k.2.1 k.1 k.2.2) :: r) (fun k => St w [own 27 2 k.2.1 k.1 k.2.2 ((bodR rows).take k.1), blk b1 [.slice A l.length c] 56]) (fun k => k.1 ≤ (bodT l).length) (fun k => (bodT l).length - k.1) KpA SubA (fun w' hw => St.own_nil (e := 27) (sz := 2) hw) (Nat.zero_le _) ?_
  rintro ⟨i, p⟩ hi
  simp only at hi ⊢
  by_cases hlt : i < l.length
  · have hck : decide ((i : Int) < (l.length : Int)) = true := decide_eq_true (by omega)
    by_cases h6 : i < 600
    · have hc6 : decide ((i : Int) < 600) = true := decide_eq_true (by omega)
      obtain ⟨cs, hcs, K, kc, rfl, Kn⟩ := hrows.get (List.getElem?_eq_getElem hlt)
      have hst := bodR_step hcs h6
      generalize l[i] = r at *
      have hA' : A = some (A.getD default) := hA.some_ (by omega)
      repeat' (first | ((apply T.ev_ (d := 22); exact rfl; apply Ev.elemP (i := i) (o := 1) (sz := 3) (A := A) (rows := rows) (cs := [.slice K r.2.nodes.length kc, .int .i64 r.2.root]); exact rfl; exact rfl; (exact fun w' hw' => St.old_arr hw' hA); exact hcs; exact rfl; exact rfl)) | (refine W1 ?_) | (refine W2 (fun hc => ?_) (fun hc => ?_)) | (intro _))
      rename_i B
      refine T.act rfl (Ac.append (rows := (bodR rows).take i) (news := [[.slice K r.2.nodes.length kc, .int .i64 r.2.root]]) rfl rfl DelA (fun w hw => St.own_arr hw AtA) (fun _ _ r hr => by simp at hr; subst hr; rfl) (by unfold maxLen; omega) (by omega)) (fun q => ?_)
      repeat' (first | (refine W1 ?_) | (refine W2 (fun hc => ?_) (fun hc => ?_)) | (intro _))
      refine TX.round (i + 1, q) (by simp only; omega) (show (bodT l).length - (i + 1) < (bodT l).length - i by omega) SubA (fun w' hw => ?_)
      dsimp only
      rw [hst]
      have g : St w (own 27 2 q.1 (i + 1) q.2 ((bodR rows).take i ++ [[.slice K r.2.nodes.length kc, .int .i64 r.2.root]]) :: _ :: blk b1 [.slice A l.length c] 56 :: []) w' := hw
      exact St.inc IncQ g
    · have hc6 : decide ((i : Int) < 600) = false := decide_eq_false (by omega)
      obtain rfl : i = (bodT l).length := by omega
      repeat' (first | (refine W1 ?_) | (refine W2 (fun hc => ?_) (fun hc => ?_)) | (intro _))
      refine TX.ret_tmp rfl rfl (fun w' hw => ?_)
      have e : (bodR rows).take (bodT l).length = bodR rows := List.take_of_length_le (by omega)
      have g : St w [own 27 2 p.1 (bodT l).length p.2 ((bodR rows).take (bodT l).length), blk b1 [.slice A l.length c] 56] w' := hw
      rw [e] at g
      exact Ret.mk (val := fun p : Option Addr × Nat => .slice p.1 (bodT l).length p.2) p trivial (.cons .here .nil) g
  · have hck : decide ((i : Int) < (l.length : Int)) = false := decide_eq_false (by omega)
    obtain rfl : i = (bodT l).length := by omega
    repeat' (first | (refine W1 ?_) | (refine W2 (fun hc => ?_) (fun hc => ?_)) | (intro _))
    refine TX.ret_tmp rfl rfl (fun w' hw => ?_)
    have e : (bodR rows).take (bodT l).length = bodR rows := List.take_of_length_le (by omega)
    have g : St w [own 27 2 p.1 (bodT l).length p.2 ((bodR rows).take (bodT l).length), blk b1 [.slice A l.length c] 56] w' := hw
    rw [e] at g
    exact Ret.mk (val := fun p : Option Addr × Nat => .slice p.1 (bodT l).length p.2) p trivial (.cons .here .nil) g
set_option maxHeartbeats 2000000 in
set_option maxRecDepth 100000 in
theorem names_any (l : List Row) (A : Option Addr) (c : Nat) (rows : List (List Value)) (w : World) (hl : l.length ≤ 4398046511104) (hA : Arr 3 (Old w) w A l.length rows) (hrows : All2 (RRow (Old w) w) rows l) : Calls Tryz.prog 15 #[.agg #[.slice A l.length c]] w (Ret w (fun n : Int => .int .i64 n) (fun _ => []) (fun n => n < 5000 → ∀ r ∈ l, (r.1.size : Int) ≤ n)) := by
  refine TC.calls (l := [.agg #[.slice A l.length c]]) Tryz.func15 rfl Tryz.ntmps15 rfl (St.start w) ?_
  repeat' (first | (refine W1 ?_) | (refine W2 (fun hc => ?_) (fun hc => ?_)) | (intro _))
  rename_i b1
  refine TC.loopA (ι := Nat × Int) (0, 0) (fun k r => (4, .int .i64 k.1) :: (3, .int .i64 k.2) :: r) (fun _ => St w [blk b1 [.slice A l.length c] 56]) (fun k => k.1 ≤ l.length ∧ 0 ≤ k.2 ∧ k.2 ≤ 10000 ∧ (k.2 < 5000 → ∀ r ∈ l.take k.1, (r.1.size : Int) ≤ k.2)) (fun k => l.length - k.1) KpA SubA (fun w' hw => hw) ⟨Nat.zero_le _, Int.le_refl _, by simp, fun _ r hr => by cases hr⟩ ?_
  rintro ⟨i, n⟩ ⟨hi, hn0, hn1, hn2⟩
  simp only at hi hn0 hn1 hn2 ⊢
  by_cases hlt : i < l.length
  · have hck : decide ((i : Int) < (l.length : Int)) = true := decide_eq_true (by omega)
    by_cases h6 : n < 5000
    · have hc6 : decide (n < 5000) = true := decide_eq_true h6
      obtain ⟨cs, hcs, K, kc, rfl, Kn⟩ := hrows.get (List.getElem?_eq_getElem hlt)
      have htk := List.take_succ_eq_append_getElem hlt
      generalize l[i] = r at *
      have hA' : A = some (A.getD default) := hA.some_ (by omega)
      have hI : I64 (n + min 5000 (r.1.size : Int)) := by unfold I64; omega
      repeat' (first | (refine W1 ?_) | (refine W2 (fun hc => ?_) (fun hc => ?_)) | (intro _))
      refine TX.round (i + 1, n + min 5000 (r.1.size : Int)) ⟨hlt, by simp only; omega, by simp only; omega, fun h q hq => ?_⟩ (show l.length - (i + 1) < l.length - i by omega) SubA (fun w' hw => hw)
      simp only at h hq ⊢
      rw [htk] at hq
      rcases List.mem_append.1 hq with hq | hq
      · have := hn2 h6 q hq; omega
      · rw [List.mem_singleton] at hq; subst hq; omega
    · have hc6 : decide (n < 5000) = false := decide_eq_false h6
      repeat' (first | (refine W1 ?_) | (refine W2 (fun hc => ?_) (fun hc => ?_)) | (intro _))
      refine TX.ret_tmp rfl rfl (fun w' hw => ?_)
      exact Ret.mk (val := fun n : Int => .int .i64 n) n (fun h => absurd h h6) .nil hw
  · have hck : decide ((i : Int) < (l.length : Int)) = false := decide_eq_false (by omega)
    obtain rfl : i = l.length := by omega
    rw [List.take_of_length_le (Nat.le_refl _)] at hn2
    repeat' (first | (refine W1 ?_) | (refine W2 (fun hc => ?_) (fun hc => ?_)) | (intro _))
    refine TX.ret_tmp rfl rfl (fun w' hw => ?_)
    exact Ret.mk (val := fun n : Int => .int .i64 n) n hn2 .nil hw
end Go.Proofs.YtalnmednhhimhaaGreatDoor
