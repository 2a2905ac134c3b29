/-
  bonsailaw04.spoil, walked: it writes over a tree of the caller's own, and over nothing else.
-/
import Derived.Test.YtlhkkngpppcfoaaDoorTrees
set_option linter.all false
namespace Go.Sl
open Go.RowKit
theorem Inc.refl : ∀ L : List HP, Inc L L
  | [] => .nil
  | _ :: L => .cons .here (Inc.refl L)
theorem IncL {L L' : List HP} (h : Inc L L' := by repeat' (first | exact Inc.refl _ | exact Inc.nil | refine Inc.cons DelA ?_)) : Inc L L' := h
theorem Chg.mono {w w' : World} {S S' : Nat → Prop} (h : ∀ b, S b → S' b) (hc : Chg w w' S) : Chg w w' S' := ⟨hc.os, hc.tape, hc.output, hc.size, fun b hb hn => hc.block b hb (fun hs => hn (h b hs))⟩
end Go.Sl
namespace Go.Bonsai
open Go Go.Sl Go.RowKit
theorem cells_inj {m : Nod} {K A : Option Addr} {a b c d : Nat} (h : m.cells (.slice K a c) = m.cells (.slice A b d)) : K = A ∧ a = b ∧ c = d := by
  have := congrArg (fun l => l[8]?) h
  simpa [Nod.cells] using this
theorem kidPs_store {P : Program} {w : World} {v : Int} {K : Option Addr} {k kc : Nat} {m : Nod} (hk : k < m.kids.length) : ∀ {rows : List (List Value)} {ns : List Nod} {S : Nat → Prop} {i : Nat}, (∀ b, S b → b < w.heap.size) → Sep (kidPs rows ns) S w →
    rows[i]? = some (m.cells (.slice K m.kids.length kc)) → ns[i]? = some m →
    ∃ w', (storeCells ((K.getD default).add (k * 1 + 0)) [.int .i64 v]).run P w = .ok () w' ∧ Chg w w' S ∧ Sep (kidPs rows (ns.set i { m with kids := m.kids.set k v })) S w'
  | [], _, _, i, _, _, h, _ => by simp at h
  | _ :: _, [], _, i, _, _, _, h => by simp at h
  | r0 :: rs, n0 :: ns, S, 0, hS, ⟨S1, h1, ⟨e, A, c, hc, ho⟩, h4⟩, hr, hn => by
    simp at hr hn
    subst hr; subst hn
    obtain ⟨rfl, _, rfl⟩ := cells_inj hc
    obtain ⟨w', g1, g2, g3⟩ := own.store (P := P) ho (i := k) (o := 0) (vs := [.int .i64 v]) (irows_get (List.getElem?_eq_getElem hk)) (by simp) rfl (by simp)
    refine ⟨w', g1, g2.mono h1, S1, h1, ⟨e, K, kc, by simp [Nod.cells], ?_⟩, h4.keep (fun _ h => h) (fun b hb => g2.block b (hS b hb.1) hb.2)⟩
    simp only [List.length_set]
    rw [irows_set]
    exact g3
  | r0 :: rs, n0 :: ns, S, i + 1, hS, ⟨S1, h1, h2, h4⟩, hr, hn => by
    obtain ⟨w', g1, g2, g3⟩ := kidPs_store (P := P) (v := v) hk (fun b hb => hS b hb.1) h4 (by simpa using hr) (by simpa using hn)
    exact ⟨w', g1, g2.mono fun b hb => hb.1, S1, h1, HP.loc _ (fun b hb => g2.block b (hS b (h1 b hb)) (fun hx => hx.2 hb)) h2, g3⟩
theorem kidPs_map {w : World} {r r' : List Value} {m m' : Nod} (hi : ∀ S1, RNodeF S1 w r m → RNodeF S1 w r' m') : ∀ {rows : List (List Value)} {ns : List Nod} {S : Nat → Prop} {i : Nat}, Sep (kidPs rows ns) S w →
    rows[i]? = some r → ns[i]? = some m → Sep (kidPs (rows.set i r') (ns.set i m')) S w
  | [], _, _, i, _, h, _ => by simp at h
  | _ :: _, [], _, i, _, _, h => by simp at h
  | r0 :: rs, n0 :: ns, S, 0, ⟨S1, h1, h2, h4⟩, hr, hn => by
    simp at hr hn
    subst hr; subst hn
    exact ⟨S1, h1, hi S1 h2, h4⟩
  | r0 :: rs, n0 :: ns, S, i + 1, ⟨S1, h1, h2, h4⟩, hr, hn => ⟨S1, h1, h2, kidPs_map hi h4 (by simpa using hr) (by simpa using hn)⟩
/-- each row is its node's cells -/
def ShapeN (rows : List (List Value)) (ns : List Nod) : Prop := rows.length = ns.length ∧ ∀ (i : Nat) m, ns[i]? = some m → ∃ K kc, rows[i]? = some (m.cells (.slice K m.kids.length kc))
theorem St.openOwn {w0 w : World} {L : List HP} {A : Option Addr} {c : Nat} {ns : List Nod} (h : St w0 (hNodes (.slice A ns.length c) ns :: L) w) :
    ∃ x : { x : Nat × List (List Value) // ShapeN x.2 ns }, St w0 (own x.1.1 9 A ns.length c x.1.2 :: hRows x.1.2 ns :: L) w := by
  obtain ⟨hb, S1, h1, ⟨e, A', c', rows, S2, eq, hs, ho, hr⟩, h3⟩ := h
  injection eq with e1 e2 e3
  subst e1; subst e3
  refine ⟨⟨(e, rows), hr.1, fun i m hm => ?_⟩, hb, S2, fun b hb => h1 b (hs b hb), ho, fun b => S1 b ∧ ¬ S2 b, fun b hb => ⟨h1 b hb.1, hb.2⟩, hr, h3.keep (fun b hb => ⟨⟨hb.1, fun h => hb.2 (hs b h)⟩, fun h => hb.2 h.1⟩) (fun _ _ => rfl)⟩
  have hi : i < rows.length := by rw [hr.1]; exact (List.getElem?_eq_some_iff.1 hm).1
  obtain ⟨e', K, kc, hc, _⟩ := (hRows_all hr).2 i _ m (List.getElem?_eq_getElem hi) hm
  exact ⟨K, kc, by rw [List.getElem?_eq_getElem hi, hc]⟩
section
variable {P : Program} {n : FD} {s : Sg} {ty : TypeId} {w0 : World} {L L' : List HP}
theorem Ac.storeKid {x y : Operand} {t i k kc : Nat} {v : Int} {K : Option Addr} {rows : List (List Value)} {ns : List Nod} {m : Nod} [hs : SZ P t 1] (hx : ev s x = some (.pointer (some ((K.getD default).add (k * 1))))) (hy : ev s y = some (.int .i64 v))
    (hr : rows[i]? = some (m.cells (.slice K m.kids.length kc))) (hi : i < ns.length) (hk : k < m.kids.length)
    (hu : Upd L (hRows rows (ns.set i m)) (hRows rows (ns.set i { m with kids := m.kids.set k v })) L') : AcN P n s (St w0 L) (.store t x y) ty (ι := Unit) (fun _ => St w0 L') := by
  refine ⟨fun a w oo hoo ht hf hm => ?_⟩
  obtain ⟨S1, g1, g2, g3⟩ := hm.upd hu
  obtain ⟨j, hi1, hi2⟩ := hs.info
  obtain ⟨w', q1, q2, q3⟩ := kidPs_store (P := P) (v := v) hk (fun b hb => (g1 b hb).2) g2.2 hr (by simp [hi])
  rw [List.set_set] at q3
  refine ⟨(), w', .inl ?_, g3 S1 w' q2 (fun b hb => .inl hb) ⟨by simpa using g2.1, q3⟩⟩
  simp only [Nat.add_zero, Nat.mul_one] at q1
  simp [execOp, hoo, hf.ev hx, hf.ev hy, Instr.storeAt, Instr.sureAddr, storeVar, sizeOf, typeInfo, hi1, hi2, Value.cells, q1]
theorem T.storeKid {ops : Array Oper} {Q : Exit → Act → World → Prop} {rest : List Oper} {pos : String} {af : Array Edge} {x y : Operand} {t i k kc : Nat} {v : Int} {K : Option Addr} {rows : List (List Value)} {ns : List Nod} {m : Nod} [hs : SZ P t 1] (hx : ev s x = some (.pointer (some ((K.getD default).add (k * 1))))) (hy : ev s y = some (.int .i64 v))
    (hr : rows[i]? = some (m.cells (.slice K m.kids.length kc))) (hi : i < ns.length) (hk : k < m.kids.length)
    (hu : Upd L (hRows rows (ns.set i m)) (hRows rows (ns.set i { m with kids := m.kids.set k v })) L') (c : T P ops Q rest n s (St w0 L')) : T P ops Q (⟨none, .store t x y, ty, pos, af, none⟩ :: rest) n s (St w0 L) :=
  T.actN (Ac.storeKid hx hy hr hi hk hu) (fun _ => c)
end
end Go.Bonsai
namespace Go.Proofs.YtlhkkngpppcfoaaDoor
open Go Go.Sl Go.RowKit Go.Bonsai
set_option linter.unusedVariables false
set_option linter.unusedSimpArgs false

theorem spoil_any {w0 : World} {L0 : List HP} (A : Option Addr) (c : Nat) (ns : List Nod) (root : Int) (w : World) (hl : ns.length ≤ bigN) (hwn : ∀ n ∈ ns, n.kids.length ≤ bigL) (hw : St w0 (hNodes (.slice A ns.length c) ns :: L0) w) :
    Calls Tryd.prog 31 #[.agg #[.slice A ns.length c, .int .i64 root]] w (fun e w' => ∃ x : Unit, e = .returned (.tuple #[]) ∧ St w0 L0 w') := by
  unfold bigN at hl
  refine TC.calls (l := [.agg #[.slice A ns.length c, .int .i64 root]]) (M := St w0 (hNodes (.slice A ns.length c) ns :: L0)) Tryd.func31 rfl Tryd.ntmps31 rfl hw ?_
  refine TC.ex (fun w hw => St.openOwn hw) (fun x => ?_)
  obtain ⟨⟨e, rows⟩, hsh⟩ := x
  dsimp only at hsh ⊢
  repeat' (first | (refine W1 ?_) | (refine W2 (fun hc => ?_) (fun hc => ?_)) | (intro _))
  rename_i b1
  refine TC.loopA (ι := Nat × List (List Value) × List Nod) (0, rows, ns) (fun k r => (2, .int .i64 k.1) :: r)
    (fun k => St w0 (own e 9 A ns.length c k.2.1 :: hRows k.2.1 k.2.2 :: blk b1 [.slice A ns.length c, .int .i64 root] 24 :: L0))
    (fun k => k.1 ≤ ns.length ∧ k.2.2.length = ns.length ∧ (∀ m ∈ k.2.2, m.kids.length ≤ bigL) ∧ ShapeN k.2.1 k.2.2) (fun k => ns.length - k.1) KpA SubA (fun w' hw => St.inc IncL hw) ⟨Nat.zero_le _, rfl, hwn, hsh⟩ ?_
  rintro ⟨i, rows, ms⟩ ⟨hi, hml, hmb, hsh⟩
  simp only at hi hml hmb hsh ⊢
  by_cases hlt : i < ns.length
  · have hck : decide ((i : Int) < (ns.length : Int)) = true := by simp [hlt]
    have him : i < ms.length := by omega
    have hms : ms[i]? = some ms[i] := List.getElem?_eq_getElem him
    have hkl := hmb _ (List.getElem_mem him)
    obtain ⟨K, kc, hrow⟩ := hsh.2 i _ hms
    have hset : ms = ms.set i ms[i] := by simp
    generalize ms[i] = m at *
    unfold bigL at hkl
    repeat' (first | (refine W1 ?_) | (refine W2 (fun hc => ?_) (fun hc => ?_)) | (intro _))
    refine TC.loopA (ι := Nat × List Int) (0, m.kids) (fun k r => (3, .int .i64 k.1) :: r)
      (fun k => St w0 (own e 9 A ns.length c rows :: hRows rows (ms.set i { m with kids := k.2 }) :: blk b1 [.slice A ns.length c, .int .i64 root] 24 :: L0))
      (fun k => k.1 ≤ m.kids.length ∧ k.2.length = m.kids.length) (fun k => m.kids.length - k.1) KpA SubA (fun w' hw => by rw [← hset]; exact St.inc IncL hw) ⟨Nat.zero_le _, rfl⟩ ?_
    rintro ⟨k, ks⟩ ⟨hk, hks⟩
    simp only at hk hks ⊢
    by_cases hkl2 : k < m.kids.length
    · have hck2 : decide ((k : Int) < (m.kids.length : Int)) = true := by simp [hkl2]
      refine TC.fact (φ := K = some (K.getD default)) (fun w hw => ?_) (fun hK => ?_)
      · obtain ⟨S1, _, g2⟩ := hw.at_ (H := hRows rows (ms.set i { m with kids := ks })) (.there .here)
        obtain ⟨e', K', kc', hc, ho⟩ := (hRows_all g2).2 i _ { m with kids := ks } hrow (by simp [him])
        obtain ⟨rfl, _, _⟩ := cells_inj (m := { m with kids := ks }) (K := K) (a := m.kids.length) (c := kc) hc
        exact (own.arr ho).some_ (by simp only; omega)
      · repeat' (first | (refine W1 ?_) | (refine W2 (fun hc => ?_) (fun hc => ?_)) | (intro _))
        have hrow' : rows[i]? = some (({ m with kids := ks } : Nod).cells (.slice K ({ m with kids := ks } : Nod).kids.length kc)) := by rw [hrow]; simp only [hks]; rfl
        refine T.storeKid (i := i) (k := k) (kc := kc) (K := K) (m := { m with kids := ks }) rfl rfl hrow' him (by simp only; omega) (.there .here) ?_
        repeat' (first | (refine W1 ?_) | (refine W2 (fun hc => ?_) (fun hc => ?_)) | (intro _))
        exact TX.round (k + 1, ks.set k (-7)) ⟨hkl2, by simp [hks]⟩ (show m.kids.length - (k + 1) < m.kids.length - k by omega) SubA (fun w' hw => hw)
    · have hck2 : decide ((k : Int) < (m.kids.length : Int)) = false := by simp; omega
      repeat' (first | (refine W1 ?_) | (refine W2 (fun hc => ?_) (fun hc => ?_)) | (intro _))
      refine T.storeA (i := i) (o := 0) (r := m.cells (.slice K m.kids.length kc)) rfl rfl rfl rfl rfl rfl UpdA (by omega) hrow (by simp) ?_
      rw [show splice (m.cells (.slice K m.kids.length kc)) 0 [.int .u8 77] = ({ m with kind := 77, kids := ks } : Nod).cells (.slice K m.kids.length kc) from rfl]
      repeat' (first | (refine W1 ?_) | (refine W2 (fun hc => ?_) (fun hc => ?_)) | (intro _))
      refine TX.round (i + 1, rows.set i (({ m with kind := 77, kids := ks } : Nod).cells (.slice K m.kids.length kc)), ms.set i { m with kind := 77, kids := ks }) ⟨hlt, by simp [hml], ?_, ?_⟩ (show ns.length - (i + 1) < ns.length - i by omega) SubA (fun w' hw => ?_)
      · intro x hx
        rcases List.mem_or_eq_of_mem_set hx with hx | rfl
        · exact hmb x hx
        · show ks.length ≤ bigL
          unfold bigL; omega
      · refine ⟨by simp [hsh.1], fun j x hx => ?_⟩
        by_cases hij : i = j
        · subst hij
          rw [List.getElem?_set_self him] at hx
          injection hx with hx
          subst hx
          refine ⟨K, kc, ?_⟩
          rw [List.getElem?_set_self (by rw [hsh.1]; exact him)]
          simp only [hks]
        · rw [List.getElem?_set_ne hij] at hx
          obtain ⟨K', kc', h⟩ := hsh.2 j x hx
          exact ⟨K', kc', by rw [List.getElem?_set_ne hij]; exact h⟩
      · refine St.weakAt (H := hRows rows (ms.set i { m with kids := ks })) (.there .here) (fun S w h => ?_) hw
        refine ⟨by simp [h.1], ?_⟩
        have hrow' : rows[i]? = some (({ m with kids := ks } : Nod).cells (.slice K m.kids.length kc)) := by rw [hrow]; rfl
        have := kidPs_map (m := { m with kids := ks }) (r' := ({ m with kind := 77, kids := ks } : Nod).cells (.slice K m.kids.length kc)) (m' := { m with kind := 77, kids := ks }) (fun S1 ⟨e', A', c', hc, ho⟩ => by
          obtain ⟨rfl, h1, rfl⟩ := cells_inj hc
          exact ⟨e', K, kc, by rw [h1], ho⟩) h.2 hrow' (by simp [him])
        rwa [List.set_set] at this
  · have hck : decide ((i : Int) < (ns.length : Int)) = false := by simp; omega
    repeat' (first | (refine W1 ?_) | (refine W2 (fun hc => ?_) (fun hc => ?_)) | (intro _))
    exact TX.end0 rfl (fun w' hw => ⟨(), rfl, hw.drop 3⟩)
end Go.Proofs.YtlhkkngpppcfoaaDoor
