/-
  The helpers of layer 5's laws own and spoil: walked.
-/
import Derived.Test.YtlhkkngpppcfoaaDoorAwake5
set_option linter.all false
namespace Go.Proofs.YtlhkkngpppcfoaaDoor
open Go Go.Sl Go.RowKit Go.Bonsai
set_option linter.unusedVariables false
set_option linter.unusedSimpArgs false

set_option maxHeartbeats 4000000 in
theorem own5_any (v : Value) (t : Tre) (w : World) (hr : RTree (Old w) w v t) (ht : t.wf) : Calls Tryd.prog 62 #[v] w (RetT w t) := by
  have hr0 := hr
  obtain ⟨nv, rfl, A, c, rows0, rfl, hA, hrows, hc⟩ := hr
  have hlen := ht.len
  unfold bigN at hlen
  refine TC.calls (l := [.agg #[.slice A t.nodes.length c, .int .i64 t.root]]) Tryd.func62 rfl Tryd.ntmps62 rfl (St.start w) ?_
  have hr0l : rows0.length = t.nodes.length := hA.1
  have hone : ∀ r ∈ rows0, oneB r = true := by
    intro r hr
    obtain ⟨y, hy⟩ := List.mem_iff_getElem?.1 hr
    have hyl := (List.getElem?_eq_some_iff.1 hy).1
    obtain ⟨cs, hcs, kv, rfl, K, kc, rfl, _, _⟩ := hrows.get (List.getElem?_eq_getElem (show y < t.nodes.length by omega))
    rw [hy] at hcs
    injection hcs with hcs
    rw [hcs]; rfl
  repeat' (first | (refine W1 ?_) | (refine W2 (fun hc => ?_) (fun hc => ?_)) | (intro _))
  refine T.lit (xs := []) rfl rfl rfl (by simp) (by simp) rfl rfl (fun B5 => ?_)
  repeat' (first | (refine W1 ?_) | (refine W2 (fun hc => ?_) (fun hc => ?_)) | (intro _))
  rename_i b1 b2
  refine T.append (rows := []) (news := rows0) rfl rfl rfl DelA (fun w hw => St.old_arr hw hA) (fun _ _ => hone) (by unfold maxLen; omega) (by omega) (fun A3 c3 => ?_)
  simp only [Nat.zero_add, List.nil_append]
  repeat' (first | (refine W1 ?_) | (refine W2 (fun hc => ?_) (fun hc => ?_)) | (intro _))
  refine TC.loopA (ι := Nat × List (List Value)) (0, []) (fun k r => (4, .int .i64 k.1) :: r)
    (fun k => St w [own 34 9 A3 t.nodes.length c3 (k.2 ++ rows0.drop k.1), hRows k.2 (t.nodes.take k.1), blk b2 [.slice none 0 0, .int .i64 0] 24, blk b1 [.slice A t.nodes.length c, .int .i64 t.root] 24])
    (fun k => k.1 ≤ t.nodes.length ∧ k.2.length = k.1) (fun k => t.nodes.length - k.1) KpA SubA (fun w' hw => St.inc IncQ (St.rows_nil hw)) ⟨Nat.zero_le _, rfl⟩ ?_
  rintro ⟨i, rows⟩ ⟨hi, hrl⟩
  simp only at hi hrl ⊢
  by_cases hlt : i < t.nodes.length
  · have hck : decide ((i : Int) < (t.nodes.length : Int)) = true := by simp [hlt]
    have hns : t.nodes[i]? = some t.nodes[i] := List.getElem?_eq_getElem hlt
    obtain ⟨cs, hcs, kv, rfl, K, kc, rfl, hK, hkc⟩ := hrows.get hns
    have hwf := ht.nodes _ (List.getElem_mem hlt)
    have htk : t.nodes.take (i + 1) = t.nodes.take i ++ [t.nodes[i]] := List.take_succ_eq_append_getElem hlt
    have hdr : rows0.drop i = rows0[i] :: rows0.drop (i + 1) := List.drop_eq_getElem_cons (by omega)
    have hri : rows0[i] = t.nodes[i].cells (.slice K t.nodes[i].kids.length kc) := by
      rw [List.getElem?_eq_getElem (by omega)] at hcs
      exact Option.some.inj hcs
    rw [hri] at hdr
    generalize t.nodes[i] = n at *
    have hkl := hwf.kids.1
    unfold bigL at hkl
    have hrow : (rows ++ rows0.drop i)[i]? = some (n.cells (.slice K n.kids.length kc)) := by
      rw [List.getElem?_append_right (by omega), hrl, Nat.sub_self, hdr]; rfl
    have hset : ∀ r', (rows ++ rows0.drop i).set i r' = (rows ++ [r']) ++ rows0.drop (i + 1) := fun r' => by
      rw [List.set_append_right _ _ (by omega), hrl, Nat.sub_self, hdr]; simp
    refine TC.fact (φ := A3 = some (A3.getD default)) (fun w hw => (St.own_arr (A := A3) (n := t.nodes.length) (c := c3) (rows := rows ++ rows0.drop i) hw AtA).some_ (by omega)) (fun hA3 => ?_)
    generalize rows ++ rows0.drop i = rr at *
    repeat' (first | (refine W1 ?_) | (refine W2 (fun hc => ?_) (fun hc => ?_)) | (intro _))
    refine T.lit (xs := []) rfl rfl rfl (by simp) (by simp) rfl rfl (fun B6 => ?_)
    repeat' (first | (refine W1 ?_) | (refine W2 (fun hc => ?_) (fun hc => ?_)) | (intro _))
    refine T.append (rows := []) (news := irows n.kids) rfl rfl rfl DelA (fun w hw => St.old_arr hw hK) (fun _ _ => irows_oneB _) (by unfold maxLen; omega) (by omega) (fun A6 c6 => ?_)
    simp only [Nat.zero_add, List.nil_append]
    repeat' (first | (refine W1 ?_) | (refine W2 (fun hc => ?_) (fun hc => ?_)) | (intro _))
    refine T.storeA (i := i) (o := 8) (r := n.cells (.slice K n.kids.length kc)) rfl rfl rfl rfl rfl rfl UpdA (by omega) hrow (by simp) ?_
    rw [show splice (n.cells (.slice K n.kids.length kc)) 8 [.slice A6 n.kids.length c6] = n.cells (.slice A6 n.kids.length c6) from rfl, hset]
    repeat' (first | (refine W1 ?_) | (refine W2 (fun hc => ?_) (fun hc => ?_)) | (intro _))
    refine TX.round (i + 1, rows ++ [n.cells (.slice A6 n.kids.length c6)]) ⟨hlt, by simp [hrl]⟩ (show t.nodes.length - (i + 1) < t.nodes.length - i by omega) SubA (fun w' hw => ?_)
    have h0 := St.del (H := hRows rows (t.nodes.take i)) DelA hw
    have h1 := St.del (H := own 3 1 A6 n.kids.length c6 (irows n.kids)) DelA h0
    have h2 := St.joinX (K := hRows (rows ++ [n.cells (.slice A6 n.kids.length c6)]) (t.nodes.take (i + 1))) (fun S S' w h h' hd => by rw [htk]; exact hRows_snoc (n := n) rfl h h' hd) h1
    exact St.inc IncQ h2
  · have hck : decide ((i : Int) < (t.nodes.length : Int)) = false := by simp; omega
    obtain rfl : i = t.nodes.length := by omega
    rw [List.take_of_length_le (Nat.le_refl _), List.drop_of_length_le (by omega), List.append_nil]
    repeat' (first | (refine W1 ?_) | (refine W2 (fun hc => ?_) (fun hc => ?_)) | (intro _))
    refine TX.ret_gen (rs := [.cell 2 24]) (vs := [.agg #[.slice A3 t.nodes.length c3, .int .i64 t.root]]) rfl (.cell rfl (blk_res (cs := [.slice A3 t.nodes.length c3, .int .i64 t.root]) AtA rfl) .nil) (fun w' hw => ?_)
    have h0 := St.del (H := hRows rows t.nodes) DelA hw
    have h1 := St.del (H := own 34 9 A3 t.nodes.length c3 rows) DelA h0
    have h2 := St.joinX (K := hNodes (.slice A3 t.nodes.length c3) t.nodes) (fun S S' w h h' hd => hNodes_join h h' hd) h1
    exact Ret.mk (A3, c3) trivial IncA h2

set_option maxHeartbeats 8000000 in
theorem spoil5_any {w0 : World} {L0 : List HP} (A2 : Option Addr) (c2 e2 : Nat) (trows : List (List Value)) (ts : List Tre) (w : World) (hlt0 : ts.length ≤ 100000) (hwt : ∀ t ∈ ts, t.wf) (hw : St w0 (own e2 2 A2 ts.length c2 trows :: hTR trows ts :: L0) w) :
    Calls Tryd.prog 65 #[.slice A2 ts.length c2] w (fun e w' => ∃ x : Unit, e = .returned (.tuple #[]) ∧ St w0 L0 w') := by
  refine TC.calls (l := [.slice A2 ts.length c2]) (M := St w0 (own e2 2 A2 ts.length c2 trows :: hTR trows ts :: L0)) Tryd.func65 rfl Tryd.ntmps65 rfl hw ?_
  repeat' (first | (refine W1 ?_) | (refine W2 (fun hc => ?_) (fun hc => ?_)) | (intro _))
  refine TC.loopA (ι := Nat) 0 (fun k r => (2, .int .i64 k) :: r) (fun i => St w0 (own e2 2 A2 ts.length c2 trows :: hTR (trows.drop i) (ts.drop i) :: L0)) (fun i => i ≤ ts.length) (fun i => ts.length - i) KpA SubA (fun w' hw => by
    simp only [List.drop_zero]
    exact hw) (Nat.zero_le _) ?_
  intro i2 hi2
  by_cases hlt2 : i2 < ts.length
  case neg =>
    have hck : decide ((i2 : Int) < (ts.length : Int)) = false := by simp; omega
    repeat' (first | (refine W1 ?_) | (refine W2 (fun hc => ?_) (fun hc => ?_)) | (intro _))
    exact TX.end0 rfl (fun w' hw => ⟨(), rfl, hw.drop 2⟩)
  case pos =>
    have hckt : decide ((i2 : Int) < (ts.length : Int)) = true := by simp [hlt2]
    have hd : ts.drop i2 = ts[i2] :: ts.drop (i2 + 1) := List.drop_eq_getElem_cons hlt2
    have hwx := hwt _ (List.getElem_mem hlt2)
    generalize ts[i2] = x at *
    rw [hd]
    refine TC.ex (fun w hw => St.openTR1 (rows := trows.drop i2) (t := x) (ts := ts.drop (i2 + 1)) DelA hw) (fun y => ?_)
    obtain ⟨⟨⟨A, c⟩, rs⟩, hrs⟩ := y
    simp only at hrs
    have htrow : trows[i2]? = some [.slice A x.nodes.length c, .int .i64 x.root] := by
      have := congrArg (fun l => l[0]?) hrs
      simpa using this
    have hrs2 : rs = trows.drop (i2 + 1) := by
      have := congrArg List.tail hrs
      simpa using this.symm
    dsimp only
    rw [hrs2]
    clear hrs hrs2
    have hl := hwx.len
    have hwn : ∀ n ∈ x.nodes, n.kids.length ≤ bigL := fun n hn => (hwx.nodes n hn).kids.1
    obtain ⟨ns, root⟩ := x
    simp only at hl hwn htrow ⊢
    unfold bigN at hl
    refine TC.fact (φ := A2 = some (A2.getD default)) (fun w hw => (St.own_arr (A := A2) (n := ts.length) (c := c2) (rows := trows) hw AtA).some_ (by omega)) (fun hA2 => ?_)
    refine TC.ex (fun w hw => St.openNO (A := A) (c := c) (ns := ns) DelA hw) (fun y => ?_)
    obtain ⟨⟨e, rows⟩, hsh⟩ := y
    dsimp only at hsh ⊢
    repeat' (first | (refine W1 ?_) | (refine W2 (fun hc => ?_) (fun hc => ?_)) | (intro _))
    refine TC.loopA (ι := Nat × List (List Value) × List Nod) (0, rows, ns) (fun k r => (3, .int .i64 k.1) :: r)
      (fun k => St w0 (own e 9 A ns.length c k.2.1 :: hRows k.2.1 k.2.2 :: own e2 2 A2 ts.length c2 trows :: hTR (trows.drop (i2 + 1)) (ts.drop (i2 + 1)) :: L0))
      (fun k => k.1 ≤ ns.length ∧ k.2.2.length = ns.length ∧ (∀ m ∈ k.2.2, m.kids.length ≤ bigL) ∧ ShapeN k.2.1 k.2.2) (fun k => ns.length - k.1) KpA SubA (fun w' hw => St.inc IncQ hw) ⟨Nat.zero_le _, rfl, hwn, hsh⟩ ?_
    rintro ⟨i, rows, ms⟩ ⟨hi, hml, hmb, hsh⟩
    simp only at hi hml hmb hsh ⊢
    by_cases hlt : i < ns.length
    · have hck : decide ((i : Int) < (ns.length : Int)) = true := by simp [hlt]
      have him : i < ms.length := by omega
      have hms : ms[i]? = some ms[i] := List.getElem?_eq_getElem him
      have hkl := hmb _ (List.getElem_mem him)
      obtain ⟨K, kc, hrow⟩ := hsh.2 i _ hms
      have hset : ms = ms.set i ms[i] := by simp
      generalize ms[i] = m at *
      unfold bigL at hkl
      repeat' (first | (refine W1 ?_) | (refine W2 (fun hc => ?_) (fun hc => ?_)) | (intro _))
      refine TC.loopA (ι := Nat × List Int) (0, m.kids) (fun k r => (4, .int .i64 k.1) :: r)
        (fun k => St w0 (own e 9 A ns.length c rows :: hRows rows (ms.set i { m with kids := k.2 }) :: own e2 2 A2 ts.length c2 trows :: hTR (trows.drop (i2 + 1)) (ts.drop (i2 + 1)) :: L0))
        (fun k => k.1 ≤ m.kids.length ∧ k.2.length = m.kids.length) (fun k => m.kids.length - k.1) KpA SubA (fun w' hw => by rw [← hset]; exact St.inc IncQ hw) ⟨Nat.zero_le _, rfl⟩ ?_
      rintro ⟨k, ks⟩ ⟨hk, hks⟩
      simp only at hk hks ⊢
      by_cases hkl2 : k < m.kids.length
      · have hck2 : decide ((k : Int) < (m.kids.length : Int)) = true := by simp [hkl2]
        refine TC.fact (φ := K = some (K.getD default)) (fun w hw => ?_) (fun hK => ?_)
        · obtain ⟨S1, _, g2⟩ := hw.at_ (H := hRows rows (ms.set i { m with kids := ks })) (.there .here)
          obtain ⟨e', K', kc', hc, ho⟩ := (hRows_all g2).2 i _ { m with kids := ks } hrow (by simp [him])
          obtain ⟨rfl, _, _⟩ := cells_inj (m := { m with kids := ks }) (K := K) (a := m.kids.length) (c := kc) hc
          exact (own.arr ho).some_ (by simp only; omega)
        · repeat' (first | (refine W1 ?_) | (refine W2 (fun hc => ?_) (fun hc => ?_)) | (intro _))
          have hrow' : rows[i]? = some (({ m with kids := ks } : Nod).cells (.slice K ({ m with kids := ks } : Nod).kids.length kc)) := by rw [hrow]; simp only [hks]; rfl
          refine T.storeKid (i := i) (k := k) (kc := kc) (K := K) (m := { m with kids := ks }) rfl rfl hrow' him (by simp only; omega) (.there .here) ?_
          repeat' (first | (refine W1 ?_) | (refine W2 (fun hc => ?_) (fun hc => ?_)) | (intro _))
          exact TX.round (k + 1, ks.set k (-7)) ⟨hkl2, by simp [hks]⟩ (show m.kids.length - (k + 1) < m.kids.length - k by omega) SubA (fun w' hw => hw)
      · have hck2 : decide ((k : Int) < (m.kids.length : Int)) = false := by simp; omega
        repeat' (first | (refine W1 ?_) | (refine W2 (fun hc => ?_) (fun hc => ?_)) | (intro _))
        refine T.storeA (i := i) (o := 0) (r := m.cells (.slice K m.kids.length kc)) rfl rfl rfl rfl rfl rfl UpdA (by omega) hrow (by simp) ?_
        rw [show splice (m.cells (.slice K m.kids.length kc)) 0 [.int .u8 77] = ({ m with kind := 77, kids := ks } : Nod).cells (.slice K m.kids.length kc) from rfl]
        repeat' (first | (refine W1 ?_) | (refine W2 (fun hc => ?_) (fun hc => ?_)) | (intro _))
        refine TX.round (i + 1, rows.set i (({ m with kind := 77, kids := ks } : Nod).cells (.slice K m.kids.length kc)), ms.set i { m with kind := 77, kids := ks }) ⟨hlt, by simp [hml], ?_, ?_⟩ (show ns.length - (i + 1) < ns.length - i by omega) SubA (fun w' hw => ?_)
        · intro x hx
          rcases List.mem_or_eq_of_mem_set hx with hx | rfl
          · exact hmb x hx
          · show ks.length ≤ bigL
            unfold bigL; omega
        · refine ⟨by simp [hsh.1], fun j x hx => ?_⟩
          by_cases hij : i = j
          · subst hij
            rw [List.getElem?_set_self him] at hx
            injection hx with hx
            subst hx
            refine ⟨K, kc, ?_⟩
            rw [List.getElem?_set_self (by rw [hsh.1]; exact him)]
            simp only [hks]
          · rw [List.getElem?_set_ne hij] at hx
            obtain ⟨K', kc', h⟩ := hsh.2 j x hx
            exact ⟨K', kc', by rw [List.getElem?_set_ne hij]; exact h⟩
        · refine St.weakAt (H := hRows rows (ms.set i { m with kids := ks })) (.there .here) (fun S w h => ?_) hw
          refine ⟨by simp [h.1], ?_⟩
          have hrow' : rows[i]? = some (({ m with kids := ks } : Nod).cells (.slice K m.kids.length kc)) := by rw [hrow]; rfl
          have := kidPs_map (m := { m with kids := ks }) (r' := ({ m with kind := 77, kids := ks } : Nod).cells (.slice K m.kids.length kc)) (m' := { m with kind := 77, kids := ks }) (fun S1 ⟨e', A', c', hc, ho⟩ => by
            obtain ⟨rfl, h1, rfl⟩ := cells_inj hc
            exact ⟨e', K, kc, by rw [h1], ho⟩) h.2 hrow' (by simp [him])
          rwa [List.set_set] at this
    · have hck : decide ((i : Int) < (ns.length : Int)) = false := by simp; omega
      repeat' (first | (refine W1 ?_) | (refine W2 (fun hc => ?_) (fun hc => ?_)) | (intro _))
      exact TX.round (i2 + 1) hlt2 (by omega) SubA (fun w' hw => St.inc IncQ hw)
end Go.Proofs.YtlhkkngpppcfoaaDoor
