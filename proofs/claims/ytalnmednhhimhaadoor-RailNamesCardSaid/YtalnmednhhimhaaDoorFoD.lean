/-
  Depths; sizes of what is made; Nots within Nots.
-/
import Derived.Test.YtalnmednhhimhaaDoorDepth
import Derived.Test.YtalnmednhhimhaaDoorPureA
set_option linter.all false
namespace Go.Bonsai
open Go Go.Sl

theorem Fo.depth_nonneg : ∀ F : Fo, 0 ≤ F.depth
  | nil => Int.le_refl _
  | cons n k r => by
    have := depth_nonneg r
    simp only [depth]; omega
theorem Fo.depth_app : ∀ F G : Fo, (F.app G).depth = max F.depth G.depth
  | nil, G => by have := G.depth_nonneg; simp only [app, depth]; omega
  | cons n k r, G => by simp only [app, depth, depth_app r G]; omega
theorem foOf_one (ns : List Nod) (f : Nat) (k : Int) (l : List Int) : foOf ns (f + 1) (k :: l) = (foOf ns (f + 1) [k]).app (foOf ns (f + 1) l) := by
  rw [foOf_cons, foOf_cons, foOf_nil]; rfl
theorem deepKids_fo {ns : List Nod} (f : Nat) (D : List Int) : ∀ (l : List Int) (d : Int), 0 ≤ d → (∀ k ∈ l, D.getD k.toNat 0 = (foOf ns (f + 1) [k]).depth) → deepKids D d l = max d (foOf ns (f + 1) l).depth
  | [], d, h0, _ => by rw [foOf_nil, deepKids]; simp only [Fo.depth]; omega
  | k :: l, d, h0, h => by
    rw [deepKids, h k (by simp), foOf_one ns f k l, Fo.depth_app, deepKids_fo f D l _ (by omega) (fun x hx => h x (by simp [hx])), Int.max_assoc]
theorem deepGo_fo {ns : List Nod} (hk : KOk ns) : ∀ (l : List Nod) (D : List Int), ns.drop D.length = l → D.length ≤ ns.length → (∀ i : Nat, i < D.length → D.getD i 0 = (foOf ns ns.length [(i : Int)]).depth) →
    ∀ i : Nat, i < ns.length → (deepGo l D).getD i 0 = (foOf ns ns.length [(i : Int)]).depth
  | [], D, hl, hd, h, i, hi => by
    have : ns.length ≤ D.length := by rw [List.drop_eq_nil_iff] at hl; exact hl
    exact h i (by omega)
  | n :: l, D, hl, hd, h, i, hi => by
    have hlt : D.length < ns.length := by
      rcases Nat.lt_or_ge D.length ns.length with h | h
      · exact h
      · rw [List.drop_of_length_le h] at hl; cases hl
    have hnn : ns[D.length]? = some n := by
      have := congrArg (·[0]?) hl
      simpa using this
    have hch := chOf_get hnn
    rw [deepGo]
    have hval : deepKids D 0 n.kids + 1 = (foOf ns ns.length [(D.length : Int)]).depth := by
      obtain ⟨f, hf⟩ : ∃ f, ns.length = f + 1 := ⟨ns.length - 1, by omega⟩
      have hmem : ∀ k ∈ n.kids, 0 ≤ k ∧ k < (D.length : Int) := fun k hk' => hk _ n hnn k hk'
      cases f with
      | zero =>
        have : n.kids = [] := by
          cases hks : n.kids with
          | nil => rfl
          | cons x l => have := hmem x (by rw [hks]; simp); omega
        rw [hf, foOf_cons, foOf_nil, this, deepKids]
        simp only [foOf, Fo.depth]; omega
      | succ f =>
        have e1 := deepKids_fo (ns := ns) f D n.kids 0 (Int.le_refl _) (fun k hk' => by
          have hkm := hmem k hk'
          have h2 := h k.toNat (by omega)
          rw [show ((k.toNat : Nat) : Int) = k by omega] at h2
          rw [h2]
          rw [foOf_fuel hk.chOf ns.length (f + 1) [k] (by intro x hx; simp at hx; subst hx; omega) (by intro x hx; simp at hx; subst hx; omega)])
        rw [e1, hf, foOf_cons, foOf_nil, ← hch]
        have := (foOf ns (f + 1) n.kids).depth_nonneg
        simp only [Fo.depth]; omega
    refine deepGo_fo hk l (D ++ [deepKids D 0 n.kids + 1]) ?_ (by simp; omega) ?_ i hi
    · have := congrArg (List.drop 1) hl
      rw [List.drop_drop] at this
      simpa using this
    · intro j hj
      simp only [List.length_append, List.length_cons, List.length_nil] at hj
      rcases Nat.lt_or_ge j D.length with hjl | hjl
      · rw [List.getD_eq_getElem?_getD, List.getElem?_append_left hjl, ← List.getD_eq_getElem?_getD]
        exact h j hjl
      · obtain rfl : j = D.length := by omega
        rw [List.getD_eq_getElem?_getD, List.getElem?_append_right (Nat.le_refl _), Nat.sub_self]
        exact hval
theorem depthP_fo {t : Tre} (h : RightT t) : depthP t = (foT t).depth := by
  have hr := h.root
  unfold depthP
  rw [if_pos h.right, deepGo_fo h.kok t.nodes [] rfl (Nat.zero_le _) (fun i hi => absurd hi (Nat.not_lt_zero _)) t.root.toNat (by omega), show ((t.root.toNat : Nat) : Int) = t.root by omega]
  rfl

/-! ### what is made is no more than a slice holds -/
def Fo.dwf : Fo → Prop
  | nil => True
  | cons n k r => ({ n with kids := [] } : Nod).wf ∧ k.dwf ∧ r.dwf
theorem Fo.dwf_app : ∀ F G : Fo, (F.app G).dwf ↔ F.dwf ∧ G.dwf
  | nil, G => by simp [app, dwf]
  | cons n k r, G => by simp only [app, dwf, dwf_app r G, and_assoc]
theorem Fo.len_le : ∀ F : Fo, F.len ≤ F.size
  | nil => Nat.le_refl _
  | cons n k r => by have := len_le r; simp only [len, size]; omega
theorem Fo.ar_wf : ∀ (F : Fo) (o : Nat), F.dwf → o + F.size ≤ bigN → ∀ n ∈ F.ar o, n.wf
  | nil, o, _, _, n, h => by simp [ar] at h
  | cons n k r, o, hd, hs, m, h => by
    obtain ⟨h1, h2, h3⟩ := hd
    simp only [size] at hs
    simp only [ar, List.mem_append, List.mem_cons] at h
    rcases h with h | rfl | h
    · exact ar_wf k o h2 (by omega) m h
    · refine ⟨h1.kind, h1.set, h1.text, h1.min, h1.max, ?_, fun x hx => ?_⟩
      · rw [tops_len]
        have := len_le k
        unfold bigN at hs
        unfold bigL; omega
      · have := tops_mem k o x hx
        unfold bigN at hs
        unfold I64; omega
    · exact ar_wf r _ h3 (by omega) m h
theorem Nod.wf.wf0 {n : Nod} (h : n.wf) : ({ n with kids := [] } : Nod).wf := ⟨h.kind, h.set, h.text, h.min, h.max, ⟨by simp, by simp⟩⟩
theorem foOf_dwf {ns : List Nod} (hn : ∀ n ∈ ns, n.wf) : ∀ (f : Nat) (l : List Int), (foOf ns f l).dwf
  | 0, l => trivial
  | f + 1, l => by
    induction l with
    | nil => exact trivial
    | cons k l ih =>
      refine ⟨?_, foOf_dwf hn f _, ih⟩
      show Nod.wf { ns.getD k.toNat .zero with kids := [] }
      rw [List.getD_eq_getElem?_getD]
      cases hg : ns[k.toNat]? with
      | some m => exact (hn m (List.mem_of_getElem? hg)).wf0
      | none => exact Nod.zero_wf.wf0
theorem foL_dwf : ∀ {l : List Tre}, (∀ t ∈ l, t.wf) → (foL l).dwf
  | [], _ => trivial
  | t :: l, h => (Fo.dwf_app _ _).2 ⟨foOf_dwf (h t (by simp)).nodes _ _, foL_dwf fun x hx => h x (by simp [hx])⟩
theorem foL_size : ∀ {l : List Tre}, (∀ t ∈ l, rightP t = true) → (foL l).size = tot l
  | [], _ => rfl
  | t :: l, h => by rw [foL, Fo.size_app, tot_cons, size_fo (rightP_spec (h t (by simp))), foL_size fun x hx => h x (by simp [hx])]
theorem treT_wf {F : Fo} (h : F.dwf) (hs : F.size ≤ bigN) : (treT F).wf := by
  refine ⟨by show (F.ar 0).length ≤ bigN; rw [Fo.ar_len]; exact hs, Fo.ar_wf F 0 h (by omega), ?_⟩
  show I64 ((F.size : Int) - 1)
  unfold bigN at hs
  unfold I64; omega
theorem Tre.zero_wf : Tre.zero.wf := ⟨by decide, by simp [Tre.zero], by unfold I64; decide⟩
theorem ofP_wf {n : Nod} {l : List Tre} (hn : n.wf) (hl : ∀ t ∈ l, t.wf) (ht : tot l + 1 ≤ bigN) : (ofP n l).1.wf := by
  by_cases h : fits n l.length = true ∧ ∀ t ∈ l, rightP t = true
  · rw [ofP_fo h.1 h.2]
    refine treT_wf ⟨hn.wf0, foL_dwf hl, trivial⟩ ?_
    simp only [Fo.size, foL_size h.2]
    omega
  · rw [ofP_no h]
    exact Tre.zero_wf
theorem ofP_len {n : Nod} {l : List Tre} : (ofP n l).1.nodes.length ≤ tot l + 1 := by
  by_cases h : fits n l.length = true ∧ ∀ t ∈ l, rightP t = true
  · rw [ofP_fo h.1 h.2]
    show (Fo.ar 0 _).length ≤ _
    rw [Fo.ar_len]
    simp only [Fo.size, foL_size h.2]
    omega
  · rw [ofP_no h]
    exact Nat.zero_le _

/-! ### Nots -/
def chainF : Nat → Fo
  | 0 => .cons emptyN .nil .nil
  | k + 1 => .cons notN (chainF k) .nil
theorem chain_one (k : Nat) : ∃ n F, chainF k = .cons n F .nil := by cases k <;> exact ⟨_, _, rfl⟩
theorem chain_bare : ∀ k, (chainF k).bare
  | 0 => ⟨rfl, trivial, trivial⟩
  | k + 1 => ⟨rfl, chain_bare k, trivial⟩
theorem chain_len (k : Nat) : (chainF k).len = 1 := by cases k <;> rfl
theorem chain_fit : ∀ k, (chainF k).fit = true
  | 0 => by decide
  | k + 1 => by
    simp only [chainF, Fo.fit, chain_len, chain_fit k, Bool.and_true]
    decide
theorem chain_size : ∀ k, (chainF k).size = k + 1
  | 0 => rfl
  | k + 1 => by simp only [chainF, Fo.size, chain_size k]
theorem chain_depth : ∀ k : Nat, (chainF k).depth = (k : Int) + 1
  | 0 => rfl
  | k + 1 => by simp only [chainF, Fo.depth, chain_depth k]; omega
theorem chain_right (k : Nat) : rightP (treT (chainF k)) = true := by
  obtain ⟨n, F, e⟩ := chain_one k
  have := chain_fit k
  rw [e] at this ⊢
  exact right_treT this
theorem foT_chain (k : Nat) : foT (treT (chainF k)) = chainF k := by
  obtain ⟨n, F, e⟩ := chain_one k
  have := chain_bare k
  rw [e] at this ⊢
  exact foT_treT this
theorem notsP_chain : ∀ k, notsP k = treT (chainF k)
  | 0 => rfl
  | k + 1 => by
    rw [notsP, notsP_chain k, ofP_fo (by show fits notN 1 = true; decide) (by intro t ht; simp at ht; subst ht; exact chain_right k)]
    show treT (.cons _ ((foT (treT (chainF k))).app .nil) .nil) = _
    have e : ∀ F : Fo, F.app .nil = F := by
      intro F
      induction F with
      | nil => rfl
      | cons n k r _ ih => rw [Fo.app, ih]
    rw [e, foT_chain]
    rfl
theorem notsP_len (k : Nat) : (notsP k).nodes.length = k + 1 := by
  rw [notsP_chain]
  show (Fo.ar 0 _).length = _
  rw [Fo.ar_len, chain_size]
theorem emptyN_wf : emptyN.wf := ⟨by decide, by unfold Bts.wf; decide, by decide, by unfold I64; decide, by unfold I64; decide, ⟨by decide, by simp [emptyN]⟩⟩
theorem notN_wf : notN.wf := ⟨by decide, by unfold Bts.wf; decide, by decide, by unfold I64; decide, by unfold I64; decide, ⟨by decide, by simp [notN]⟩⟩
theorem chain_dwf : ∀ k, (chainF k).dwf
  | 0 => ⟨emptyN_wf.wf0, trivial, trivial⟩
  | k + 1 => ⟨notN_wf.wf0, chain_dwf k, trivial⟩
theorem notsP_wf (k : Nat) (h : k < 1000000) : (notsP k).wf := by
  rw [notsP_chain]
  exact treT_wf (chain_dwf k) (by rw [chain_size]; unfold bigN; omega)
theorem notsP_right (k : Nat) : rightP (notsP k) = true := by rw [notsP_chain]; exact chain_right k
theorem notsP_depth (k : Nat) : depthP (notsP k) = (k : Int) + 1 := by
  rw [depthP_fo (rightP_spec (notsP_right k)), notsP_chain, foT_chain, chain_depth]
theorem notsP_may (k : Nat) : mayP (notsP k) = decide (k ≤ 31) := by
  unfold mayP
  rw [notsP_right, notsP_depth, notsP_len, Bool.eq_iff_iff]
  simp
  omega
end Go.Bonsai
