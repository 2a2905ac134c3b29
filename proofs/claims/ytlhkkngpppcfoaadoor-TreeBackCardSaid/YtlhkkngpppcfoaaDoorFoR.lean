/-
  The clean tree of a forest is right; what the makers come to, said of forests.
-/
import Derived.Test.YtlhkkngpppcfoaaDoorFo
set_option linter.all false
namespace Go.Bonsai

/-! ### when `right` says yes -/
theorem takeKids_some (i : Int) : ∀ (l : List Int) (tk : List Bool), i ≤ tk.length → (∀ k ∈ l, 0 ≤ k ∧ k < i) → (∀ j : Nat, (tk.getD j false).toNat + l.count (j : Int) ≤ 1) → ∃ tk', takeKids i l tk = some tk'
  | [], tk, _, _, _ => ⟨tk, rfl⟩
  | k :: l, tk, hi, hk, hc => by
    have h0 := hk k (by simp)
    have hck := hc k.toNat
    rw [show ((k.toNat : Nat) : Int) = k by omega, List.count_cons, beq_self_eq_true, if_pos rfl] at hck
    have htk : tk.getD k.toNat false = false := by
      cases hh : tk.getD k.toNat false with
      | false => rfl
      | true => rw [hh] at hck; simp at hck; omega
    unfold takeKids
    rw [if_neg (by rw [htk]; simp; omega)]
    refine takeKids_some i l _ (by simpa using hi) (fun x hx => hk x (by simp [hx])) (fun j => ?_)
    have hcj := hc j
    rw [getD_set _ _ _ _ (by omega)]
    rw [List.count_cons] at hcj
    by_cases hj : k.toNat = j
    · subst hj
      rw [if_pos rfl]
      rw [show ((k.toNat : Nat) : Int) = k by omega] at hcj ⊢
      simp at hcj ⊢
      omega
    · rw [if_neg hj]
      have : (k == (j : Int)) = false := by simp; omega
      rw [this] at hcj
      simpa using hcj

def NOk (i : Nat) (l : List Nod) : Prop := ∀ (j : Nat) n, l[j]? = some n → fits n n.kids.length = true ∧ ∀ k ∈ n.kids, 0 ≤ k ∧ k < ((i + j : Nat) : Int)
theorem takeNodes_some : ∀ (l : List Nod) (i : Nat) (tk : List Bool), i + l.length ≤ tk.length → NOk i l → (∀ j : Nat, (tk.getD j false).toNat + (allKids l).count (j : Int) ≤ 1) → ∃ tk', takeNodes i l tk = some tk'
  | [], i, tk, _, _, _ => ⟨tk, rfl⟩
  | n :: l, i, tk, hi, hn, hc => by
    simp only [List.length_cons] at hi
    have h0 := hn 0 n rfl
    simp only [allKids, List.flatMap_cons, List.count_append] at hc
    obtain ⟨t1, ht1⟩ := takeKids_some i n.kids tk (by omega) (fun k hk => by have := h0.2 k hk; omega) (fun j => by have := hc j; omega)
    have hl := takeKids_len i _ _ _ ht1
    obtain ⟨_, a2⟩ := takeKids_count i n.kids tk t1 (by omega) ht1
    obtain ⟨t2, ht2⟩ := takeNodes_some l (i + 1) t1 (by omega) (fun j m hj => ⟨(hn (j + 1) m (by simpa using hj)).1, fun k hk => by have := (hn (j + 1) m (by simpa using hj)).2 k hk; omega⟩)
      (fun j => by rw [a2 j]; have := hc j; simp only [allKids]; omega)
    refine ⟨t2, ?_⟩
    unfold takeNodes
    rw [if_pos h0.1, ht1]
    exact ht2

theorem rightP_of {t : Tre} (hr : 0 ≤ t.root ∧ t.root < t.nodes.length) (hn : NOk 0 t.nodes) (hc : ∀ i : Nat, i < t.nodes.length → (allKids t.nodes).count (i : Int) = if (i : Int) = t.root then 0 else 1) : rightP t = true := by
  have hz : ∀ j, (List.replicate t.nodes.length false).getD j false = false := fun j => by simp [List.getD_eq_getElem?_getD, List.getElem?_replicate]; split <;> rfl
  have hle : ∀ j : Nat, (allKids t.nodes).count (j : Int) ≤ 1 := by
    intro j
    by_cases hj : j < t.nodes.length
    · rw [hc j hj]; split <;> omega
    · rw [List.count_eq_zero.2]
      · omega
      · intro hm
        obtain ⟨n, hn1, hn2⟩ := List.mem_flatMap.1 hm
        obtain ⟨i, hi⟩ := List.mem_iff_getElem?.1 hn1
        have := (hn i n hi).2 _ hn2
        have := (List.getElem?_eq_some_iff.1 hi).1
        omega
  obtain ⟨tk, htk⟩ := takeNodes_some t.nodes 0 (List.replicate t.nodes.length false) (by simp) hn (fun j => by rw [hz]; have := hle j; simpa using this)
  obtain ⟨_, b⟩ := takeNodes_count t.nodes 0 _ _ (by simp) htk
  unfold rightP
  rw [htk]
  simp only [Bool.and_eq_true, decide_eq_true_eq]
  refine ⟨⟨hr.1, hr.2⟩, ?_⟩
  rw [List.all_eq_true]
  intro i hi
  have hi : i < t.nodes.length := by simpa using hi
  have hb := b i
  rw [hz, hc i hi] at hb
  by_cases h : (i : Int) = t.root
  · rw [if_pos h] at hb
    simp only [h, decide_true]
    cases hv : tk.getD i false with
    | false => rfl
    | true => rw [hv] at hb; simp at hb
  · rw [if_neg h] at hb
    simp only [h, decide_false]
    cases hv : tk.getD i false with
    | false => rw [hv] at hb; simp at hb
    | true => rfl

theorem RightT.right {t : Tre} (h : RightT t) : rightP t = true :=
  rightP_of h.root (fun i n hi => ⟨h.fits i n hi, fun k hk => by have := h.kok i n hi k hk; omega⟩) h.count
theorem rightP_iff {t : Tre} : rightP t = true ↔ RightT t := ⟨rightP_spec, RightT.right⟩

/-! ### clean arenas -/
theorem NOk.app {i : Nat} {a b : List Nod} (ha : NOk i a) (hb : NOk (i + a.length) b) : NOk i (a ++ b) := by
  intro j n hj
  by_cases h : j < a.length
  · rw [List.getElem?_append_left h] at hj
    exact ha j n hj
  · rw [List.getElem?_append_right (by omega)] at hj
    obtain ⟨h1, h2⟩ := hb _ n hj
    exact ⟨h1, fun k hk => by have := h2 k hk; omega⟩
theorem Fo.nok : ∀ (F : Fo) (o : Nat), F.fit = true → NOk o (F.ar o)
  | nil, o, _ => fun j n h => by simp [ar] at h
  | cons n k r, o, h => by
    simp only [fit, Bool.and_eq_true] at h
    have hk := nok k o h.1.2
    have hr := nok r (o + k.size + 1) h.2
    rw [ar]
    refine hk.app ?_
    rw [show ({ n with kids := k.tops o } :: r.ar (o + k.size + 1)) = [{ n with kids := k.tops o }] ++ r.ar (o + k.size + 1) from rfl]
    refine NOk.app ?_ (by rw [ar_len]; simpa [Nat.add_assoc] using hr)
    intro j m hj
    cases j with
    | zero =>
      simp at hj
      subst hj
      refine ⟨by rw [fits_kids, tops_len]; exact h.1.1, fun x hx => ?_⟩
      have := tops_mem k o x hx
      rw [ar_len]
      omega
    | succ j => simp at hj
theorem Fo.counts : ∀ (F : Fo) (o : Nat) (x : Int), (allKids (F.ar o)).count x + (F.tops o).count x = if (o : Int) ≤ x ∧ x < ((o + F.size : Nat) : Int) then 1 else 0
  | nil, o, x => by
    rw [if_neg (by simp only [size]; omega)]
    rfl
  | cons n k r, o, x => by
    have hk := counts k o x
    have hr := counts r (o + k.size + 1) x
    have e : allKids ((Fo.cons n k r).ar o) = allKids (k.ar o) ++ (k.tops o ++ allKids (r.ar (o + k.size + 1))) := by simp [allKids, ar]
    rw [e, tops, List.count_append, List.count_append, List.count_cons, size]
    by_cases h : ((o + k.size : Nat) : Int) = x
    · rw [if_neg (by omega)] at hk hr
      have hb : (((o + k.size : Nat) : Int) == x) = true := by simpa using h
      rw [hb, if_pos rfl, if_pos (by omega)]
      omega
    · have hb : (((o + k.size : Nat) : Int) == x) = false := by simpa using h
      rw [hb]
      simp only [Bool.false_eq_true, if_false]
      by_cases h1 : (o : Int) ≤ x ∧ x < ((o + k.size : Nat) : Int)
      · rw [if_pos h1] at hk
        rw [if_neg (by omega)] at hr
        rw [if_pos (by omega)]
        omega
      · rw [if_neg h1] at hk
        by_cases h2 : ((o + k.size + 1 : Nat) : Int) ≤ x ∧ x < ((o + k.size + 1 + r.size : Nat) : Int)
        · rw [if_pos h2] at hr
          rw [if_pos (by omega)]
          omega
        · rw [if_neg h2] at hr
          rw [if_neg (by omega)]
          omega
theorem right_treT {n : Nod} {k : Fo} (h : (Fo.cons n k .nil).fit = true) : rightP (treT (.cons n k .nil)) = true := by
  have hl := Fo.ar_len (.cons n k .nil) 0
  refine rightP_of ?_ (Fo.nok _ 0 h) (fun i hi => ?_)
  · simp only [treT, hl, Fo.size]; omega
  · have hc := Fo.counts (.cons n k .nil) 0 (i : Int)
    have hi : i < (Fo.cons n k .nil).size := by rw [← hl]; exact hi
    show (allKids ((Fo.cons n k .nil).ar 0)).count (i : Int) = if (i : Int) = ((Fo.cons n k .nil).size : Int) - 1 then 0 else 1
    rw [if_pos (by omega)] at hc
    simp only [Fo.tops, List.count_cons, List.count_nil] at hc
    have hsz : ((Fo.cons n k .nil).size : Int) - 1 = (k.size : Int) := by simp only [Fo.size]; omega
    by_cases he : (i : Int) = (k.size : Int)
    · rw [if_pos (he.trans hsz.symm)]
      have : (((0 + k.size : Nat) : Int) == (i : Int)) = true := by simp; omega
      rw [this] at hc
      simp at hc
      exact hc
    · rw [if_neg (fun e => he (e.trans hsz))]
      have : (((0 + k.size : Nat) : Int) == (i : Int)) = false := by simp; omega
      rw [this] at hc
      simpa using hc

/-! ### what a right tree denotes -/
theorem foOf_fit {t : Tre} (h : RightT t) : ∀ (f : Nat) (l : List Int), (∀ k ∈ l, 0 ≤ k ∧ k < f) → f ≤ t.nodes.length → (foOf t.nodes f l).fit = true
  | 0, l, _, _ => rfl
  | f + 1, l, hl, hf => by
    induction l with
    | nil => rfl
    | cons k l ih =>
      have hk := hl k (by simp)
      rw [foOf_cons, Fo.fit, ih (fun x hx => hl x (by simp [hx])), foOf_fit h f _ (fun x hx => ⟨(h.kok.chOf k x hx).1, by have := (h.kok.chOf k x hx).2; omega⟩) (by omega), Bool.and_true, Bool.and_true]
      have hlt : k.toNat < t.nodes.length := by omega
      have hg := List.getElem?_eq_getElem hlt
      have h1 := h.fits _ _ hg
      have h2 := chOf_get hg
      rw [show ((k.toNat : Nat) : Int) = k by omega] at h2
      have hlen : (foOf t.nodes f (chOf t.nodes k)).len = (chOf t.nodes k).length := by
        cases f with
        | zero =>
          cases hc : chOf t.nodes k with
          | nil => rfl
          | cons x l =>
            have := h.kok.chOf k x (by rw [hc]; simp)
            omega
        | succ f => exact foOf_len _ _ _ (by omega)
      rw [hlen, ← h2]
      simp only [dat, List.getD_eq_getElem?_getD, hg, Option.getD_some, fits_kids]
      exact h1

/-- one node over a forest -/
theorem foT_one {t : Tre} (h : RightT t) : ∃ n k, foT t = .cons n k .nil ∧ (Fo.cons n k .nil).bare ∧ (Fo.cons n k .nil).fit = true := by
  have hb := foOf_bare t.nodes t.nodes.length [t.root]
  have hf := foOf_fit h t.nodes.length [t.root] (by intro k hk; simp at hk; subst hk; exact h.root) (Nat.le_refl _)
  unfold foT
  have hp : 0 < t.nodes.length := by have := h.root; omega
  obtain ⟨f, hf'⟩ : ∃ f, t.nodes.length = f + 1 := ⟨t.nodes.length - 1, by omega⟩
  rw [hf', foOf_cons, foOf_nil] at hb hf ⊢
  exact ⟨_, _, rfl, hb, hf⟩
theorem cleanP_fo {t : Tre} (h : RightT t) : takenP t t.root = treT (foT t) := takenP_fo h h.root.1 h.root.2
theorem foT_clean {t : Tre} (h : RightT t) : RightT (treT (foT t)) ∧ foT (treT (foT t)) = foT t := by
  obtain ⟨n, k, e, hb, hf⟩ := foT_one h
  rw [e]
  exact ⟨rightP_spec (right_treT hf), foT_treT hb⟩
theorem treT_inj {n m : Nod} {k j : Fo} (hb : (Fo.cons n k .nil).bare) (hb' : (Fo.cons m j .nil).bare) (h : treT (.cons n k .nil) = treT (.cons m j .nil)) : Fo.cons n k .nil = .cons m j .nil := by
  rw [← foT_treT hb, ← foT_treT hb', h]
theorem size_fo {t : Tre} (h : RightT t) : (foT t).size = t.nodes.length := by
  unfold foT
  rw [size_dfsP, (dfsP_perm _ _ _).length_eq]
  exact (row_ok h).len

/-! ### shifting -/
theorem Fo.tops_shift : ∀ (F : Fo) (o d : Nat), (F.tops o).map (· + (d : Int)) = F.tops (o + d)
  | nil, _, _ => rfl
  | cons n k r, o, d => by
    simp only [tops, List.map_cons, tops_shift r]
    rw [show o + d + k.size + 1 = o + k.size + 1 + d by omega]
    congr 1
    omega
theorem Fo.ar_shift : ∀ (F : Fo) (o d : Nat), movedP (F.ar o) (d : Int) = F.ar (o + d)
  | nil, _, _ => rfl
  | cons n k r, o, d => by
    have hk := ar_shift k o d
    have hr := ar_shift r (o + k.size + 1) d
    simp only [movedP] at hk hr
    simp only [movedP, ar, List.map_append, List.map_cons, hk, hr, tops_shift]
    rw [show o + d + k.size + 1 = o + k.size + 1 + d by omega]
theorem Fo.ar_app : ∀ (F G : Fo) (o : Nat), (F.app G).ar o = F.ar o ++ G.ar (o + F.size)
  | nil, _, _ => by simp [app, ar, size]
  | cons n k r, G, o => by
    simp only [app, ar, ar_app r G, size, List.append_assoc, List.cons_append]
    rw [show o + (k.size + 1 + r.size) = o + k.size + 1 + r.size by omega]
theorem Fo.tops_app : ∀ (F G : Fo) (o : Nat), (F.app G).tops o = F.tops o ++ G.tops (o + F.size)
  | nil, _, _ => by simp [app, tops, size]
  | cons n k r, G, o => by
    simp only [app, tops, tops_app r G, size, List.cons_append]
    rw [show o + (k.size + 1 + r.size) = o + k.size + 1 + r.size by omega]
theorem Fo.size_app : ∀ (F G : Fo), (F.app G).size = F.size + G.size
  | nil, _ => by simp [app, size]
  | cons n k r, G => by simp only [app, size, size_app r G]; omega
theorem Fo.len_app : ∀ (F G : Fo), (F.app G).len = F.len + G.len
  | nil, _ => by simp [app, len]
  | cons n k r, G => by simp only [app, len, len_app r G]; omega
theorem Fo.fit_app : ∀ (F G : Fo), (F.app G).fit = (F.fit && G.fit)
  | nil, _ => by simp [app, fit]
  | cons n k r, G => by simp only [app, fit, fit_app r G, Bool.and_assoc]
theorem Fo.bare_app : ∀ (F G : Fo), (F.app G).bare ↔ F.bare ∧ G.bare
  | nil, _ => by simp [app, bare]
  | cons n k r, G => by simp only [app, bare, bare_app r G, and_assoc]

/-- the forest of trees -/
def foL : List Tre → Fo
  | [] => .nil
  | t :: l => (foT t).app (foL l)
theorem ofGo_fo : ∀ (l : List Tre) (F : Fo), (∀ t ∈ l, rightP t = true) → ofGo l (F.ar 0) (F.tops 0) = some ((F.app (foL l)).ar 0, (F.app (foL l)).tops 0)
  | [], F, _ => by
    have e : ∀ F : Fo, F.app .nil = F := by
      intro F
      induction F with
      | nil => rfl
      | cons n k r _ ih => rw [Fo.app, ih]
    simp [ofGo, foL, e]
  | t :: l, F, h => by
    have ht := h t (by simp)
    have hT := rightP_spec ht
    obtain ⟨n, k, e, hb, hf⟩ := foT_one hT
    have e1 : F.ar 0 ++ movedP (takenP t t.root).nodes ((F.ar 0).length) = (F.app (foT t)).ar 0 := by
      rw [cleanP_fo hT, Fo.ar_app, Fo.ar_len]
      congr 1
      exact Fo.ar_shift _ 0 _
    have e2 : F.tops 0 ++ [(((F.ar 0).length + (takenP t t.root).nodes.length : Nat) : Int) - 1] = (F.app (foT t)).tops 0 := by
      rw [cleanP_fo hT, Fo.tops_app, Fo.ar_len]
      congr 1
      simp only [treT, Fo.ar_len, e, Fo.tops, Fo.size]
      congr 1
      omega
    have ea : ∀ F G H : Fo, (F.app G).app H = F.app (G.app H) := by
      intro F G H
      induction F with
      | nil => rfl
      | cons n k r _ ih => simp only [Fo.app, ih]
    rw [ofGo, if_pos ht, e1, e2, ofGo_fo l _ (fun x hx => h x (by simp [hx])), foL, ea]
theorem ofGo_none : ∀ (l : List Tre) (a : List Nod) (ks : List Int), (¬ ∀ t ∈ l, rightP t = true) → ofGo l a ks = none
  | [], _, _, h => absurd (by simp) h
  | t :: l, a, ks, h => by
    unfold ofGo
    split
    · rename_i ht
      refine ofGo_none l _ _ (fun h2 => h fun x hx => ?_)
      rcases List.mem_cons.1 hx with rfl | hx
      · exact ht
      · exact h2 x hx
    · rfl
theorem ofP_fo {n : Nod} {l : List Tre} (hf : fits n l.length = true) (h : ∀ t ∈ l, rightP t = true) : ofP n l = (treT (.cons { n with kids := [] } (foL l) .nil), true) := by
  have hg := ofGo_fo l .nil h
  simp only [Fo.ar, Fo.tops, Fo.app] at hg
  unfold ofP
  rw [if_pos hf, hg]
  simp only [treT, Fo.ar, Fo.size, Fo.ar_len]
  congr 2
  omega
theorem ofP_no {n : Nod} {l : List Tre} (h : ¬ (fits n l.length = true ∧ ∀ t ∈ l, rightP t = true)) : ofP n l = (.zero, false) := by
  unfold ofP
  split
  · rename_i hf
    rw [ofGo_none l [] [] (fun h2 => h ⟨hf, h2⟩)]
  · rfl
theorem foL_len : ∀ (l : List Tre), (∀ t ∈ l, rightP t = true) → (foL l).len = l.length ∧ (foL l).fit = true ∧ (foL l).bare
  | [], _ => ⟨rfl, rfl, trivial⟩
  | t :: l, h => by
    obtain ⟨n, k, e, hb, hf⟩ := foT_one (rightP_spec (h t (by simp)))
    obtain ⟨h1, h2, h3⟩ := foL_len l (fun x hx => h x (by simp [hx]))
    rw [foL, Fo.len_app, Fo.fit_app, Fo.bare_app, e, h1, h2]
    exact ⟨by simp [Fo.len]; omega, by rw [hf]; rfl, hb, h3⟩
/-- what is made is right, and denotes the node over what its kids denote -/
theorem ofP_right {n : Nod} {l : List Tre} (hf : fits n l.length = true) (h : ∀ t ∈ l, rightP t = true) :
    RightT (ofP n l).1 ∧ foT (ofP n l).1 = .cons { n with kids := [] } (foL l) .nil ∧ (ofP n l).2 = true := by
  obtain ⟨h1, h2, h3⟩ := foL_len l h
  rw [ofP_fo hf h]
  refine ⟨rightP_spec (right_treT ?_), foT_treT ⟨rfl, h3, trivial⟩, rfl⟩
  simp only [Fo.fit, h1, h2, Bool.and_true]
  exact hf
/-- two right trees are the same just if they denote the same -/
theorem sameP_fo {a b : Tre} : sameP a b = true ↔ RightT a ∧ RightT b ∧ foT a = foT b := by
  unfold sameP
  simp only [Bool.and_eq_true, decide_eq_true_eq, rightP_iff]
  constructor
  · rintro ⟨⟨⟨h1, h2⟩, h3⟩, h4⟩
    refine ⟨h2, h3, ?_⟩
    rw [cleanP_fo h2, cleanP_fo h3] at h4
    obtain ⟨n, k, e, hb, hf⟩ := foT_one h2
    obtain ⟨m, j, e', hb', hf'⟩ := foT_one h3
    rw [e, e'] at h4 ⊢
    refine treT_inj hb hb' ?_
    have hs : (Fo.cons n k .nil).size = (Fo.cons m j .nil).size := by
      have h5 := congrArg List.length h4
      simpa [treT, Fo.ar_len] using h5
    simp only [treT] at h4 ⊢
    rw [h4, hs]
  · rintro ⟨h2, h3, h4⟩
    refine ⟨⟨⟨?_, h2⟩, h3⟩, by rw [cleanP_fo h2, cleanP_fo h3, h4]⟩
    rw [← size_fo h2, ← size_fo h3, h4]
end Go.Bonsai
