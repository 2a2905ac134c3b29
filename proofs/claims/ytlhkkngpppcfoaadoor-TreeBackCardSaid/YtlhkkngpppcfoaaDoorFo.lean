/-
  Trees as forests: what an arena denotes, and the clean arena of a forest.
-/
import Derived.Test.YtlhkkngpppcfoaaDoorMake
set_option linter.all false
namespace Go.Bonsai

inductive Fo where
  | nil
  | cons (n : Nod) (k r : Fo)
deriving DecidableEq

def Fo.size : Fo → Nat
  | nil => 0
  | cons _ k r => k.size + 1 + r.size
def Fo.len : Fo → Nat
  | nil => 0
  | cons _ _ r => r.len + 1
/-- the roots' numbers, the arena beginning at o -/
def Fo.tops : Nat → Fo → List Int
  | _, nil => []
  | o, cons _ k r => ((o + k.size : Nat) : Int) :: r.tops (o + k.size + 1)
/-- the clean arena, beginning at o -/
def Fo.ar : Nat → Fo → List Nod
  | _, nil => []
  | o, cons n k r => k.ar o ++ { n with kids := k.tops o } :: r.ar (o + k.size + 1)
def Fo.fit : Fo → Bool
  | nil => true
  | cons n k r => fits n k.len && k.fit && r.fit
/-- no node has numbers of its own -/
def Fo.bare : Fo → Prop
  | nil => True
  | cons n k r => n.kids = [] ∧ k.bare ∧ r.bare
def Fo.depth : Fo → Int
  | nil => 0
  | cons _ k r => max (k.depth + 1) r.depth
def Fo.app : Fo → Fo → Fo
  | nil, g => g
  | cons n k r, g => cons n k (r.app g)

def dat (ns : List Nod) (k : Int) : Nod := { ns.getD k.toNat .zero with kids := [] }
def foOf (ns : List Nod) : Nat → List Int → Fo
  | 0, _ => .nil
  | f + 1, l => l.foldr (fun k r => .cons (dat ns k) (foOf ns f (chOf ns k)) r) .nil
/-- what a tree denotes -/
def foT (t : Tre) : Fo := foOf t.nodes t.nodes.length [t.root]
/-- the clean tree of a node over a forest -/
def treT (F : Fo) : Tre := ⟨F.ar 0, (F.size : Int) - 1⟩

theorem fits_kids (n : Nod) (ks : List Int) (c : Int) : fits { n with kids := ks } c = fits n c := rfl
theorem foOf_nil (ns : List Nod) (f : Nat) : foOf ns f [] = .nil := by cases f <;> rfl
theorem foOf_cons (ns : List Nod) (f : Nat) (k : Int) (l : List Int) : foOf ns (f + 1) (k :: l) = .cons (dat ns k) (foOf ns f (chOf ns k)) (foOf ns (f + 1) l) := rfl

theorem Fo.ar_len : ∀ (F : Fo) (o : Nat), (F.ar o).length = F.size
  | nil, _ => rfl
  | cons n k r, o => by simp [ar, size, ar_len k, ar_len r]; omega
theorem Fo.tops_len : ∀ (F : Fo) (o : Nat), (F.tops o).length = F.len
  | nil, _ => rfl
  | cons n k r, o => by simp [tops, len, tops_len r]
theorem Fo.tops_mem : ∀ (F : Fo) (o : Nat), ∀ x ∈ F.tops o, (o : Int) ≤ x ∧ x < ((o + F.size : Nat) : Int)
  | nil, _, x, h => by simp [tops] at h
  | cons n k r, o, x, h => by
    simp only [tops, List.mem_cons] at h
    simp only [size]
    rcases h with rfl | h
    · omega
    · have := tops_mem r _ x h
      omega
theorem foOf_bare (ns : List Nod) : ∀ (f : Nat) (l : List Int), (foOf ns f l).bare
  | 0, l => trivial
  | f + 1, l => by
    induction l with
    | nil => exact trivial
    | cons k l ih => exact ⟨rfl, foOf_bare ns f _, ih⟩
theorem foOf_len (ns : List Nod) : ∀ (f : Nat) (l : List Int), 0 < f → (foOf ns f l).len = l.length
  | 0, l, h => by omega
  | f + 1, l, h => by
    induction l with
    | nil => rfl
    | cons k l ih => rw [foOf_cons, Fo.len, ih]; rfl
theorem foOf_fuel {ns : List Nod} (h : ChOk (chOf ns)) : ∀ (f g : Nat) (l : List Int), (∀ k ∈ l, 0 ≤ k ∧ k < f) → (∀ k ∈ l, k < g) → foOf ns f l = foOf ns g l
  | 0, g, l, hf, hg => by
    cases l with
    | nil => rw [foOf_nil, foOf_nil]
    | cons k l => have := hf k (by simp); omega
  | f + 1, 0, l, hf, hg => by
    cases l with
    | nil => rw [foOf_nil, foOf_nil]
    | cons k l =>
      have := hf k (by simp)
      have := hg k (by simp)
      omega
  | f + 1, g + 1, l, hf, hg => by
    induction l with
    | nil => rfl
    | cons k l ih =>
      have h1 := hf k (by simp)
      have h2 := hg k (by simp)
      rw [foOf_cons, foOf_cons, ih (fun x hx => hf x (by simp [hx])) (fun x hx => hg x (by simp [hx])),
        foOf_fuel h f g (chOf ns k) (fun x hx => ⟨(h k x hx).1, by have := (h k x hx).2; omega⟩) (fun x hx => by have := (h k x hx).2; omega)]

/-! ### taking out -/
theorem getD_setI (l : List Int) (i j : Nat) (b : Int) : (l.set i b).getD j 0 = if i = j ∧ i < l.length then b else l.getD j 0 := by
  simp only [List.getD_eq_getElem?_getD, List.getElem?_set]
  by_cases h : i = j
  · subst h
    by_cases hl : i < l.length
    · simp [hl]
    · simp [hl]
  · simp [h]

theorem takenGo_fo {ns : List Nod} (hc : ChOk (chOf ns)) : ∀ (f : Nat) (l : List Int) (i : Nat) (pl rest : List Int), (∀ k ∈ l, 0 ≤ k ∧ k < f) → f ≤ ns.length → pl.length = ns.length → (dfsP (chOf ns) f l).Nodup →
    ∃ pl' : List Int, pl'.length = ns.length ∧ takenGo ns i pl (dfsP (chOf ns) f l ++ rest) = (foOf ns f l).ar i ++ takenGo ns (i + (foOf ns f l).size) pl' rest ∧
      (l.map fun x => pl'.getD x.toNat 0) = (foOf ns f l).tops i ∧ ∀ x : Int, 0 ≤ x → x ∉ dfsP (chOf ns) f l → pl'.getD x.toNat 0 = pl.getD x.toNat 0
  | 0, l, i, pl, rest, hl, hf, hp, hn => by
    cases l with
    | nil => exact ⟨pl, hp, by simp [dfsP_nil, foOf_nil, Fo.ar, Fo.size], rfl, fun _ _ _ => rfl⟩
    | cons k l => have := hl k (by simp); omega
  | f + 1, [], i, pl, rest, hl, hf, hp, hn => ⟨pl, hp, by simp [dfsP_nil, foOf_nil, Fo.ar, Fo.size], rfl, fun _ _ _ => rfl⟩
  | f + 1, k :: l, i, pl, rest, hl, hf, hp, hn => by
    have hk := hl k (by simp)
    have hchk : ∀ x ∈ chOf ns k, 0 ≤ x ∧ x < (f : Int) := fun x hx => ⟨(hc k x hx).1, by have := (hc k x hx).2; omega⟩
    have e : dfsP (chOf ns) (f + 1) (k :: l) = dfsP (chOf ns) f (chOf ns k) ++ (k :: dfsP (chOf ns) (f + 1) l) := by simp [dfsP]
    rw [e] at hn ⊢
    obtain ⟨n1, n2, n3⟩ := List.nodup_append.1 hn
    obtain ⟨n4, n5⟩ := List.nodup_cons.1 n2
    obtain ⟨p1, q1, q2, q3, q4⟩ := takenGo_fo hc f (chOf ns k) i pl (k :: dfsP (chOf ns) (f + 1) l ++ rest) hchk (by omega) hp n1
    have hkl : k.toNat < p1.length := by omega
    obtain ⟨p2, r1, r2, r3, r4⟩ := takenGo_fo hc (f + 1) l (i + (foOf ns f (chOf ns k)).size + 1) (p1.set k.toNat ((i + (foOf ns f (chOf ns k)).size : Nat) : Int)) rest (fun x hx => hl x (by simp [hx])) hf (by simpa using q1) n5
    have hkd : ns.getD k.toNat .zero = { dat ns k with kids := chOf ns k } := by
      have : k.toNat < ns.length := by omega
      have h2 := List.getElem?_eq_getElem this
      have h3 := chOf_get h2
      rw [show ((k.toNat : Nat) : Int) = k by omega] at h3
      simp only [dat, List.getD_eq_getElem?_getD, h2, Option.getD_some]
      rw [← h3]
    have hks : (chOf ns k).map (fun x => (p1.set k.toNat ((i + (foOf ns f (chOf ns k)).size : Nat) : Int)).getD x.toNat 0) = (foOf ns f (chOf ns k)).tops i := by
      rw [← q3]
      apply List.map_congr_left
      intro x hx
      have := hchk x hx
      have := (hc k x hx).2
      rw [getD_setI, if_neg (by omega)]
    refine ⟨p2, r1, ?_, ?_, ?_⟩
    · rw [List.append_assoc, q2]
      simp only [List.cons_append, takenGo]
      rw [r2, hkd, foOf_cons]
      simp only [Fo.ar, Fo.size, hks, List.append_assoc, List.cons_append]
      rw [show i + ((foOf ns f (chOf ns k)).size + 1 + (foOf ns (f + 1) l).size) = i + (foOf ns f (chOf ns k)).size + 1 + (foOf ns (f + 1) l).size by omega]
    · rw [foOf_cons, Fo.tops, List.map_cons, r3, r4 k hk.1 n4, getD_setI, if_pos ⟨rfl, hkl⟩]
    · intro x h0 hx
      simp only [List.mem_append, List.mem_cons, not_or] at hx
      rw [r4 x h0 hx.2.2, getD_setI, if_neg (by omega), q4 x h0 hx.1]

theorem size_dfsP (ns : List Nod) : ∀ (f : Nat) (l : List Int), (foOf ns f l).size = (dfsP (chOf ns) f l).length
  | 0, l => rfl
  | f + 1, l => by
    induction l with
    | nil => rfl
    | cons k l ih =>
      rw [foOf_cons, Fo.size, ih, size_dfsP ns f]
      simp [dfsP]; omega

/-- each number once, below any node -/
theorem dfs_nodup_at {t : Tre} (h : RightT t) {node : Int} (h0 : 0 ≤ node) (hn : node < t.nodes.length) : (dfsP (chOf t.nodes) t.nodes.length [node]).Nodup := by
  rw [(dfsP_perm _ _ _).nodup_iff]
  have hr := row_ok h
  have key : ∀ (m : Nat) (l : List Int), (∀ k ∈ l, 0 ≤ k ∧ k < m) → m ≤ t.nodes.length → (dfs (chOf t.nodes) t.nodes.length l).Nodup → ∀ y ∈ dfs (chOf t.nodes) t.nodes.length l, (dfs (chOf t.nodes) t.nodes.length [y]).Nodup := by
    intro m
    induction m with
    | zero =>
      intro l hl _ _ y hy
      cases l with
      | nil => rw [dfs_nil] at hy; cases hy
      | cons k l => have := hl k (by simp); omega
    | succ m ihm =>
      intro l hl hm hnd y hy
      induction l with
      | nil => rw [dfs_nil] at hy; cases hy
      | cons k l ih =>
        have hk := hl k (by simp)
        rw [dfs_cons h.kok.chOf hk.1 (by omega)] at hy hnd
        obtain ⟨a1, a2⟩ := List.nodup_cons.1 hnd
        obtain ⟨b1, b2, b3⟩ := List.nodup_append.1 a2
        rcases List.mem_cons.1 hy with rfl | hy
        · rw [dfs_cons h.kok.chOf hk.1 (by omega), dfs_nil, List.append_nil]
          exact List.nodup_cons.2 ⟨fun hh => a1 (by simp [hh]), b1⟩
        · rcases List.mem_append.1 hy with hy | hy
          · exact ihm (chOf t.nodes k) (fun x hx => ⟨(h.kok.chOf k x hx).1, by have := (h.kok.chOf k x hx).2; omega⟩) (by omega) b1 y hy
          · exact ih (fun x hx => hl x (by simp [hx])) b2 hy
  exact key t.nodes.length [t.root] (by intro k hk; simp at hk; subst hk; exact h.root) (Nat.le_refl _) hr.nodup node ((hr.mem node).2 ⟨h0, hn⟩)

/-- what is taken is the clean tree of what stands there -/
theorem takenP_fo {t : Tre} (h : RightT t) {node : Int} (h0 : 0 ≤ node) (hn : node < t.nodes.length) : takenP t node = treT (foOf t.nodes t.nodes.length [node]) := by
  obtain ⟨pl, h1, h2, h3, h4⟩ := takenGo_fo h.kok.chOf t.nodes.length [node] 0 (List.replicate t.nodes.length 0) [] (by intro k hk; simp at hk; subst hk; exact ⟨h0, hn⟩) (Nat.le_refl _) (by simp) (dfs_nodup_at h h0 hn)
  unfold takenP treT behindP
  rw [size_dfsP]
  simp only [List.append_nil] at h2
  rw [h2]
  simp [takenGo]

/-! ### the clean arena denotes its forest -/
theorem foOf_ar : ∀ (F : Fo), F.bare → ∀ (f : Nat) (pre post : List Nod), pre.length + F.size ≤ f → foOf (pre ++ (F.ar pre.length ++ post)) f (F.tops pre.length) = F
  | .nil, _, f, pre, post, _ => by simp [Fo.tops, foOf_nil]
  | .cons n k r, hb, 0, pre, post, hf => by simp [Fo.size] at hf
  | .cons n k r, hb, f + 1, pre, post, hf => by
    obtain ⟨b1, b2, b3⟩ := hb
    simp only [Fo.size] at hf
    have ek := foOf_ar k b2 f pre ({ n with kids := k.tops pre.length } :: r.ar (pre.length + k.size + 1) ++ post) (by omega)
    have el : (pre ++ (k.ar pre.length ++ [{ n with kids := k.tops pre.length }])).length = pre.length + k.size + 1 := by simp [Fo.ar_len]; omega
    have er := foOf_ar r b3 (f + 1) (pre ++ (k.ar pre.length ++ [{ n with kids := k.tops pre.length }])) post (by rw [el]; omega)
    rw [el] at er
    have e1 : pre ++ ((Fo.cons n k r).ar pre.length ++ post) = pre ++ (k.ar pre.length ++ ({ n with kids := k.tops pre.length } :: r.ar (pre.length + k.size + 1) ++ post)) := by simp [Fo.ar]
    have e2 : pre ++ ((Fo.cons n k r).ar pre.length ++ post) = pre ++ (k.ar pre.length ++ [{ n with kids := k.tops pre.length }]) ++ (r.ar (pre.length + k.size + 1) ++ post) := by simp [Fo.ar]
    rw [← e1] at ek
    rw [← e2] at er
    have hget : (pre ++ ((Fo.cons n k r).ar pre.length ++ post))[pre.length + k.size]? = some { n with kids := k.tops pre.length } := by
      rw [e1, List.getElem?_append_right (by omega), Nat.add_sub_cancel_left, List.getElem?_append_right (by rw [Fo.ar_len]; omega), Fo.ar_len, Nat.sub_self]
      rfl
    have hch := chOf_get hget
    simp only at hch
    rw [Fo.tops, foOf_cons, er, ← hch, ek]
    congr 1
    simp only [dat, Int.toNat_natCast, List.getD_eq_getElem?_getD, hget, Option.getD_some]
    rw [← b1]

theorem foT_treT {n : Nod} {k : Fo} (hb : (Fo.cons n k .nil).bare) : foT (treT (.cons n k .nil)) = .cons n k .nil := by
  have h := foOf_ar (.cons n k .nil) hb ((Fo.cons n k .nil).ar 0).length [] [] (by simp [Fo.ar_len])
  simp only [List.length_nil, List.nil_append, List.append_nil] at h
  unfold foT treT
  simp only
  conv => rhs; rw [← h]
  congr 1
  simp only [Fo.tops, Fo.size]
  congr 1
  omega
end Go.Bonsai
