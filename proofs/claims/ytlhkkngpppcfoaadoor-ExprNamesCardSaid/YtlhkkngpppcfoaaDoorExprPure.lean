/-
  Normal forests, arenas out of which they are put together, and what layer 5 tells: plain functions and plain facts.
-/
import Derived.Test.YtlhkkngpppcfoaaDoorFoD
import Derived.Test.YtlhkkngpppcfoaaDoorBackP
set_option linter.all false
namespace Go.Bonsai

def seqN0 : Nod := ⟨4, .zero, ⟨#[]⟩, 0, 0, []⟩
def choN0 : Nod := ⟨5, .zero, ⟨#[]⟩, 0, 0, []⟩
def setN0 : Nod := ⟨1, .zero, ⟨#[]⟩, 0, 0, []⟩
theorem seq_plain {m : Nod} {c : Int} (h : fits m c = true) (hk : m.kind = 4) (hb : m.kids = []) : m = seqN0 ∧ 2 ≤ c := by
  obtain ⟨k, s, t, a, b, l⟩ := m
  simp only at hk hb
  subst hk; subst hb
  simp [fits] at h
  obtain ⟨⟨⟨⟨h1, h2⟩, h3⟩, h4⟩, h5⟩ := h
  subst h1; subst h2; subst h3; subst h4
  exact ⟨rfl, h5⟩
theorem cho_plain {m : Nod} {c : Int} (h : fits m c = true) (hk : m.kind = 5) (hb : m.kids = []) : m = choN0 ∧ 2 ≤ c := by
  obtain ⟨k, s, t, a, b, l⟩ := m
  simp only at hk hb
  subst hk; subst hb
  simp [fits] at h
  obtain ⟨⟨⟨⟨h1, h2⟩, h3⟩, h4⟩, h5⟩ := h
  subst h1; subst h2; subst h3; subst h4
  exact ⟨rfl, h5⟩

/-- those of a kind are opened, once -/
def Fo.opn (k : Int) : Fo → Fo
  | .nil => .nil
  | .cons m j r => if m.kind = k then j.app (r.opn k) else .cons m j (r.opn k)
/-- Empties are dropped -/
def Fo.drop0 : Fo → Fo
  | .nil => .nil
  | .cons m j r => if m.kind = 0 then r.drop0 else .cons m j r.drop0
/-- a node over parts: none, one, more -/
def Fo.join (m e : Nod) : Fo → Fo
  | .nil => .cons e .nil .nil
  | .cons a b .nil => .cons a b .nil
  | p => .cons m p .nil
/-- what an arena holds: those of the same kind not yet opened -/
def Fo.nrm : Fo → Fo
  | .nil => .nil
  | .cons m j r => (if m.kind = 4 then Fo.join m emptyN j.nrm.drop0 else if m.kind = 5 then Fo.join m setN0 j.nrm else .cons m j.nrm .nil).app r.nrm
/-- all opened -/
def Fo.opF : Fo → Fo
  | .nil => .nil
  | .cons m j r => .cons m (if m.kind = 4 ∨ m.kind = 5 then j.opF.opn m.kind else j.opF) r.opF
/-- a node over what is normal -/
def Fo.put (m : Nod) (K : Fo) : Fo :=
  if m.kind = 4 then Fo.join m emptyN (K.drop0.opn 4) else if m.kind = 5 then Fo.join m setN0 (K.opn 5) else .cons m K .nil
/-- the normal forest -/
def Fo.norm : Fo → Fo
  | .nil => .nil
  | .cons m j r => (Fo.put m j.norm).app r.norm
/-- none of a kind at the top -/
def Fo.noK (k : Int) : Fo → Prop
  | .nil => True
  | .cons m _ r => m.kind ≠ k ∧ r.noK k
/-- normal -/
def Fo.ok : Fo → Prop
  | .nil => True
  | .cons m j r => (m.kind = 4 → j.noK 4 ∧ j.noK 0) ∧ (m.kind = 5 → j.noK 5) ∧ j.ok ∧ r.ok

theorem Fo.appN : ∀ F : Fo, F.app .nil = F
  | .nil => rfl
  | .cons m j r => by rw [Fo.app, Fo.appN r]
theorem Fo.appA : ∀ F G H : Fo, (F.app G).app H = F.app (G.app H)
  | .nil, _, _ => rfl
  | .cons m j r, G, H => by simp only [Fo.app, Fo.appA r G H]
theorem Fo.opn_app (k : Int) : ∀ F G : Fo, (F.app G).opn k = (F.opn k).app (G.opn k)
  | .nil, _ => rfl
  | .cons m j r, G => by
    simp only [Fo.app, Fo.opn]
    split
    · rw [Fo.opn_app k r G, Fo.appA]
    · rw [Fo.opn_app k r G, Fo.app]
theorem Fo.drop0_app : ∀ F G : Fo, (F.app G).drop0 = F.drop0.app G.drop0
  | .nil, _ => rfl
  | .cons m j r, G => by
    simp only [Fo.app, Fo.drop0]
    split
    · exact Fo.drop0_app r G
    · rw [Fo.drop0_app r G, Fo.app]
theorem Fo.opF_app : ∀ F G : Fo, (F.app G).opF = F.opF.app G.opF
  | .nil, _ => rfl
  | .cons m j r, G => by simp only [Fo.app, Fo.opF, Fo.opF_app r G]
theorem Fo.nrm_app : ∀ F G : Fo, (F.app G).nrm = F.nrm.app G.nrm
  | .nil, _ => rfl
  | .cons m j r, G => by simp only [Fo.app, Fo.nrm, Fo.nrm_app r G, Fo.appA]
theorem Fo.norm_app : ∀ F G : Fo, (F.app G).norm = F.norm.app G.norm
  | .nil, _ => rfl
  | .cons m j r, G => by simp only [Fo.app, Fo.norm, Fo.norm_app r G, Fo.appA]
theorem Fo.noK_app (k : Int) : ∀ F G : Fo, (F.app G).noK k ↔ F.noK k ∧ G.noK k
  | .nil, _ => by simp [Fo.app, Fo.noK]
  | .cons m j r, G => by simp only [Fo.app, Fo.noK, Fo.noK_app k r G, and_assoc]
theorem Fo.ok_app : ∀ F G : Fo, (F.app G).ok ↔ F.ok ∧ G.ok
  | .nil, _ => by simp [Fo.app, Fo.ok]
  | .cons m j r, G => by simp only [Fo.app, Fo.ok, Fo.ok_app r G, and_assoc]
theorem Fo.lenA : ∀ F G : Fo, (F.app G).len = F.len + G.len
  | .nil, _ => by simp [Fo.app, Fo.len]
  | .cons m j r, G => by simp only [Fo.app, Fo.len, Fo.lenA r G]; omega
theorem Fo.fitA : ∀ F G : Fo, (F.app G).fit = (F.fit && G.fit)
  | .nil, _ => by simp [Fo.app, Fo.fit]
  | .cons m j r, G => by simp only [Fo.app, Fo.fit, Fo.fitA r G, Bool.and_assoc]
theorem Fo.bareA : ∀ F G : Fo, (F.app G).bare ↔ F.bare ∧ G.bare
  | .nil, _ => by simp [Fo.app, Fo.bare]
  | .cons m j r, G => by simp only [Fo.app, Fo.bare, Fo.bareA r G, and_assoc]
theorem Fo.opF_drop0 : ∀ F : Fo, F.drop0.opF = F.opF.drop0
  | .nil => rfl
  | .cons m j r => by
    simp only [Fo.drop0, Fo.opF]
    split
    · exact Fo.opF_drop0 r
    · rw [Fo.opF, Fo.opF_drop0 r]
theorem Fo.opF_len : ∀ F : Fo, F.opF.len = F.len
  | .nil => rfl
  | .cons m j r => by simp only [Fo.opF, Fo.len, Fo.opF_len r]

/-- join gives one tree -/
theorem Fo.join_cases (m e : Nod) (p : Fo) : (p = .nil ∧ Fo.join m e p = .cons e .nil .nil) ∨ (∃ a b, p = .cons a b .nil ∧ Fo.join m e p = .cons a b .nil) ∨ (2 ≤ p.len ∧ Fo.join m e p = .cons m p .nil) := by
  match p with
  | .nil => exact .inl ⟨rfl, rfl⟩
  | .cons a b .nil => exact .inr (.inl ⟨a, b, rfl, rfl⟩)
  | .cons a b (.cons c d r) => exact .inr (.inr ⟨by simp [Fo.len], rfl⟩)
theorem Fo.join_many (m e : Nod) {p : Fo} (h : 2 ≤ p.len) : Fo.join m e p = .cons m p .nil := by
  rcases Fo.join_cases m e p with ⟨rfl, _⟩ | ⟨a, b, rfl, _⟩ | ⟨_, h2⟩
  · simp [Fo.len] at h
  · simp [Fo.len] at h
  · exact h2
theorem emptyN_fits : fits emptyN 0 = true := by decide +kernel
theorem setN0_fits : fits setN0 0 = true := by decide +kernel
theorem fits_seq {c : Int} (h : 2 ≤ c) : fits seqN0 c = true := by simp [fits, seqN0, h]
theorem fits_cho {c : Int} (h : 2 ≤ c) : fits choN0 c = true := by simp [fits, choN0, h]

/-- fit and bare -/
def Fo.fb (F : Fo) : Prop := F.fit = true ∧ F.bare
theorem Fo.fb_cons {m : Nod} {j r : Fo} : (Fo.cons m j r).fb ↔ (fits m j.len = true ∧ m.kids = [] ∧ j.fb) ∧ r.fb := by
  simp only [Fo.fb, Fo.fit, Fo.bare, Bool.and_eq_true]
  constructor
  · rintro ⟨⟨⟨a, b⟩, c⟩, d, e, f⟩; exact ⟨⟨a, d, b, e⟩, c, f⟩
  · rintro ⟨⟨a, d, b, e⟩, c, f⟩; exact ⟨⟨⟨a, b⟩, c⟩, d, e, f⟩
theorem Fo.fb_nil : Fo.nil.fb := ⟨rfl, trivial⟩
theorem Fo.fb_app {F G : Fo} : (F.app G).fb ↔ F.fb ∧ G.fb := by
  simp only [Fo.fb, Fo.fitA, Fo.bareA, Bool.and_eq_true]
  constructor
  · rintro ⟨⟨a, b⟩, c, d⟩; exact ⟨⟨a, c⟩, b, d⟩
  · rintro ⟨⟨a, c⟩, b, d⟩; exact ⟨⟨a, b⟩, c, d⟩
theorem Fo.fb_drop0 : ∀ {F : Fo}, F.fb → F.drop0.fb
  | .nil, h => h
  | .cons m j r, h => by
    have h' := Fo.fb_cons.1 h
    simp only [Fo.drop0]
    split
    · exact Fo.fb_drop0 h'.2
    · exact Fo.fb_cons.2 ⟨h'.1, Fo.fb_drop0 h'.2⟩
theorem Fo.fb_opn {k : Int} : ∀ {F : Fo}, F.fb → (F.opn k).fb
  | .nil, h => h
  | .cons m j r, h => by
    have h' := Fo.fb_cons.1 h
    simp only [Fo.opn]
    split
    · exact Fo.fb_app.2 ⟨h'.1.2.2, Fo.fb_opn h'.2⟩
    · exact Fo.fb_cons.2 ⟨h'.1, Fo.fb_opn h'.2⟩
theorem Fo.fb_join {m e : Nod} {p : Fo} (hp : p.fb) (he : fits e 0 = true ∧ e.kids = []) (hm : 2 ≤ p.len → fits m p.len = true) (hb : m.kids = []) : (Fo.join m e p).fb := by
  rcases Fo.join_cases m e p with ⟨rfl, h⟩ | ⟨a, b, rfl, h⟩ | ⟨h2, h⟩
  · rw [h]; exact Fo.fb_cons.2 ⟨⟨he.1, he.2, Fo.fb_nil⟩, Fo.fb_nil⟩
  · rw [h]; exact hp
  · rw [h]; exact Fo.fb_cons.2 ⟨⟨hm h2, hb, hp⟩, Fo.fb_nil⟩
theorem Fo.join_len (m e : Nod) (p : Fo) : (Fo.join m e p).len = 1 := by
  rcases Fo.join_cases m e p with ⟨_, h⟩ | ⟨a, b, _, h⟩ | ⟨_, h⟩ <;> rw [h] <;> rfl
theorem Fo.nrm_len : ∀ F : Fo, F.nrm.len = F.len
  | .nil => rfl
  | .cons m j r => by
    simp only [Fo.nrm, Fo.lenA, Fo.nrm_len r, Fo.len]
    split
    · rw [Fo.join_len]; omega
    · split
      · rw [Fo.join_len]; omega
      · simp [Fo.len]; omega
theorem Fo.put_len (m : Nod) (K : Fo) : (Fo.put m K).len = 1 := by
  unfold Fo.put
  split
  · exact Fo.join_len _ _ _
  · split
    · exact Fo.join_len _ _ _
    · rfl
theorem Fo.norm_len : ∀ F : Fo, F.norm.len = F.len
  | .nil => rfl
  | .cons m j r => by simp only [Fo.norm, Fo.lenA, Fo.put_len, Fo.norm_len r, Fo.len]; omega
theorem int_len {a b : Nat} (h : a = b) : (a : Int) = (b : Int) := by rw [h]
theorem Fo.fb_nrm : ∀ {F : Fo}, F.fb → F.nrm.fb
  | .nil, h => h
  | .cons m j r, h => by
    obtain ⟨⟨h1, h2, h3⟩, h4⟩ := Fo.fb_cons.1 h
    have ih := Fo.fb_nrm h3
    simp only [Fo.nrm]
    refine Fo.fb_app.2 ⟨?_, Fo.fb_nrm h4⟩
    split
    · rename_i hk
      obtain ⟨rfl, _⟩ := seq_plain h1 hk h2
      exact Fo.fb_join (Fo.fb_drop0 ih) ⟨emptyN_fits, rfl⟩ (fun h => fits_seq (by omega)) rfl
    · split
      · rename_i hk
        obtain ⟨rfl, _⟩ := cho_plain h1 hk h2
        exact Fo.fb_join ih ⟨setN0_fits, rfl⟩ (fun h => fits_cho (by omega)) rfl
      · exact Fo.fb_cons.2 ⟨⟨by rw [Fo.nrm_len]; exact h1, h2, ih⟩, Fo.fb_nil⟩
theorem Fo.fb_norm : ∀ {F : Fo}, F.fb → F.norm.fb
  | .nil, h => h
  | .cons m j r, h => by
    obtain ⟨⟨h1, h2, h3⟩, h4⟩ := Fo.fb_cons.1 h
    have ih := Fo.fb_norm h3
    simp only [Fo.norm]
    refine Fo.fb_app.2 ⟨?_, Fo.fb_norm h4⟩
    unfold Fo.put
    split
    · rename_i hk
      obtain ⟨rfl, _⟩ := seq_plain h1 hk h2
      exact Fo.fb_join (Fo.fb_opn (Fo.fb_drop0 ih)) ⟨emptyN_fits, rfl⟩ (fun h => fits_seq (by omega)) rfl
    · split
      · rename_i hk
        obtain ⟨rfl, _⟩ := cho_plain h1 hk h2
        exact Fo.fb_join (Fo.fb_opn ih) ⟨setN0_fits, rfl⟩ (fun h => fits_cho (by omega)) rfl
      · exact Fo.fb_cons.2 ⟨⟨by rw [Fo.norm_len]; exact h1, h2, ih⟩, Fo.fb_nil⟩
/-- to open makes no fewer -/
theorem Fo.opn_len {k : Int} (hk : k = 4 ∨ k = 5) : ∀ {F : Fo}, F.fb → F.len ≤ (F.opn k).len
  | .nil, _ => Nat.le_refl _
  | .cons m j r, h => by
    obtain ⟨⟨h1, h2, h3⟩, h4⟩ := Fo.fb_cons.1 h
    have ih := Fo.opn_len hk h4
    simp only [Fo.opn]
    split
    · rename_i hm
      have : 2 ≤ (j.len : Int) := by
        rcases hk with rfl | rfl
        · exact (seq_plain h1 hm h2).2
        · exact (cho_plain h1 hm h2).2
      rw [Fo.lenA]; simp only [Fo.len]; omega
    · simp only [Fo.len]; omega
theorem Fo.fb_opF : ∀ {F : Fo}, F.fb → F.opF.fb
  | .nil, h => h
  | .cons m j r, h => by
    obtain ⟨⟨h1, h2, h3⟩, h4⟩ := Fo.fb_cons.1 h
    have ih := Fo.fb_opF h3
    simp only [Fo.opF]
    refine Fo.fb_cons.2 ⟨⟨?_, h2, ?_⟩, Fo.fb_opF h4⟩
    · split
      · rename_i hk
        have hl := Fo.opn_len hk ih
        rw [Fo.opF_len] at hl
        rcases hk with hk | hk
        · obtain ⟨rfl, h⟩ := seq_plain h1 hk h2
          exact fits_seq (by show (2 : Int) ≤ ((j.opF.opn 4).len : Int); have : j.len ≤ (j.opF.opn 4).len := hl; omega)
        · obtain ⟨rfl, h⟩ := cho_plain h1 hk h2
          exact fits_cho (by show (2 : Int) ≤ ((j.opF.opn 5).len : Int); have : j.len ≤ (j.opF.opn 5).len := hl; omega)
      · rw [Fo.opF_len]; exact h1
    · split
      · exact Fo.fb_opn ih
      · exact ih

/-- what the arena holds, all opened, is the normal forest -/
theorem Fo.opF_nrm : ∀ {F : Fo}, F.fb → F.nrm.opF = F.norm
  | .nil, _ => rfl
  | .cons m j r, h => by
    obtain ⟨⟨h1, h2, h3⟩, h4⟩ := Fo.fb_cons.1 h
    have ih := Fo.opF_nrm h3
    have ih2 := Fo.opF_nrm h4
    have hfb := Fo.fb_nrm h3
    simp only [Fo.nrm, Fo.norm, Fo.opF_app, ih2]
    congr 1
    unfold Fo.put
    split
    · rename_i hk
      obtain ⟨rfl, _⟩ := seq_plain h1 hk h2
      have hD : (j.nrm.drop0).opF = j.norm.drop0 := by rw [Fo.opF_drop0, ih]
      have hfd := Fo.fb_drop0 hfb
      rw [← hD]
      generalize j.nrm.drop0 = p at *
      rcases Fo.join_cases seqN0 emptyN p with ⟨rfl, e⟩ | ⟨a, b, rfl, e⟩ | ⟨h2', e⟩
      · rfl
      · rw [e]
        obtain ⟨⟨g1, g2, g3⟩, _⟩ := Fo.fb_cons.1 hfd
        by_cases ha : a.kind = 4
        · obtain ⟨rfl, hl⟩ := seq_plain g1 ha g2
          have hlen := Fo.opn_len (.inl rfl : (4 : Int) = 4 ∨ (4 : Int) = 5) (Fo.fb_opF g3)
          rw [Fo.opF_len] at hlen
          have e1 : (Fo.cons seqN0 b .nil).opF = .cons seqN0 (b.opF.opn 4) .nil := rfl
          rw [e1]
          have e2 : (Fo.cons seqN0 (b.opF.opn 4) .nil).opn 4 = b.opF.opn 4 := by
            show (if seqN0.kind = 4 then (b.opF.opn 4).app .nil else _) = _
            rw [if_pos ha, Fo.appN]
          rw [e2, Fo.join_many _ _ (by omega)]
        · have e2 : ((Fo.cons a b .nil).opF).opn 4 = (Fo.cons a b .nil).opF := by
            simp only [Fo.opF, Fo.opn, if_neg ha]
          rw [e2]
          simp only [Fo.opF]
          rfl
      · rw [e]
        have hl := Fo.opn_len (.inl rfl : (4 : Int) = 4 ∨ (4 : Int) = 5) (Fo.fb_opF hfd)
        rw [Fo.opF_len] at hl
        rw [Fo.join_many _ _ (by omega)]
        rfl
    · split
      · rename_i hk
        obtain ⟨rfl, _⟩ := cho_plain h1 hk h2
        rw [← ih]
        generalize j.nrm = p at *
        rcases Fo.join_cases choN0 setN0 p with ⟨rfl, e⟩ | ⟨a, b, rfl, e⟩ | ⟨h2', e⟩
        · rfl
        · rw [e]
          obtain ⟨⟨g1, g2, g3⟩, _⟩ := Fo.fb_cons.1 hfb
          by_cases ha : a.kind = 5
          · obtain ⟨rfl, hl⟩ := cho_plain g1 ha g2
            have hlen := Fo.opn_len (.inr rfl : (5 : Int) = 4 ∨ (5 : Int) = 5) (Fo.fb_opF g3)
            rw [Fo.opF_len] at hlen
            have e1 : (Fo.cons choN0 b .nil).opF = .cons choN0 (b.opF.opn 5) .nil := rfl
            rw [e1]
            have e2 : (Fo.cons choN0 (b.opF.opn 5) .nil).opn 5 = b.opF.opn 5 := by
              show (if choN0.kind = 5 then (b.opF.opn 5).app .nil else _) = _
              rw [if_pos ha, Fo.appN]
            rw [e2, Fo.join_many _ _ (by omega)]
          · have e2 : ((Fo.cons a b .nil).opF).opn 5 = (Fo.cons a b .nil).opF := by
              simp only [Fo.opF, Fo.opn, if_neg ha]
            rw [e2]
            simp only [Fo.opF]
            rfl
        · rw [e]
          have hl := Fo.opn_len (.inr rfl : (5 : Int) = 4 ∨ (5 : Int) = 5) (Fo.fb_opF hfb)
          rw [Fo.opF_len] at hl
          rw [Fo.join_many _ _ (by omega)]
          rfl
      · rename_i hk4 hk5
        simp only [Fo.opF]
        rw [if_neg (by rintro (h | h); exact hk4 h; exact hk5 h), ih]

/-! ### normal forests are as they should be -/
theorem Fo.noK_drop0 : ∀ F : Fo, F.drop0.noK 0
  | .nil => trivial
  | .cons m j r => by
    simp only [Fo.drop0]
    split
    · exact Fo.noK_drop0 r
    · rename_i h; exact ⟨h, Fo.noK_drop0 r⟩
theorem Fo.drop0_of : ∀ {F : Fo}, F.noK 0 → F.drop0 = F
  | .nil, _ => rfl
  | .cons m j r, h => by
    simp only [Fo.drop0]
    rw [if_neg h.1, Fo.drop0_of h.2]
theorem Fo.opn_of {k : Int} : ∀ {F : Fo}, F.noK k → F.opn k = F
  | .nil, _ => rfl
  | .cons m j r, h => by
    simp only [Fo.opn]
    rw [if_neg h.1, Fo.opn_of h.2]
theorem Fo.ok_drop0 : ∀ {F : Fo}, F.ok → F.drop0.ok
  | .nil, h => h
  | .cons m j r, h => by
    simp only [Fo.drop0]
    split
    · exact Fo.ok_drop0 h.2.2.2
    · exact ⟨h.1, h.2.1, h.2.2.1, Fo.ok_drop0 h.2.2.2⟩
theorem Fo.ok_opn {k : Int} : ∀ {F : Fo}, F.ok → (F.opn k).ok
  | .nil, h => h
  | .cons m j r, h => by
    simp only [Fo.opn]
    split
    · exact (Fo.ok_app _ _).2 ⟨h.2.2.1, Fo.ok_opn h.2.2.2⟩
    · exact ⟨h.1, h.2.1, h.2.2.1, Fo.ok_opn h.2.2.2⟩
theorem Fo.noK_opn4 : ∀ {F : Fo}, F.ok → (F.opn 4).noK 4
  | .nil, _ => trivial
  | .cons m j r, h => by
    simp only [Fo.opn]
    split
    · rename_i hk; exact (Fo.noK_app _ _ _).2 ⟨(h.1 hk).1, Fo.noK_opn4 h.2.2.2⟩
    · rename_i hk; exact ⟨hk, Fo.noK_opn4 h.2.2.2⟩
theorem Fo.noK_opn40 : ∀ {F : Fo}, F.ok → F.noK 0 → (F.opn 4).noK 0
  | .nil, _, _ => trivial
  | .cons m j r, h, h0 => by
    simp only [Fo.opn]
    split
    · rename_i hk; exact (Fo.noK_app _ _ _).2 ⟨(h.1 hk).2, Fo.noK_opn40 h.2.2.2 h0.2⟩
    · exact ⟨h0.1, Fo.noK_opn40 h.2.2.2 h0.2⟩
theorem Fo.noK_opn5 : ∀ {F : Fo}, F.ok → (F.opn 5).noK 5
  | .nil, _ => trivial
  | .cons m j r, h => by
    simp only [Fo.opn]
    split
    · rename_i hk; exact (Fo.noK_app _ _ _).2 ⟨h.2.1 hk, Fo.noK_opn5 h.2.2.2⟩
    · rename_i hk; exact ⟨hk, Fo.noK_opn5 h.2.2.2⟩
theorem Fo.ok_leaf {e : Nod} (h4 : e.kind ≠ 4) (h5 : e.kind ≠ 5) : (Fo.cons e .nil .nil).ok := ⟨fun h => absurd h h4, fun h => absurd h h5, trivial, trivial⟩
theorem Fo.norm_ok : ∀ (F : Fo), F.norm.ok
  | .nil => trivial
  | .cons m j r => by
    have ih := Fo.norm_ok j
    simp only [Fo.norm]
    refine (Fo.ok_app _ _).2 ⟨?_, Fo.norm_ok r⟩
    unfold Fo.put
    split
    · rename_i hk
      have hD := Fo.ok_drop0 ih
      have h0 := Fo.noK_drop0 j.norm
      have hp := Fo.ok_opn (k := 4) hD
      have h4 := Fo.noK_opn4 hD
      have h40 := Fo.noK_opn40 hD h0
      generalize (j.norm.drop0).opn 4 = p at *
      rcases Fo.join_cases m emptyN p with ⟨rfl, e⟩ | ⟨a, b, rfl, e⟩ | ⟨h2, e⟩ <;> rw [e]
      · exact Fo.ok_leaf (by decide) (by decide)
      · exact hp
      · exact ⟨fun _ => ⟨h4, h40⟩, fun h => by omega, hp, trivial⟩
    · split
      · rename_i hk
        have hp := Fo.ok_opn (k := 5) ih
        have h5 := Fo.noK_opn5 ih
        generalize (j.norm).opn 5 = p at *
        rcases Fo.join_cases m setN0 p with ⟨rfl, e⟩ | ⟨a, b, rfl, e⟩ | ⟨h2, e⟩ <;> rw [e]
        · exact Fo.ok_leaf (by decide) (by decide)
        · exact hp
        · exact ⟨fun h => by omega, fun _ => h5, hp, trivial⟩
      · rename_i h4 h5
        exact ⟨fun h => absurd h h4, fun h => absurd h h5, ih, trivial⟩
/-- a normal one is made what it is -/
theorem Fo.norm_of : ∀ {F : Fo}, F.fb → F.ok → F.norm = F
  | .nil, _, _ => rfl
  | .cons m j r, h, hk => by
    obtain ⟨⟨h1, h2, h3⟩, h4⟩ := Fo.fb_cons.1 h
    obtain ⟨k4, k5, kj, kr⟩ := hk
    simp only [Fo.norm]
    rw [Fo.norm_of h3 kj, Fo.norm_of h4 kr]
    have e : Fo.put m j = .cons m j .nil := by
      unfold Fo.put
      split
      · rename_i hm
        obtain ⟨rfl, hl⟩ := seq_plain h1 hm h2
        rw [Fo.drop0_of (k4 hm).2, Fo.opn_of (k4 hm).1, Fo.join_many _ _ (by omega)]
      · split
        · rename_i hm
          obtain ⟨rfl, hl⟩ := cho_plain h1 hm h2
          rw [Fo.opn_of (k5 hm), Fo.join_many _ _ (by omega)]
        · rfl
    rw [e]
    rfl
theorem Fo.norm_norm {F : Fo} (h : F.fb) : F.norm.norm = F.norm := Fo.norm_of (Fo.fb_norm h) (Fo.norm_ok F)

/-! ### sizes -/
theorem Fo.opn_size {k : Int} : ∀ F : Fo, (F.opn k).size ≤ F.size
  | .nil => Nat.le_refl _
  | .cons m j r => by
    have := Fo.opn_size (k := k) r
    simp only [Fo.opn]
    split
    · rw [Fo.size_app]; simp only [Fo.size]; omega
    · simp only [Fo.size]; omega
theorem Fo.drop0_size : ∀ F : Fo, F.drop0.size ≤ F.size
  | .nil => Nat.le_refl _
  | .cons m j r => by
    have := Fo.drop0_size r
    simp only [Fo.drop0]
    split <;> simp only [Fo.size] <;> omega
theorem Fo.join_size (m e : Nod) (p : Fo) : (Fo.join m e p).size ≤ p.size + 1 := by
  rcases Fo.join_cases m e p with ⟨rfl, h⟩ | ⟨a, b, rfl, h⟩ | ⟨_, h⟩ <;> rw [h] <;> simp only [Fo.size] <;> omega
theorem Fo.norm_size : ∀ F : Fo, F.norm.size ≤ F.size
  | .nil => Nat.le_refl _
  | .cons m j r => by
    have h1 := Fo.norm_size j
    have h2 := Fo.norm_size r
    have h3 : (Fo.put m j.norm).size ≤ j.norm.size + 1 := by
      unfold Fo.put
      split
      · exact Nat.le_trans (Fo.join_size _ _ _) (by have := Fo.opn_size (k := 4) j.norm.drop0; have := Fo.drop0_size j.norm; omega)
      · split
        · exact Nat.le_trans (Fo.join_size _ _ _) (by have := Fo.opn_size (k := 5) j.norm; omega)
        · simp only [Fo.size]; omega
    simp only [Fo.norm, Fo.size_app, Fo.size]
    omega

/-- a tree made normal -/
def makeP (t : Tre) : Tre × Bool := if rightP t = true then (treT (foT t).norm, true) else (.zero, false)
end Go.Bonsai

namespace Go.Bonsai

/-! ### a longer arena -/
theorem getD_app {ns xs : List Nod} {k : Int} (h0 : 0 ≤ k) (h : k < ns.length) : (ns ++ xs).getD k.toNat .zero = ns.getD k.toNat .zero := by
  rw [List.getD_eq_getElem?_getD, List.getD_eq_getElem?_getD, List.getElem?_append_left (by omega)]
theorem chOf_app {ns xs : List Nod} {k : Int} (h : k < ns.length) : chOf (ns ++ xs) k = chOf ns k := by
  unfold chOf
  by_cases h0 : k < 0
  · rw [if_pos h0, if_pos h0]
  · rw [if_neg h0, if_neg h0]
    unfold kidsOf
    rw [List.getElem?_append_left (by omega)]
theorem chOf_last {ns : List Nod} {n : Nod} : chOf (ns ++ [n]) (ns.length : Int) = n.kids :=
  (chOf_get (i := ns.length) (by simp)).symm
theorem foOf_app {ns xs : List Nod} (hc : ChOk (chOf ns)) : ∀ (f : Nat) (l : List Int), (∀ k ∈ l, 0 ≤ k ∧ k < ns.length) → foOf (ns ++ xs) f l = foOf ns f l
  | 0, l, _ => rfl
  | f + 1, l, hl => by
    induction l with
    | nil => rw [foOf_nil, foOf_nil]
    | cons k l ih =>
      have hk := hl k (by simp)
      rw [foOf_cons, foOf_cons, ih (fun x hx => hl x (by simp [hx])), chOf_app hk.2,
        foOf_app hc f (chOf ns k) (fun x hx => by have := hc k x hx; omega)]
      congr 1
      unfold dat
      rw [getD_app hk.1 hk.2]
theorem dfs_app2 {ns xs : List Nod} (hc : ChOk (chOf ns)) : ∀ (f : Nat) (l : List Int), (∀ k ∈ l, 0 ≤ k ∧ k < ns.length) → dfs (chOf (ns ++ xs)) f l = dfs (chOf ns) f l
  | 0, l, _ => rfl
  | f + 1, l, hl => by
    show l.flatMap _ = l.flatMap _
    rw [List.flatMap_def, List.flatMap_def]
    congr 1
    apply List.map_congr_left
    intro k hk
    have h := hl k hk
    rw [chOf_app h.2, dfs_app2 hc f (chOf ns k) (fun x hx => by have := hc k x hx; omega)]
theorem KOk.snoc {ns : List Nod} {n : Nod} (h : KOk ns) (hn : ∀ k ∈ n.kids, 0 ≤ k ∧ k < ns.length) : KOk (ns ++ [n]) := by
  intro i m hm k hk
  rcases Nat.lt_trichotomy i ns.length with hi | hi | hi
  · rw [List.getElem?_append_left hi] at hm
    exact h i m hm k hk
  · subst hi
    simp at hm
    subst hm
    exact hn k hk
  · rw [List.getElem?_eq_none (by simp; omega)] at hm
    cases hm

/-- what stands at a number of an arena -/
structure Den (ar : List Nod) (p : Int) (F : Fo) : Prop where
  pos : 0 ≤ p
  lt : p < ar.length
  fo : foOf ar ar.length [p] = F
theorem Den.app {ar xs : List Nod} {p : Int} {F : Fo} (hc : ChOk (chOf ar)) (h : Den ar p F) : Den (ar ++ xs) p F := by
  have hp := h.pos
  have hl := h.lt
  refine ⟨hp, by simp; omega, ?_⟩
  rw [foOf_app hc _ _ (by intro k hk; simp at hk; subst hk; exact ⟨hp, hl⟩), ← h.fo]
  exact foOf_fuel hc _ _ _ (by intro k hk; simp at hk; subst hk; simp; omega) (by intro k hk; simp at hk; subst hk; exact hl)
theorem Den.snoc {ar : List Nod} {n : Nod} (hc : ChOk (chOf ar)) (hn : ∀ k ∈ n.kids, 0 ≤ k ∧ k < ar.length) : Den (ar ++ [n]) (ar.length : Int) (.cons { n with kids := [] } (foOf ar ar.length n.kids) .nil) := by
  refine ⟨by omega, by simp; omega, ?_⟩
  rw [show (ar ++ [n]).length = ar.length + 1 by simp, foOf_cons, foOf_nil, chOf_last, foOf_app hc _ _ hn]
  congr 1
  unfold dat
  rw [List.getD_eq_getElem?_getD, Int.toNat_natCast, List.getElem?_append_right (Nat.le_refl _)]
  simp
theorem foOf_split {ns : List Nod} {f : Nat} (k : Int) (l : List Int) (hf : 0 < f) : foOf ns f (k :: l) = (foOf ns f [k]).app (foOf ns f l) := by
  obtain ⟨g, rfl⟩ : ∃ g, f = g + 1 := ⟨f - 1, by omega⟩
  exact foOf_one ns g k l
theorem foOf_one_kind {ns : List Nod} {f : Nat} (k : Int) (hf : 0 < f) : ∃ j, foOf ns f [k] = .cons (dat ns k) j .nil := by
  obtain ⟨g, rfl⟩ : ∃ g, f = g + 1 := ⟨f - 1, by omega⟩
  exact ⟨_, by rw [foOf_cons, foOf_nil]⟩

/-! ### put together -/
def kindA (ns : List Nod) (k : Int) : Int := (ns.getD k.toNat .zero).kind
/-- none is e, one is itself -/
def joinA (ar : List Nod) (n e : Nod) : List Int → List Nod × Int
  | [] => (ar ++ [e], ar.length)
  | [p] => (ar, p)
  | ps => (ar ++ [{ n with kids := ps }], ar.length)
def not0 (ar : List Nod) (K : List Int) : List Int := K.filter fun k => !decide (kindA ar k = 0)
def comeA (ar : List Nod) (n : Nod) (K : List Int) : List Nod × Int :=
  if n.kind = 4 then joinA ar n emptyN (not0 ar K) else if n.kind = 5 then joinA ar n setN0 K else (ar ++ [{ n with kids := K }], ar.length)
theorem foOf_not0 {ar : List Nod} (hf : 0 < ar.length) : ∀ (K : List Int), foOf ar ar.length (not0 ar K) = (foOf ar ar.length K).drop0
  | [] => by rw [foOf_nil]; show foOf ar _ [] = _; rw [foOf_nil]; rfl
  | k :: l => by
    obtain ⟨j, hj⟩ := foOf_one_kind (ns := ar) k hf
    rw [foOf_split k l hf, Fo.drop0_app, hj]
    unfold not0 at *
    rw [List.filter_cons]
    have ih := foOf_not0 hf l
    unfold not0 at ih
    have hd : (dat ar k).kind = kindA ar k := rfl
    by_cases h : kindA ar k = 0
    · simp only [h, decide_true, Bool.not_true, Bool.false_eq_true, if_false, Fo.drop0, hd, if_true]
      rw [ih]
      rfl
    · simp only [h, decide_false, Bool.not_false, if_true, Fo.drop0, hd, if_false]
      rw [foOf_split k _ hf, hj, ih]

/-- what a step adds: at most one node, over some of what was handed in -/
structure Come (ar : List Nod) (K : List Int) (r : List Nod × Int) (F : Fo) : Prop where
  den : Den r.1 r.2 F
  kok : KOk r.1
  grow : r.1 = ar ∧ r.2 ∈ K ∨ ∃ x : Nod, r.1 = ar ++ [x] ∧ r.2 = ar.length ∧ x.kids.Sublist K
theorem joinA_come {ar : List Nod} {n e : Nod} {K P : List Int} (hk : KOk ar) (hP : ∀ k ∈ P, 0 ≤ k ∧ k < ar.length) (hs : P.Sublist K) (he : e.kids = []) :
    Come ar K (joinA ar n e P) (Fo.join { n with kids := [] } e (foOf ar ar.length P)) := by
  have hc : ChOk (chOf ar) := hk.chOf
  match P, hP, hs with
  | [], _, _ =>
    refine ⟨?_, hk.snoc (by rw [he]; simp), .inr ⟨e, rfl, rfl, by rw [he]; exact List.nil_sublist _⟩⟩
    have := Den.snoc hc (n := e) (by rw [he]; simp)
    rw [he, foOf_nil] at this
    rw [foOf_nil]
    have e2 : ({ e with kids := [] } : Nod) = e := by rw [← he]
    rw [e2] at this
    exact this
  | [p], hP, hs =>
    have hp := hP p (by simp)
    refine ⟨⟨hp.1, hp.2, ?_⟩, hk, .inl ⟨rfl, hs.subset (by show p ∈ [p]; simp)⟩⟩
    obtain ⟨j, hj⟩ := foOf_one_kind (ns := ar) p (by omega : 0 < ar.length)
    show foOf ar ar.length [p] = _
    rw [hj]
    rfl
  | p :: q :: l, hP, hs =>
    refine ⟨?_, hk.snoc hP, .inr ⟨{ n with kids := p :: q :: l }, rfl, rfl, hs⟩⟩
    have hp := hP p (by simp)
    have h := Den.snoc hc (n := { n with kids := p :: q :: l }) hP
    have hl : 2 ≤ (foOf ar ar.length (p :: q :: l)).len := by rw [foOf_len _ _ _ (by omega)]; simp
    rw [Fo.join_many _ _ hl]
    exact h
theorem comeA_come {ar : List Nod} {n : Nod} {K : List Int} {F : Fo} (hk : KOk ar) (hK : ∀ k ∈ K, 0 ≤ k ∧ k < ar.length) (hF : foOf ar ar.length K = F.nrm) :
    Come ar K (comeA ar n K) (Fo.cons { n with kids := [] } F .nil).nrm := by
  have e : (Fo.cons { n with kids := [] } F .nil).nrm = if n.kind = 4 then Fo.join { n with kids := [] } emptyN F.nrm.drop0 else if n.kind = 5 then Fo.join { n with kids := [] } setN0 F.nrm else .cons { n with kids := [] } F.nrm .nil := by
    show (if n.kind = 4 then _ else if n.kind = 5 then _ else _ : Fo).app .nil = _
    rw [Fo.appN]
  rw [e]
  unfold comeA
  split
  · have h := joinA_come (n := n) (e := emptyN) (K := K) hk (P := not0 ar K) (fun k hk' => hK k (List.mem_filter.1 hk').1) List.filter_sublist rfl
    by_cases hlen : 0 < ar.length
    · rw [foOf_not0 hlen, hF] at h
      exact h
    · have : K = [] := by
        cases K with
        | nil => rfl
        | cons k K => have := hK k (by simp); omega
      subst this
      rw [foOf_nil] at hF
      rw [← hF]
      rw [show not0 ar [] = [] from rfl, foOf_nil] at h
      exact h
  · split
    · have h := joinA_come (n := n) (e := setN0) (K := K) hk (P := K) hK (List.Sublist.refl _) rfl
      rw [hF] at h
      exact h
    · refine ⟨?_, hk.snoc hK, .inr ⟨{ n with kids := K }, rfl, rfl, List.Sublist.refl _⟩⟩
      have h := Den.snoc hk.chOf (n := { n with kids := K }) hK
      rw [hF] at h
      exact h

/-! ### the loop of Make -/
/-- numbers ahead of i that no node ahead of i has for a kid -/
def unC (t : Tre) (i : Nat) : List Int := ((List.range i).map Int.ofNat).filter fun k => !decide (k ∈ allKids (t.nodes.take i))
theorem unC_count (t : Tre) (i : Nat) (x : Int) : (unC t i).count x = if 0 ≤ x ∧ x < i ∧ x ∉ allKids (t.nodes.take i) then 1 else 0 := by
  unfold unC
  by_cases h : x ∈ allKids (t.nodes.take i)
  · rw [if_neg (fun hh => hh.2.2 h)]
    exact List.count_eq_zero.2 fun hm => by have := (List.mem_filter.1 hm).2; simp [h] at this
  · rw [List.count_filter (by simpa using h), count_ints]
    by_cases h2 : 0 ≤ x ∧ x < (i : Int)
    · rw [if_pos h2, if_pos ⟨h2.1, h2.2, h⟩]
    · rw [if_neg h2, if_neg (fun hh => h2 ⟨hh.1, hh.2.1⟩)]
theorem allKids_snoc (a : List Nod) (n : Nod) : allKids (a ++ [n]) = allKids a ++ n.kids := by simp [allKids]
theorem unC_perm {t : Tre} (hR : RightT t) {i : Nat} {n : Nod} (hn : t.nodes[i]? = some n) : (unC t (i + 1) ++ n.kids).Perm (unC t i ++ [(i : Int)]) := by
  rw [List.perm_iff_count]
  intro x
  obtain ⟨hi, he⟩ := List.getElem?_eq_some_iff.1 hn
  have htk : t.nodes.take (i + 1) = t.nodes.take i ++ [n] := by rw [List.take_succ_eq_append_getElem hi, he]
  have hko := hR.kok i n hn
  have hle : (allKids (t.nodes.take i)).count x + n.kids.count x ≤ 1 := by
    have h1 : (allKids t.nodes).count x ≤ 1 := by
      by_cases hx : 0 ≤ x ∧ x < t.nodes.length
      · have := hR.count x.toNat (by omega)
        rw [show ((x.toNat : Nat) : Int) = x by omega] at this
        rw [this]; split <;> omega
      · have : (allKids t.nodes).count x = 0 := List.count_eq_zero.2 fun hm => by
          obtain ⟨m, hm1, hm2⟩ := List.mem_flatMap.1 hm
          obtain ⟨j, hj⟩ := List.mem_iff_getElem?.1 hm1
          have := hR.kok j m hj x hm2
          have := (List.getElem?_eq_some_iff.1 hj).1
          omega
        omega
    have h2 : allKids t.nodes = allKids (t.nodes.take i) ++ (n.kids ++ allKids (t.nodes.drop (i + 1))) := by
      conv => lhs; rw [← List.take_append_drop (i + 1) t.nodes, htk]
      simp [allKids]
    rw [h2, List.count_append, List.count_append] at h1
    omega
  have hlt : ∀ y ∈ allKids (t.nodes.take i), 0 ≤ y ∧ y < (i : Int) := by
    intro y hy
    obtain ⟨m, hm1, hm2⟩ := List.mem_flatMap.1 hy
    obtain ⟨j, hj⟩ := List.mem_iff_getElem?.1 hm1
    rw [List.getElem?_take] at hj
    split at hj
    · have := hR.kok j m hj y hm2; omega
    · cases hj
  rw [List.count_append, List.count_append, unC_count, unC_count, htk, allKids_snoc, List.count_singleton]
  have ha : x ∈ allKids (t.nodes.take i) ↔ 0 < (allKids (t.nodes.take i)).count x := List.count_pos_iff.symm
  have hb : x ∈ n.kids ↔ 0 < n.kids.count x := List.count_pos_iff.symm
  by_cases hxi : x = (i : Int)
  · subst hxi
    have h0 : n.kids.count (i : Int) = 0 := List.count_eq_zero.2 fun hm => by have := hko _ hm; omega
    have h1 : (i : Int) ∉ allKids (t.nodes.take i) := fun hm => by have := hlt _ hm; omega
    rw [if_pos ⟨by omega, by omega, by rw [List.mem_append]; rintro (h | h); exact h1 h; rw [hb] at h; omega⟩, if_neg (by omega), h0]
    simp
  · have hne : ((i : Int) == x) = false := by simp; omega
    rw [hne]
    simp only [Bool.false_eq_true, if_false, Nat.add_zero]
    by_cases hm : x ∈ n.kids
    · have := hko x hm
      have hc1 := hb.1 hm
      rw [if_neg (fun hh => hh.2.2 (by rw [List.mem_append]; exact .inr hm)), if_pos ⟨this.1, this.2, fun hh => by have := ha.1 hh; omega⟩]
      omega
    · have h0 : n.kids.count x = 0 := List.count_eq_zero.2 hm
      rw [h0, Nat.add_zero]
      by_cases hq : 0 ≤ x ∧ x < (i : Int) ∧ x ∉ allKids (t.nodes.take i)
      · rw [if_pos hq, if_pos ⟨hq.1, by omega, by rw [List.mem_append]; rintro (h | h); exact hq.2.2 h; exact hm h⟩]
      · rw [if_neg hq, if_neg (fun hh => hq ⟨hh.1, by omega, fun h => hh.2.2 (by rw [List.mem_append]; exact .inl h)⟩)]
/-- what holds ahead of node i -/
structure MInv (t : Tre) (i : Nat) (ar : List Nod) (pl : List Int) : Prop where
  len : pl.length = i
  kok : KOk ar
  den : ∀ k : Nat, k < i → Den ar (pl.getD k 0) (foOf t.nodes t.nodes.length [(k : Int)]).nrm
  alen : ar.length ≤ i
  nd : ∀ x, (dfs (chOf ar) ar.length ((unC t i).map fun k => pl.getD k.toNat 0)).count x ≤ 1
theorem MInv.zero (t : Tre) : MInv t 0 [] [] := ⟨rfl, fun i n h => by simp at h, fun k h => by omega, Nat.le_refl _, fun x => by simp [unC, dfs]⟩
theorem places {t : Tre} {i : Nat} {ar : List Nod} {pl : List Int} (h : MInv t i ar pl) (hN : i ≤ t.nodes.length) : ∀ (l : List Int), (∀ k ∈ l, 0 ≤ k ∧ k < (i : Int)) →
    (∀ p ∈ l.map (fun k => pl.getD k.toNat 0), 0 ≤ p ∧ p < ar.length) ∧ foOf ar ar.length (l.map fun k => pl.getD k.toNat 0) = (foOf t.nodes t.nodes.length l).nrm
  | [], _ => by simp [foOf_nil, Fo.nrm]
  | k :: l, hl => by
    have hk := hl k (by simp)
    obtain ⟨a, b⟩ := places h hN l (fun x hx => hl x (by simp [hx]))
    have hd := h.den k.toNat (by omega)
    rw [show ((k.toNat : Nat) : Int) = k by omega] at hd
    have h1 := hd.pos
    have h2 := hd.lt
    refine ⟨?_, ?_⟩
    · intro p hp
      rw [List.map_cons] at hp
      rcases List.mem_cons.1 hp with rfl | hp
      · exact ⟨h1, h2⟩
      · exact a p hp
    · rw [List.map_cons, foOf_split _ _ (by omega), hd.fo, b, foOf_split k l (by omega), Fo.nrm_app]
theorem foOf_node {t : Tre} (hR : RightT t) {i : Nat} {n : Nod} (hn : t.nodes[i]? = some n) : foOf t.nodes t.nodes.length [(i : Int)] = .cons { n with kids := [] } (foOf t.nodes t.nodes.length n.kids) .nil := by
  obtain ⟨hi, _⟩ := List.getElem?_eq_some_iff.1 hn
  obtain ⟨f, hf⟩ : ∃ f, t.nodes.length = f + 1 := ⟨t.nodes.length - 1, by omega⟩
  have hko := hR.kok i n hn
  rw [hf, foOf_cons, foOf_nil, ← chOf_get hn, foOf_fuel hR.kok.chOf f (f + 1) n.kids (fun k hk => by have := hko k hk; omega) (fun k hk => by have := hko k hk; omega)]
  congr 1
  unfold dat
  rw [Int.toNat_natCast, List.getD_eq_getElem?_getD, hn]
  rfl
theorem getD_snoc (pl : List Int) (p : Int) (k : Nat) : (pl ++ [p]).getD k 0 = if k < pl.length then pl.getD k 0 else if k = pl.length then p else 0 := by
  rw [List.getD_eq_getElem?_getD, List.getD_eq_getElem?_getD]
  split
  · rw [List.getElem?_append_left (by omega)]
  · split
    · rename_i h; subst h; simp
    · rw [List.getElem?_eq_none (by simp; omega)]; rfl
theorem dfs_len {ar : List Nod} (hc : ChOk (chOf ar)) {f : Nat} (l : List Int) (hl : ∀ k ∈ l, 0 ≤ k ∧ k < ar.length) (hf : ar.length ≤ f) : dfs (chOf ar) f l = dfs (chOf ar) ar.length l :=
  dfs_fuel hc f ar.length l (fun k hk => by have := hl k hk; omega) (fun k hk => (hl k hk).2)
theorem sublist_flatMap_count {P K : List Int} (h : P.Sublist K) (f : Int → List Int) (x : Int) : (P.flatMap f).count x ≤ (K.flatMap f).count x := by
  induction h with
  | slnil => exact Nat.le_refl _
  | cons a _ ih => rw [List.flatMap_cons, List.count_append]; omega
  | cons_cons a _ ih => rw [List.flatMap_cons, List.flatMap_cons, List.count_append, List.count_append]; omega
theorem dfs_sub_count {ch : Int → List Int} {f : Nat} {P K : List Int} (h : P.Sublist K) (x : Int) : (dfs ch f P).count x ≤ (dfs ch f K).count x := by
  cases f with
  | zero => exact Nat.le_refl _
  | succ f => exact sublist_flatMap_count h _ x
theorem dfs_perm {ch : Int → List Int} {f : Nat} {P K : List Int} (h : P.Perm K) (x : Int) : (dfs ch f P).count x = (dfs ch f K).count x := by
  cases f with
  | zero => rfl
  | succ f => exact (h.flatMap_right _).count_eq x

/-- one round -/
theorem MInv.step {t : Tre} (hR : RightT t) {i : Nat} {n : Nod} (hn : t.nodes[i]? = some n) {ar : List Nod} {pl : List Int} (h : MInv t i ar pl) :
    MInv t (i + 1) (comeA ar n (n.kids.map fun k => pl.getD k.toNat 0)).1 (pl ++ [(comeA ar n (n.kids.map fun k => pl.getD k.toNat 0)).2]) := by
  obtain ⟨hi, _⟩ := List.getElem?_eq_some_iff.1 hn
  have hko := hR.kok i n hn
  obtain ⟨hK, hF⟩ := places h (by omega) n.kids hko
  have hcome := comeA_come (n := n) h.kok hK hF
  rw [← foOf_node hR hn] at hcome
  generalize comeA ar n (n.kids.map fun k => pl.getD k.toNat 0) = r at *
  obtain ⟨ar', p⟩ := r
  obtain ⟨hden, hkok, hgrow⟩ := hcome
  simp only at hden hkok hgrow ⊢
  have hc := h.kok.chOf
  have hc' := hkok.chOf
  have hpl := h.len
  have hg : ∀ k : Nat, k < i → (pl ++ [p]).getD k 0 = pl.getD k 0 := fun k hk => by rw [getD_snoc, if_pos (by omega)]
  have hgi : (pl ++ [p]).getD i 0 = p := by rw [getD_snoc, if_neg (by omega), if_pos hpl.symm]
  have happ : ∃ xs, ar' = ar ++ xs := by
    rcases hgrow with ⟨rfl, _⟩ | ⟨x, rfl, _⟩
    · exact ⟨[], by simp⟩
    · exact ⟨[x], rfl⟩
  obtain ⟨xs, hxs⟩ := happ
  refine ⟨by simp [hpl], hkok, fun k hk => ?_, ?_, fun x => ?_⟩
  · by_cases hki : k = i
    · subst hki
      rw [hgi]; exact hden
    · rw [hg k (by omega), hxs]
      exact (h.den k (by omega)).app hc
  · have := h.alen
    rcases hgrow with ⟨rfl, _⟩ | ⟨x, rfl, _⟩
    · omega
    · simp; omega
  · -- counts
    have hperm := (unC_perm hR hn).map (fun k : Int => (pl ++ [p]).getD k.toNat 0)
    rw [List.map_append, List.map_append, List.map_cons, List.map_nil, Int.toNat_natCast, hgi] at hperm
    have e1 : n.kids.map (fun k : Int => (pl ++ [p]).getD k.toNat 0) = n.kids.map fun k => pl.getD k.toNat 0 := List.map_congr_left fun k hk => hg _ (by have := hko k hk; omega)
    have hul : ∀ k ∈ unC t i, 0 ≤ k ∧ k < (i : Int) := by
      intro k hk
      have h1 := List.count_pos_iff.2 hk
      rw [unC_count] at h1
      split at h1
      · rename_i hh; exact ⟨hh.1, hh.2.1⟩
      · omega
    have e2 : (unC t i).map (fun k : Int => (pl ++ [p]).getD k.toNat 0) = (unC t i).map fun k => pl.getD k.toNat 0 := List.map_congr_left fun k hk => hg _ (by have := hul k hk; omega)
    rw [e1, e2] at hperm
    obtain ⟨hU, _⟩ := places h (by omega) (unC t i) hul
    have hcnt := dfs_perm (ch := chOf ar') (f := ar'.length) hperm x
    rw [dfs_append, dfs_append, List.count_append, List.count_append] at hcnt
    have hnd := h.nd x
    have hlen : ar.length ≤ ar'.length := by rw [hxs]; simp
    have eU : dfs (chOf ar') ar'.length ((unC t i).map fun k => pl.getD k.toNat 0) = dfs (chOf ar) ar.length ((unC t i).map fun k => pl.getD k.toNat 0) := by
      rw [← dfs_len hc _ hU hlen]
      have e3 := dfs_app2 (xs := xs) hc ar'.length _ hU
      rw [← hxs] at e3
      exact e3
    rw [eU] at hcnt
    generalize hKl : n.kids.map (fun k => pl.getD k.toNat 0) = K at *
    rcases hgrow with ⟨_, hp⟩ | ⟨y, rfl, rfl, hs⟩
    · have := dfs_sub_count (ch := chOf ar') (f := ar'.length) (List.singleton_sublist.2 hp) x
      omega
    · have hyk : ∀ k ∈ y.kids, 0 ≤ k ∧ k < (ar.length : Int) := fun k hk => hK k (hs.subset hk)
      rw [dfs_cons hc' (by omega) (by simp; omega), dfs_nil, List.append_nil, chOf_last, List.count_cons] at hcnt
      have h2 := dfs_sub_count (ch := chOf (ar ++ [y])) (f := (ar ++ [y]).length) hs x
      by_cases hx : x = (ar.length : Int)
      · subst hx
        have : (dfs (chOf ar) ar.length ((unC t i).map fun k => pl.getD k.toNat 0)).count (ar.length : Int) = 0 := List.count_eq_zero.2 fun hm => by have := dfs_mem hc _ _ hU _ hm; omega
        rw [this] at hcnt
        simp only [beq_self_eq_true, if_true] at hcnt
        omega
      · have : ((ar.length : Int) == x) = false := by simp; omega
        rw [this] at hcnt
        simp only [Bool.false_eq_true, if_false] at hcnt
        omega
end Go.Bonsai

namespace Go.Bonsai

theorem foOf_appL {ns : List Nod} {f : Nat} (hf : 0 < f) : ∀ (a b : List Int), foOf ns f (a ++ b) = (foOf ns f a).app (foOf ns f b)
  | [], b => by rw [foOf_nil]; rfl
  | k :: a, b => by rw [List.cons_append, foOf_split k _ hf, foOf_split k a hf, foOf_appL hf a b, Fo.appA]
theorem foOf_at {ns : List Nod} (hc : ChOk (chOf ns)) {k : Int} (h0 : 0 ≤ k) (hk : k < ns.length) : foOf ns ns.length [k] = .cons (dat ns k) (foOf ns ns.length (chOf ns k)) .nil := by
  obtain ⟨f, hf⟩ : ∃ f, ns.length = f + 1 := ⟨ns.length - 1, by omega⟩
  rw [hf, foOf_cons, foOf_nil, foOf_fuel hc f (f + 1) (chOf ns k) (fun x hx => by have := hc k x hx; omega) (fun x hx => by have := hc k x hx; omega)]

/-- those of a kind, all the way -/
def Fo.opnR (k : Int) : Fo → Fo
  | .nil => .nil
  | .cons m j r => if m.kind = k then (j.opnR k).app (r.opnR k) else .cons m j (r.opnR k)
theorem Fo.opnR_app (k : Int) : ∀ F G : Fo, (F.app G).opnR k = (F.opnR k).app (G.opnR k)
  | .nil, _ => rfl
  | .cons m j r, G => by
    simp only [Fo.app, Fo.opnR]
    split
    · rw [Fo.opnR_app k r G, Fo.appA]
    · rw [Fo.opnR_app k r G, Fo.app]
theorem Fo.opnR_opF {k : Int} (hk : k = 4 ∨ k = 5) : ∀ F : Fo, (F.opnR k).opF = F.opF.opn k
  | .nil => rfl
  | .cons m j r => by
    simp only [Fo.opnR, Fo.opF, Fo.opn]
    split
    · rename_i hm
      rw [Fo.opF_app, Fo.opnR_opF hk j, Fo.opnR_opF hk r, hm, if_pos hk]
    · rw [Fo.opF, Fo.opnR_opF hk r]

def openI (ns : List Nod) (kind : Int) : Nat → List Int → List Int
  | 0, _ => []
  | f + 1, l => l.flatMap fun i => if kindA ns i = kind then openI ns kind f (chOf ns i) else [i]
theorem openI_nil (ns : List Nod) (kind : Int) (f : Nat) : openI ns kind f [] = [] := by cases f <;> rfl
theorem openI_app (ns : List Nod) (kind : Int) (f : Nat) (a b : List Int) : openI ns kind f (a ++ b) = openI ns kind f a ++ openI ns kind f b := by cases f <;> simp [openI]
theorem openI_fuel {ns : List Nod} {kind : Int} (h : ChOk (chOf ns)) : ∀ (f g : Nat) (l : List Int), (∀ k ∈ l, 0 ≤ k ∧ k < f) → (∀ k ∈ l, k < g) → openI ns kind f l = openI ns kind g l
  | 0, g, l, hf, hg => by
    cases l with
    | nil => rw [openI_nil, openI_nil]
    | cons k l => have := hf k (by simp); omega
  | f + 1, 0, l, hf, hg => by
    cases l with
    | nil => rw [openI_nil, openI_nil]
    | cons k l =>
      have := hf k (by simp)
      have := hg k (by simp)
      omega
  | f + 1, g + 1, l, hf, hg => by
    show l.flatMap _ = l.flatMap _
    rw [List.flatMap_def, List.flatMap_def]
    congr 1
    apply List.map_congr_left
    intro k hk
    have h1 := hf k hk
    have h2 := hg k hk
    rw [openI_fuel h f g (chOf ns k) (fun x hx => ⟨(h k x hx).1, by have := (h k x hx).2; omega⟩) (fun x hx => by have := (h k x hx).2; omega)]
theorem openI_cons {ns : List Nod} {kind : Int} (h : ChOk (chOf ns)) {f : Nat} {k : Int} {l : List Int} (h0 : 0 ≤ k) (hk : k < f) :
    openI ns kind f (k :: l) = (if kindA ns k = kind then openI ns kind f (chOf ns k) else [k]) ++ openI ns kind f l := by
  cases f with
  | zero => omega
  | succ f =>
    have e : openI ns kind f (chOf ns k) = openI ns kind (f + 1) (chOf ns k) := openI_fuel h f (f + 1) (chOf ns k) (fun x hx => ⟨(h k x hx).1, by have := (h k x hx).2; omega⟩) (fun x hx => by have := (h k x hx).2; omega)
    rw [← e]
    simp [openI]
theorem openI_mem {ns : List Nod} {kind : Int} (h : ChOk (chOf ns)) : ∀ (f : Nat) (l : List Int), (∀ k ∈ l, 0 ≤ k ∧ k < f) → ∀ x ∈ openI ns kind f l, (0 ≤ x ∧ x < f) ∧ kindA ns x ≠ kind
  | 0, l, _, x, hx => by cases hx
  | f + 1, l, hl, x, hx => by
    simp only [openI, List.mem_flatMap] at hx
    obtain ⟨k, hk, hx⟩ := hx
    have h1 := hl k hk
    split at hx
    · have := openI_mem h f (chOf ns k) (fun y hy => by have := h k y hy; omega) x hx
      exact ⟨by omega, this.2⟩
    · rename_i hne
      simp at hx
      subst hx
      exact ⟨by omega, hne⟩
theorem openI_plain {ns : List Nod} {kind : Int} {f : Nat} (hf : 0 < f) : ∀ (l : List Int), (∀ k ∈ l, kindA ns k ≠ kind) → openI ns kind f l = l
  | [], _ => openI_nil _ _ _
  | k :: l, hl => by
    obtain ⟨g, rfl⟩ : ∃ g, f = g + 1 := ⟨f - 1, by omega⟩
    have ih := openI_plain (ns := ns) (kind := kind) hf l (fun x hx => hl x (by simp [hx]))
    simp only [openI] at ih ⊢
    rw [List.flatMap_cons, ih, if_neg (hl k (by simp))]
    rfl
/-- a node's kids, opened -/
def chO (ns : List Nod) (k : Int) : List Int := if kindA ns k = 4 ∨ kindA ns k = 5 then openI ns (kindA ns k) ns.length (chOf ns k) else chOf ns k
theorem chOf_lt {ns : List Nod} {k x : Int} (h : x ∈ chOf ns k) : 0 ≤ k ∧ k < ns.length := by
  refine ⟨?_, ?_⟩
  · by_cases h0 : 0 ≤ k
    · exact h0
    · unfold chOf at h; rw [if_pos (by omega)] at h; cases h
  · by_cases h0 : k < (ns.length : Int)
    · exact h0
    · rw [chOf_none (by omega)] at h; cases h
theorem chO_ok {ns : List Nod} (h : ChOk (chOf ns)) : ChOk (chO ns) := by
  intro k x hx
  unfold chO at hx
  split at hx
  · by_cases he : chOf ns k = []
    · rw [he, openI_nil] at hx; cases hx
    · obtain ⟨y, hy⟩ := List.exists_mem_of_ne_nil _ he
      have hk := chOf_lt hy
      rw [openI_fuel h ns.length k.toNat (chOf ns k) (fun z hz => by have := h k z hz; omega) (fun z hz => by have := h k z hz; omega)] at hx
      have := (openI_mem h k.toNat (chOf ns k) (fun z hz => by have := h k z hz; omega) x hx).1
      omega
  · exact h k x hx
theorem foOf_openI {ns : List Nod} {kind : Int} (h : ChOk (chOf ns)) : ∀ (f : Nat) (l : List Int), (∀ k ∈ l, 0 ≤ k ∧ k < f) → f ≤ ns.length → foOf ns ns.length (openI ns kind f l) = (foOf ns ns.length l).opnR kind
  | 0, l, hl, _ => by
    cases l with
    | nil => rw [openI_nil, foOf_nil]; rfl
    | cons k l => have := hl k (by simp); omega
  | f + 1, [], _, _ => by rw [openI_nil, foOf_nil]; rfl
  | f + 1, k :: l, hl, hf => by
    have hk := hl k (by simp)
    have ih := foOf_openI h (kind := kind) (f + 1) l (fun x hx => hl x (by simp [hx])) hf
    rw [openI_cons h hk.1 (by omega), foOf_appL (by omega), ih, foOf_split k l (by omega), Fo.opnR_app, foOf_at h hk.1 (by omega)]
    congr 1
    have hd : (dat ns k).kind = kindA ns k := rfl
    simp only [Fo.opnR, hd, Fo.appN]
    split
    · rw [openI_fuel h (f + 1) f (chOf ns k) (fun x hx => by have := h k x hx; omega) (fun x hx => by have := h k x hx; omega)]
      exact foOf_openI h f (chOf ns k) (fun x hx => by have := h k x hx; omega) (by omega)
    · exact foOf_at h hk.1 (by omega)

/-- the arena with all kids opened -/
def opA (ns : List Nod) : List Nod := (List.range ns.length).map fun i => { ns.getD i .zero with kids := chO ns (i : Int) }
theorem opA_len (ns : List Nod) : (opA ns).length = ns.length := by simp [opA]
theorem opA_get {ns : List Nod} {i : Nat} (h : i < ns.length) : (opA ns)[i]? = some { ns.getD i .zero with kids := chO ns (i : Int) } := by simp [opA, h]
theorem chO_none {ns : List Nod} {k : Int} (h : ¬ (0 ≤ k ∧ k < ns.length)) : chO ns k = [] := by
  have he : chOf ns k = [] := by
    cases hc : chOf ns k with
    | nil => rfl
    | cons x l => exact absurd (chOf_lt (x := x) (by rw [hc]; simp)) h
  unfold chO
  rw [he, openI_nil]
  split <;> rfl
theorem chOf_opA (ns : List Nod) (k : Int) : chOf (opA ns) k = chO ns k := by
  by_cases h : 0 ≤ k ∧ k < ns.length
  · obtain ⟨i, rfl⟩ : ∃ i : Nat, k = i := ⟨k.toNat, by omega⟩
    exact (chOf_get (opA_get (by omega))).symm
  · rw [chO_none h]
    cases hc : chOf (opA ns) k with
    | nil => rfl
    | cons x l =>
      have := chOf_lt (ns := opA ns) (x := x) (k := k) (by rw [hc]; simp)
      rw [opA_len] at this
      exact absurd this h
theorem opA_chOk {ns : List Nod} (h : ChOk (chOf ns)) : ChOk (chOf (opA ns)) := by
  intro k x hx
  rw [chOf_opA] at hx
  exact chO_ok h k x hx
theorem dat_opA {ns : List Nod} {k : Int} (h0 : 0 ≤ k) (h : k < ns.length) : dat (opA ns) k = dat ns k := by
  obtain ⟨i, rfl⟩ : ∃ i : Nat, k = i := ⟨k.toNat, by omega⟩
  unfold dat
  rw [Int.toNat_natCast, List.getD_eq_getElem?_getD, opA_get (by omega)]
  rfl
theorem foOf_opA {ns : List Nod} (h : ChOk (chOf ns)) : ∀ (m : Nat) (l : List Int), (∀ k ∈ l, 0 ≤ k ∧ k < m) → m ≤ ns.length → foOf (opA ns) ns.length l = (foOf ns ns.length l).opF
  | 0, l, hl, _ => by
    cases l with
    | nil => rw [foOf_nil, foOf_nil]; rfl
    | cons k l => have := hl k (by simp); omega
  | m + 1, [], _, _ => by rw [foOf_nil, foOf_nil]; rfl
  | m + 1, k :: l, hl, hm => by
    have hk := hl k (by simp)
    have ih := foOf_opA h (m + 1) l (fun x hx => hl x (by simp [hx])) hm
    have hc := opA_chOk h
    have e1 := foOf_at (ns := opA ns) hc hk.1 (by rw [opA_len]; omega)
    rw [opA_len] at e1
    rw [foOf_split k l (by omega), ih, e1, foOf_split (ns := ns) k l (by omega), Fo.opF_app, foOf_at h hk.1 (by omega), dat_opA hk.1 (by omega), chOf_opA,
      foOf_opA h m (chO ns k) (fun x hx => by have := chO_ok h k x hx; omega) (by omega)]
    congr 1
    simp only [Fo.opF]
    have hd : (dat ns k).kind = kindA ns k := rfl
    rw [hd]
    congr 1
    unfold chO
    split
    · rename_i hkk
      rw [foOf_openI h ns.length (chOf ns k) (fun x hx => by have := h k x hx; omega) (Nat.le_refl _), Fo.opnR_opF hkk]
    · rfl
theorem dfs_openI {ns : List Nod} {kind : Int} (h : ChOk (chOf ns)) (x : Int) : ∀ (f : Nat) (l : List Int), (∀ k ∈ l, 0 ≤ k ∧ k < f) → f ≤ ns.length → (dfs (chOf ns) ns.length (openI ns kind f l)).count x ≤ (dfs (chOf ns) ns.length l).count x
  | 0, l, hl, _ => by
    cases l with
    | nil => rw [openI_nil]; exact Nat.le_refl _
    | cons k l => have := hl k (by simp); omega
  | f + 1, [], _, _ => by rw [openI_nil]; exact Nat.le_refl _
  | f + 1, k :: l, hl, hf => by
    have hk := hl k (by simp)
    have ih := dfs_openI h (kind := kind) x (f + 1) l (fun x hx => hl x (by simp [hx])) hf
    rw [openI_cons h hk.1 (by omega), dfs_append, List.count_append, dfs_cons h hk.1 (by omega), List.count_cons, List.count_append]
    split
    · rw [openI_fuel h (f + 1) f (chOf ns k) (fun x hx => by have := h k x hx; omega) (fun x hx => by have := h k x hx; omega)]
      have := dfs_openI h (kind := kind) x f (chOf ns k) (fun x hx => by have := h k x hx; omega) (by omega)
      omega
    · rw [dfs_cons h hk.1 (by omega), dfs_nil, List.append_nil, List.count_cons]
      omega
theorem dfs_chO {ns : List Nod} (h : ChOk (chOf ns)) (x : Int) : ∀ (m : Nat) (l : List Int), (∀ k ∈ l, 0 ≤ k ∧ k < m) → m ≤ ns.length → (dfs (chO ns) ns.length l).count x ≤ (dfs (chOf ns) ns.length l).count x
  | 0, l, hl, _ => by
    cases l with
    | nil => rw [dfs_nil]; exact Nat.zero_le _
    | cons k l => have := hl k (by simp); omega
  | m + 1, [], _, _ => by rw [dfs_nil]; exact Nat.zero_le _
  | m + 1, k :: l, hl, hm => by
    have hk := hl k (by simp)
    have ih := dfs_chO h x (m + 1) l (fun x hx => hl x (by simp [hx])) hm
    rw [dfs_cons (chO_ok h) hk.1 (by omega), dfs_cons h hk.1 (by omega), List.count_cons, List.count_cons, List.count_append, List.count_append]
    have h1 := dfs_chO h x m (chO ns k) (fun x hx => by have := chO_ok h k x hx; omega) (by omega)
    have h2 : (dfs (chOf ns) ns.length (chO ns k)).count x ≤ (dfs (chOf ns) ns.length (chOf ns k)).count x := by
      unfold chO
      split
      · exact dfs_openI h x ns.length (chOf ns k) (fun x hx => by have := h k x hx; omega) (Nat.le_refl _)
      · exact Nat.le_refl _
    omega
/-- what is taken out of an arena -/
theorem taken_fo {ns : List Nod} (hc : ChOk (chOf ns)) {r node : Int} (h0 : 0 ≤ node) (hn : node < ns.length) (hnd : (dfsP (chOf ns) ns.length [node]).Nodup) : takenP ⟨ns, r⟩ node = treT (foOf ns ns.length [node]) := by
  obtain ⟨pl, h1, h2, h3, h4⟩ := takenGo_fo hc ns.length [node] 0 (List.replicate ns.length 0) [] (by intro k hk; simp at hk; subst hk; exact ⟨h0, hn⟩) (Nat.le_refl _) (by simp) hnd
  unfold takenP treT behindP
  rw [size_dfsP]
  simp only [List.append_nil] at h2
  rw [h2]
  simp [takenGo]
theorem chO_nodup {ns : List Nod} (h : ChOk (chOf ns)) {node : Int} (h0 : 0 ≤ node) (hn : node < ns.length) (hnd : ∀ x, (dfs (chOf ns) ns.length [node]).count x ≤ 1) : (dfs (chO ns) ns.length [node]).Nodup :=
  List.nodup_iff_count.2 fun x => Nat.le_trans (dfs_chO h x ns.length [node] (by intro k hk; simp at hk; subst hk; exact ⟨h0, hn⟩) (Nat.le_refl _)) (hnd x)
theorem taken_opA {ns : List Nod} (h : ChOk (chOf ns)) {r node : Int} (h0 : 0 ≤ node) (hn : node < ns.length) (hnd : ∀ x, (dfs (chOf ns) ns.length [node]).count x ≤ 1) :
    takenP ⟨opA ns, r⟩ node = treT (foOf ns ns.length [node]).opF := by
  have hch : chOf (opA ns) = chO ns := funext fun k => chOf_opA ns k
  rw [taken_fo (opA_chOk h) h0 (by rw [opA_len]; exact hn) (by rw [(dfsP_perm _ _ _).nodup_iff, hch, opA_len]; exact chO_nodup h h0 hn hnd), opA_len,
    foOf_opA h ns.length [node] (by intro k hk; simp at hk; subst hk; exact ⟨h0, hn⟩) (Nat.le_refl _)]

/-! ### some opened already -/
structure Mod (ns ns' : List Nod) : Prop where
  len : ns'.length = ns.length
  get : ∀ (i : Nat) n, ns[i]? = some n → ∃ ks, ns'[i]? = some { n with kids := ks } ∧ (ks = chOf ns i ∨ ks = chO ns i)
theorem Mod.refl (ns : List Nod) : Mod ns ns := ⟨rfl, fun i n h => ⟨n.kids, h, .inl (chOf_get h)⟩⟩
theorem Mod.kind {ns ns' : List Nod} (h : Mod ns ns') (k : Int) : kindA ns' k = kindA ns k := by
  unfold kindA
  rw [List.getD_eq_getElem?_getD, List.getD_eq_getElem?_getD]
  cases hg : ns[k.toNat]? with
  | none =>
    have := List.getElem?_eq_none_iff.1 hg
    rw [List.getElem?_eq_none (by rw [h.len]; exact this)]
  | some n =>
    obtain ⟨ks, h1, _⟩ := h.get _ n hg
    rw [h1]
    rfl
theorem Mod.ch {ns ns' : List Nod} (h : Mod ns ns') (k : Int) : chOf ns' k = chOf ns k ∨ chOf ns' k = chO ns k := by
  by_cases hk : 0 ≤ k ∧ k < ns.length
  · obtain ⟨i, rfl⟩ : ∃ i : Nat, k = i := ⟨k.toNat, by omega⟩
    obtain ⟨ks, h1, h2⟩ := h.get i _ (List.getElem?_eq_getElem (by omega))
    have := chOf_get h1
    simp only at this
    rw [← this]
    exact h2
  · left
    have e : ∀ ms : List Nod, ms.length = ns.length → chOf ms k = [] := by
      intro ms hm
      cases hc : chOf ms k with
      | nil => rfl
      | cons x l =>
        have := chOf_lt (ns := ms) (x := x) (k := k) (by rw [hc]; simp)
        rw [hm] at this
        exact absurd this hk
    rw [e ns rfl, e ns' h.len]
theorem Mod.chOk {ns ns' : List Nod} (hc : ChOk (chOf ns)) (h : Mod ns ns') : ChOk (chOf ns') := by
  intro k x hx
  rcases h.ch k with e | e <;> rw [e] at hx
  · exact hc k x hx
  · exact chO_ok hc k x hx
theorem Mod.openI {ns ns' : List Nod} (hc : ChOk (chOf ns)) (h : Mod ns ns') {kind : Int} (hkd : kind = 4 ∨ kind = 5) : ∀ (f : Nat) (l : List Int), (∀ k ∈ l, 0 ≤ k ∧ k < f) → Bonsai.openI ns' kind f l = Bonsai.openI ns kind f l
  | 0, l, _ => rfl
  | f + 1, l, hl => by
    show l.flatMap _ = l.flatMap _
    rw [List.flatMap_def, List.flatMap_def]
    congr 1
    apply List.map_congr_left
    intro k hk
    have h1 := hl k hk
    rw [h.kind]
    by_cases hkk : kindA ns k = kind
    · rw [if_pos hkk, if_pos hkk]
      rcases h.ch k with e | e
      · rw [e]
        exact Mod.openI hc h hkd f (chOf ns k) (fun x hx => by have := hc k x hx; omega)
      · rw [e]
        have e2 : chO ns k = Bonsai.openI ns kind ns.length (chOf ns k) := by unfold chO; rw [hkk, if_pos hkd]
        have hm := chO_ok hc
        by_cases he : chOf ns k = []
        · rw [e2, he, openI_nil, openI_nil, openI_nil]
        · obtain ⟨y, hy⟩ := List.exists_mem_of_ne_nil _ he
          have hkl := chOf_lt hy
          have hyk := hc k y hy
          have e3 : Bonsai.openI ns kind ns.length (chOf ns k) = Bonsai.openI ns kind f (chOf ns k) := openI_fuel hc _ _ _ (fun x hx => by have := hc k x hx; omega) (fun x hx => by have := hc k x hx; omega)
          rw [openI_plain (by omega) _ (fun x hx => by
            rw [h.kind]
            rw [e2] at hx
            exact (openI_mem hc ns.length (chOf ns k) (fun z hz => by have := hc k z hz; omega) x hx).2), e2, e3]
    · rw [if_neg hkk, if_neg hkk]
theorem Mod.chO {ns ns' : List Nod} (hc : ChOk (chOf ns)) (h : Mod ns ns') (k : Int) : Bonsai.chO ns' k = Bonsai.chO ns k ∨ ¬ (kindA ns k = 4 ∨ kindA ns k = 5) := by
  by_cases hkk : kindA ns k = 4 ∨ kindA ns k = 5
  · left
    unfold Bonsai.chO
    rw [h.kind, h.len, if_pos hkk, if_pos hkk]
    rcases h.ch k with e | e
    · rw [e]
      exact Mod.openI hc h hkk _ _ (fun x hx => by have := hc k x hx; have := chOf_lt hx; omega)
    · rw [e]
      have e2 : Bonsai.chO ns k = Bonsai.openI ns (kindA ns k) ns.length (chOf ns k) := by unfold Bonsai.chO; rw [if_pos hkk]
      by_cases he : chOf ns k = []
      · rw [e2, he, openI_nil, openI_nil]
      · obtain ⟨y, hy⟩ := List.exists_mem_of_ne_nil _ he
        have hkl := chOf_lt hy
        rw [openI_plain (by omega) _ (fun x hx => by
          rw [h.kind]
          rw [e2] at hx
          exact (openI_mem hc ns.length (chOf ns k) (fun z hz => by have := hc k z hz; omega) x hx).2), e2]
  · exact .inr hkk
end Go.Bonsai

namespace Go.Bonsai
theorem dfs_openI_len {ns : List Nod} {kind : Int} (h : ChOk (chOf ns)) : ∀ (f : Nat) (l : List Int), (∀ k ∈ l, 0 ≤ k ∧ k < f) → f ≤ ns.length → (dfs (chOf ns) ns.length (openI ns kind f l)).length ≤ (dfs (chOf ns) ns.length l).length
  | 0, l, hl, _ => by
    cases l with
    | nil => rw [openI_nil]; exact Nat.le_refl _
    | cons k l => have := hl k (by simp); omega
  | f + 1, [], _, _ => by rw [openI_nil]; exact Nat.le_refl _
  | f + 1, k :: l, hl, hf => by
    have hk := hl k (by simp)
    have ih := dfs_openI_len h (kind := kind) (f + 1) l (fun x hx => hl x (by simp [hx])) hf
    rw [openI_cons h hk.1 (by omega), dfs_append, List.length_append, dfs_cons h hk.1 (by omega), List.length_cons, List.length_append]
    split
    · rw [openI_fuel h (f + 1) f (chOf ns k) (fun x hx => by have := h k x hx; omega) (fun x hx => by have := h k x hx; omega)]
      have := dfs_openI_len h (kind := kind) f (chOf ns k) (fun x hx => by have := h k x hx; omega) (by omega)
      omega
    · rw [dfs_cons h hk.1 (by omega), dfs_nil, List.append_nil, List.length_cons]
      omega
theorem Mod.dfs_len {ns ms : List Nod} (h : ChOk (chOf ns)) (hm : Mod ns ms) : ∀ (m : Nat) (l : List Int), (∀ k ∈ l, 0 ≤ k ∧ k < m) → m ≤ ns.length → (dfs (chOf ms) ns.length l).length ≤ (dfs (chOf ns) ns.length l).length
  | 0, l, hl, _ => by
    cases l with
    | nil => rw [dfs_nil]; exact Nat.zero_le _
    | cons k l => have := hl k (by simp); omega
  | m + 1, [], _, _ => by rw [dfs_nil]; exact Nat.zero_le _
  | m + 1, k :: l, hl, hm' => by
    have hk := hl k (by simp)
    have ih := Mod.dfs_len h hm (m + 1) l (fun x hx => hl x (by simp [hx])) hm'
    have hok := Mod.chOk h hm
    rw [dfs_cons hok hk.1 (by omega), dfs_cons h hk.1 (by omega), List.length_cons, List.length_cons, List.length_append, List.length_append]
    have h1 := Mod.dfs_len h hm m (chOf ms k) (fun x hx => by have := hok k x hx; omega) (by omega)
    have h2 : (dfs (chOf ns) ns.length (chOf ms k)).length ≤ (dfs (chOf ns) ns.length (chOf ns k)).length := by
      rcases hm.ch k with e | e
      · rw [e]; exact Nat.le_refl _
      · rw [e]
        unfold Bonsai.chO
        split
        · exact dfs_openI_len h ns.length (chOf ns k) (fun x hx => by have := h k x hx; have := chOf_lt hx; omega) (Nat.le_refl _)
        · exact Nat.le_refl _
    omega
theorem Mod.set {ns ms : List Nod} (hm : Mod ns ms) {i : Nat} {m : Nod} (hi : ms[i]? = some m) : Mod ns (ms.set i { m with kids := Bonsai.chO ns (i : Int) }) := by
  refine ⟨by simp [hm.len], fun j n hj => ?_⟩
  obtain ⟨ks, h1, h2⟩ := hm.get j n hj
  by_cases hij : i = j
  · subst hij
    rw [hi] at h1
    injection h1 with h1
    refine ⟨Bonsai.chO ns (i : Int), ?_, .inr rfl⟩
    rw [List.getElem?_set_self (by exact (List.getElem?_eq_some_iff.1 hi).1), h1]
  · exact ⟨ks, by rw [List.getElem?_set_ne hij]; exact h1, h2⟩
theorem nodup_len : ∀ {N : Nat} {l : List Int}, l.Nodup → (∀ k ∈ l, 0 ≤ k ∧ k < N) → l.length ≤ N
  | 0, [], _, _ => Nat.le_refl _
  | 0, k :: l, _, h => by have := h k (by simp); omega
  | N + 1, l, hn, h => by
    have h1 := nodup_len (N := N) (l := l.erase (N : Int)) (hn.erase _) (fun k hk => by
      have h2 := h k (List.mem_of_mem_erase hk)
      have h3 : k ≠ (N : Int) := fun e => by subst e; exact (List.Nodup.not_mem_erase hn) hk
      omega)
    have h2 := List.length_erase (a := (N : Int)) (l := l)
    split at h2 <;> omega
theorem dfs_sub_mem {ns : List Nod} (h : ChOk (chOf ns)) {node y : Int} (h0 : 0 ≤ node) (hn : node < ns.length) (hy : y ∈ dfs (chO ns) ns.length [node]) : y ∈ dfs (chOf ns) ns.length [node] := by
  have h1 := dfs_chO h y ns.length [node] (by intro k hk; simp at hk; subst hk; exact ⟨h0, hn⟩) (Nat.le_refl _)
  have h2 := List.count_pos_iff.2 hy
  exact List.count_pos_iff.1 (by omega)
theorem dfs_all_len {ns : List Nod} (h : ChOk (chOf ns)) {node : Int} (h0 : 0 ≤ node) (hn : node < ns.length) (hnd : ∀ x, (dfs (chOf ns) ns.length [node]).count x ≤ 1) : (dfs (chOf ns) ns.length [node]).length ≤ ns.length :=
  nodup_len (List.nodup_iff_count.2 hnd) (dfs_mem h _ _ (by intro k hk; simp at hk; subst hk; exact ⟨h0, hn⟩))
theorem dfs_allO_len {ns : List Nod} (h : ChOk (chOf ns)) {node : Int} (h0 : 0 ≤ node) (hn : node < ns.length) (hnd : ∀ x, (dfs (chOf ns) ns.length [node]).count x ≤ 1) : (dfs (chO ns) ns.length [node]).length ≤ ns.length :=
  nodup_len (chO_nodup h h0 hn hnd) (dfs_mem (chO_ok h) _ _ (by intro k hk; simp at hk; subst hk; exact ⟨h0, hn⟩))
/-- room enough for what is opened -/
theorem Mod.room {ns ms : List Nod} (h : ChOk (chOf ns)) (hm : Mod ns ms) {node y : Int} (h0 : 0 ≤ node) (hn : node < ns.length) (hnd : ∀ x, (dfs (chOf ns) ns.length [node]).count x ≤ 1) (hy : y ∈ dfs (Bonsai.chO ns) ns.length [node]) :
    (dfs (chOf ms) ms.length [y]).length ≤ ns.length := by
  have hl : ∀ k ∈ [node], 0 ≤ k ∧ k < (ns.length : Int) := by intro k hk; simp at hk; subst hk; exact ⟨h0, hn⟩
  have hy1 := dfs_sub_mem h h0 hn hy
  have hy2 := dfs_mem h _ _ hl y hy1
  rw [hm.len]
  exact Nat.le_trans (Mod.dfs_len h hm ns.length [y] (by intro k hk; simp at hk; subst hk; exact hy2) (Nat.le_refl _))
    (Nat.le_trans (dfs_len_le h ns.length ns.length [node] hl (Nat.le_refl _) y hy1) (dfs_all_len h h0 hn hnd))
theorem opA_at {ns ms : List Nod} (hm : Mod ns ms) {i : Nat} {m : Nod} (hi : ms[i]? = some m) (hk : m.kids = chO ns (i : Int)) : (opA ns)[i]? = some m := by
  have hl : i < ns.length := by rw [← hm.len]; exact (List.getElem?_eq_some_iff.1 hi).1
  obtain ⟨ks, h1, _⟩ := hm.get i _ (List.getElem?_eq_getElem hl)
  rw [hi] at h1
  injection h1 with h1
  rw [opA_get hl, List.getD_eq_getElem?_getD, List.getElem?_eq_getElem hl]
  subst h1
  simp only at hk
  rw [hk]
  rfl
theorem Mod.chO_plain {ns ms : List Nod} (hm : Mod ns ms) {i : Nat} {m : Nod} (hi : ms[i]? = some m) (h4 : m.kind ≠ 4) (h5 : m.kind ≠ 5) : m.kids = Bonsai.chO ns (i : Int) := by
  have hl : i < ns.length := by rw [← hm.len]; exact (List.getElem?_eq_some_iff.1 hi).1
  obtain ⟨ks, h1, h2⟩ := hm.get i _ (List.getElem?_eq_getElem hl)
  rw [hi] at h1
  injection h1 with h1
  have hkA : kindA ns (i : Int) = ns[i].kind := by unfold kindA; rw [List.getD_eq_getElem?_getD, Int.toNat_natCast, List.getElem?_eq_getElem hl]; rfl
  have e : Bonsai.chO ns (i : Int) = chOf ns i := by
    unfold Bonsai.chO
    rw [if_neg (by rw [hkA]; subst h1; simp only at h4 h5; rintro (h | h); exact h4 h; exact h5 h)]
  rw [e] at h2 ⊢
  subst h1
  rcases h2 with h2 | h2 <;> exact h2
end Go.Bonsai

namespace Go.Bonsai

/-- one tree -/
theorem foT_tree {F : Fo} (h1 : F.len = 1) (hb : F.bare) : foT (treT F) = F := by
  match F, h1 with
  | .cons m j .nil, _ => exact foT_treT hb
  | .cons m j (.cons a b r), h1 => simp [Fo.len] at h1
theorem right_tree {F : Fo} (h1 : F.len = 1) (hf : F.fit = true) : rightP (treT F) = true := by
  match F, h1 with
  | .cons m j .nil, _ => exact right_treT hf
  | .cons m j (.cons a b r), h1 => simp [Fo.len] at h1
theorem Fo.one {F : Fo} (h1 : F.len = 1) : ∃ m j, F = .cons m j .nil := by
  match F, h1 with
  | .cons m j .nil, _ => exact ⟨m, j, rfl⟩
  | .cons m j (.cons a b r), h1 => simp [Fo.len] at h1
theorem foT_fb {t : Tre} (h : rightP t = true) : (foT t).fb ∧ (foT t).len = 1 := by
  obtain ⟨n, k, e, hb, hf⟩ := foT_one (rightP_spec h)
  rw [e]
  exact ⟨⟨hf, hb⟩, rfl⟩
theorem foL_fb {l : List Tre} (h : ∀ t ∈ l, rightP t = true) : (foL l).fb ∧ (foL l).len = l.length :=
  let ⟨h1, h2, h3⟩ := foL_len l h
  ⟨⟨h2, h3⟩, h1⟩

/-- a tree that is made -/
structure NT (t : Tre) (F : Fo) : Prop where
  eq : t = treT F
  len : F.len = 1
  fb : F.fb
  ok : F.ok
theorem NT.fo {t : Tre} {F : Fo} (h : NT t F) : foT t = F := by rw [h.eq]; exact foT_tree h.len h.fb.2
theorem NT.right {t : Tre} {F : Fo} (h : NT t F) : rightP t = true := by rw [h.eq]; exact right_tree h.len h.fb.1
theorem NT.clean {t : Tre} {F : Fo} (h : NT t F) : cleanP t = t := by rw [cleanP_treT h.right, h.fo, ← h.eq]
theorem NT.make {t : Tre} {F : Fo} (h : NT t F) : makeP t = (t, true) := by
  unfold makeP
  rw [if_pos h.right, h.fo, Fo.norm_of h.fb h.ok, ← h.eq]
theorem makeP_yes {t : Tre} (h : rightP t = true) : makeP t = (treT (foT t).norm, true) := by unfold makeP; rw [if_pos h]
theorem makeP_no {t : Tre} (h : rightP t = false) : makeP t = (.zero, false) := by unfold makeP; rw [if_neg (by rw [h]; simp)]
theorem makeP_nt {t : Tre} (h : rightP t = true) : NT (makeP t).1 (foT t).norm := by
  obtain ⟨h1, h2⟩ := foT_fb h
  rw [makeP_yes h]
  exact ⟨rfl, by rw [Fo.norm_len, h2], Fo.fb_norm h1, Fo.norm_ok _⟩
theorem makeP_is (t : Tre) : (makeP t).2 = rightP t := by
  cases h : rightP t with
  | true => rw [makeP_yes h]
  | false => rw [makeP_no h]

/-! ### parts, ways -/
def Fo.parts (F : Fo) : Fo := F.drop0.opn 4
def Fo.ways (F : Fo) : Fo := F.opn 5
def partsP (t : Tre) : List Tre := if rightP t = true then (foT t).norm.parts.trees else []
def waysP (t : Tre) : List Tre := if rightP t = true then (foT t).norm.ways.trees else []
theorem Fo.parts_app (F G : Fo) : (F.app G).parts = F.parts.app G.parts := by unfold Fo.parts; rw [Fo.drop0_app, Fo.opn_app]
theorem Fo.ways_app (F G : Fo) : (F.app G).ways = F.ways.app G.ways := Fo.opn_app 5 F G
theorem Fo.fb_parts {F : Fo} (h : F.fb) : F.parts.fb := Fo.fb_opn (Fo.fb_drop0 h)
theorem Fo.fb_ways {F : Fo} (h : F.fb) : F.ways.fb := Fo.fb_opn h
theorem Fo.ok_parts {F : Fo} (h : F.ok) : F.parts.ok := Fo.ok_opn (Fo.ok_drop0 h)
theorem Fo.ok_ways {F : Fo} (h : F.ok) : F.ways.ok := Fo.ok_opn h
theorem Fo.parts_noK {F : Fo} (h : F.ok) : F.parts.noK 4 ∧ F.parts.noK 0 := ⟨Fo.noK_opn4 (Fo.ok_drop0 h), Fo.noK_opn40 (Fo.ok_drop0 h) (Fo.noK_drop0 F)⟩
theorem Fo.ways_noK {F : Fo} (h : F.ok) : F.ways.noK 5 := Fo.noK_opn5 h
theorem Fo.parts_of {F : Fo} (h4 : F.noK 4) (h0 : F.noK 0) : F.parts = F := by unfold Fo.parts; rw [Fo.drop0_of h0, Fo.opn_of h4]
theorem Fo.ways_of {F : Fo} (h5 : F.noK 5) : F.ways = F := Fo.opn_of h5
theorem Fo.parts_parts {F : Fo} (h : F.ok) : F.parts.parts = F.parts := Fo.parts_of (Fo.parts_noK h).1 (Fo.parts_noK h).2
theorem Fo.ways_ways {F : Fo} (h : F.ok) : F.ways.ways = F.ways := Fo.ways_of (Fo.ways_noK h)
theorem Fo.put_seq (F : Fo) : Fo.put seqN0 F = Fo.join seqN0 emptyN F.parts := rfl
theorem Fo.put_cho (F : Fo) : Fo.put choN0 F = Fo.join choN0 setN0 F.ways := by
  unfold Fo.put
  rw [if_neg (by decide), if_pos (by decide)]
  rfl
theorem empty_plain {m : Nod} {c : Int} (h : fits m c = true) (hk : m.kind = 0) (hb : m.kids = []) : m = emptyN ∧ c = 0 := by
  obtain ⟨k, s, t, a, b, l⟩ := m
  simp only at hk hb
  subst hk; subst hb
  simp [fits] at h
  obtain ⟨⟨⟨⟨h1, h2⟩, h3⟩, h4⟩, h5⟩ := h
  subst h1; subst h2; subst h3; subst h4
  exact ⟨rfl, h5⟩
theorem Fo.len0 {F : Fo} (h : F.len = 0) : F = .nil := by
  cases F with
  | nil => rfl
  | cons m j r => simp [Fo.len] at h
/-- a tree that is normal is put together out of its parts, and out of its ways -/
theorem Fo.join_parts {F : Fo} (h1 : F.len = 1) (hf : F.fb) : Fo.join seqN0 emptyN F.parts = F := by
  obtain ⟨m, j, rfl⟩ := Fo.one h1
  obtain ⟨⟨g1, g2, g3⟩, _⟩ := Fo.fb_cons.1 hf
  unfold Fo.parts
  simp only [Fo.drop0]
  by_cases h0 : m.kind = 0
  · obtain ⟨rfl, hc⟩ := empty_plain g1 h0 g2
    have : j = .nil := Fo.len0 (by omega)
    subst this
    rw [if_pos h0]
    rfl
  · rw [if_neg h0]
    simp only [Fo.opn]
    by_cases h4 : m.kind = 4
    · obtain ⟨rfl, hc⟩ := seq_plain g1 h4 g2
      rw [if_pos h4, Fo.appN, Fo.join_many _ _ (by omega)]
    · rw [if_neg h4]
      rfl
theorem Fo.join_ways {F : Fo} (h1 : F.len = 1) (hf : F.fb) : Fo.join choN0 setN0 F.ways = F := by
  obtain ⟨m, j, rfl⟩ := Fo.one h1
  obtain ⟨⟨g1, g2, g3⟩, _⟩ := Fo.fb_cons.1 hf
  unfold Fo.ways
  simp only [Fo.opn]
  by_cases h5 : m.kind = 5
  · obtain ⟨rfl, hc⟩ := cho_plain g1 h5 g2
    rw [if_pos h5, Fo.appN, Fo.join_many _ _ (by omega)]
  · rw [if_neg h5]
    rfl
/-- parts, put together, and taken apart again -/
theorem Fo.parts_join {P : Fo} (h4 : P.noK 4) (h0 : P.noK 0) : (Fo.join seqN0 emptyN P).parts = P := by
  rcases Fo.join_cases seqN0 emptyN P with ⟨rfl, e⟩ | ⟨a, b, rfl, e⟩ | ⟨h2, e⟩ <;> rw [e]
  · rfl
  · exact Fo.parts_of h4 h0
  · unfold Fo.parts
    simp only [Fo.drop0]
    rw [if_neg (by decide)]
    simp only [Fo.opn]
    rw [if_pos (by decide), Fo.appN]
theorem Fo.ways_join {P : Fo} (h5 : P.noK 5) (hn : P ≠ .nil) : (Fo.join choN0 setN0 P).ways = P := by
  rcases Fo.join_cases choN0 setN0 P with ⟨rfl, e⟩ | ⟨a, b, rfl, e⟩ | ⟨h2, e⟩
  · exact absurd rfl hn
  · rw [e]; exact Fo.ways_of h5
  · rw [e]
    unfold Fo.ways
    simp only [Fo.opn]
    rw [if_pos (by decide), Fo.appN]
theorem Fo.parts_put {F : Fo} (h : F.ok) : (Fo.put seqN0 F).parts = F.parts := by rw [Fo.put_seq]; exact Fo.parts_join (Fo.parts_noK h).1 (Fo.parts_noK h).2
theorem Fo.ways_len {F : Fo} (h : F.fb) : F.len ≤ F.ways.len := Fo.opn_len (.inr rfl) h
theorem Fo.ways_put {F : Fo} (h : F.ok) (hf : F.fb) (hn : 0 < F.len) : (Fo.put choN0 F).ways = F.ways := by
  rw [Fo.put_cho]
  refine Fo.ways_join (Fo.ways_noK h) (fun e => ?_)
  have := Fo.ways_len hf
  rw [e] at this
  simp [Fo.len] at this
  omega

/-! ### a node over trees -/
def fitsK (n : Nod) (c : Int) : Bool := if n.kind = 4 ∨ n.kind = 5 then fits n 2 else fits n c
def putP (n : Nod) (l : List Tre) : Tre × Bool := if (fitsK n l.length && allR l) = true then (treT (Fo.put n (foL l).norm), true) else (.zero, false)
theorem putP_yes {n : Nod} {l : List Tre} (h1 : fitsK n l.length = true) (h2 : allR l = true) : putP n l = (treT (Fo.put n (foL l).norm), true) := by unfold putP; rw [h1, h2]; rfl
theorem putP_no1 {n : Nod} {l : List Tre} (h1 : fitsK n l.length = false) : putP n l = (.zero, false) := by unfold putP; rw [h1]; rfl
theorem putP_no2 {n : Nod} {l : List Tre} (h1 : allR l = false) : putP n l = (.zero, false) := by unfold putP; rw [h1, Bool.and_false]; rfl
theorem Fo.put_fb {n : Nod} {K : Fo} (hb : n.kids = []) (hf : fitsK n K.len = true) (hK : K.fb) : (Fo.put n K).fb := by
  unfold fitsK at hf
  unfold Fo.put
  by_cases h4 : n.kind = 4
  · rw [if_pos (.inl h4)] at hf
    obtain ⟨rfl, _⟩ := seq_plain hf h4 hb
    rw [if_pos h4]
    exact Fo.fb_join (Fo.fb_opn (Fo.fb_drop0 hK)) ⟨emptyN_fits, rfl⟩ (fun h => fits_seq (by omega)) rfl
  · by_cases h5 : n.kind = 5
    · rw [if_pos (.inr h5)] at hf
      obtain ⟨rfl, _⟩ := cho_plain hf h5 hb
      rw [if_neg h4, if_pos h5]
      exact Fo.fb_join (Fo.fb_opn hK) ⟨setN0_fits, rfl⟩ (fun h => fits_cho (by omega)) rfl
    · rw [if_neg (by rintro (h | h); exact h4 h; exact h5 h)] at hf
      rw [if_neg h4, if_neg h5]
      exact Fo.fb_cons.2 ⟨⟨hf, hb, hK⟩, Fo.fb_nil⟩
theorem Fo.put_ok {n : Nod} {K : Fo} (hK : K.ok) : (Fo.put n K).ok := by
  unfold Fo.put
  split
  · rename_i hk
    have hp := Fo.ok_parts hK
    have h4 := Fo.parts_noK hK
    show (Fo.join n emptyN K.parts).ok
    generalize K.parts = p at *
    rcases Fo.join_cases n emptyN p with ⟨rfl, e⟩ | ⟨a, b, rfl, e⟩ | ⟨h2, e⟩ <;> rw [e]
    · exact Fo.ok_leaf (by decide) (by decide)
    · exact hp
    · exact ⟨fun _ => h4, fun h => by omega, hp, trivial⟩
  · split
    · rename_i hk
      have hp := Fo.ok_ways hK
      have h5 := Fo.ways_noK hK
      show (Fo.join n setN0 K.ways).ok
      generalize K.ways = p at *
      rcases Fo.join_cases n setN0 p with ⟨rfl, e⟩ | ⟨a, b, rfl, e⟩ | ⟨h2, e⟩ <;> rw [e]
      · exact Fo.ok_leaf (by decide) (by decide)
      · exact hp
      · exact ⟨fun h => by omega, fun _ => h5, hp, trivial⟩
    · rename_i h4 h5
      exact ⟨fun h => absurd h h4, fun h => absurd h h5, hK, trivial⟩
theorem putP_nt {n : Nod} {l : List Tre} (hb : n.kids = []) (h1 : fitsK n l.length = true) (h2 : allR l = true) : NT (putP n l).1 (Fo.put n (foL l).norm) := by
  obtain ⟨g1, g2⟩ := foL_fb (allR_iff.1 h2)
  rw [putP_yes h1 h2]
  exact ⟨rfl, Fo.put_len _ _, Fo.put_fb hb (by rw [Fo.norm_len, g2]; exact h1) (Fo.fb_norm g1), Fo.put_ok (Fo.norm_ok _)⟩
theorem putP_is (n : Nod) (l : List Tre) : (putP n l).2 = (fitsK n l.length && allR l) := by
  cases h : fitsK n l.length && allR l with
  | true => unfold putP; rw [h]; rfl
  | false => unfold putP; rw [h]; rfl
theorem fitsK_seq (c : Int) : fitsK seqN0 c = true := rfl
theorem fitsK_cho (c : Int) : fitsK choN0 c = true := rfl
/-- of: a node over trees, made normal -/
theorem of_put {n : Nod} {l : List Tre} (hb : n.kids = []) (hk : (n.kind = 4 ∨ n.kind = 5) → 2 ≤ l.length) : putP n l = if (ofP n l).2 = true then makeP (ofP n l).1 else (.zero, false) := by
  have hfk : fitsK n l.length = fits n l.length := by
    unfold fitsK
    split
    · rename_i h
      have h2 := hk h
      rw [Bool.eq_iff_iff]
      constructor
      · intro hf
        rcases h with h | h
        · obtain ⟨rfl, _⟩ := seq_plain hf h hb
          exact fits_seq (by omega)
        · obtain ⟨rfl, _⟩ := cho_plain hf h hb
          exact fits_cho (by omega)
      · intro hf
        rcases h with h | h
        · obtain ⟨rfl, _⟩ := seq_plain hf h hb
          exact fits_seq (by omega)
        · obtain ⟨rfl, _⟩ := cho_plain hf h hb
          exact fits_cho (by omega)
    · rfl
  rw [ofP_is]
  cases hf : fits n l.length with
  | false => rw [putP_no1 (by rw [hfk, hf])]; rfl
  | true =>
    cases hr : allR l with
    | false => rw [putP_no2 hr]; rfl
    | true =>
      have hR := allR_iff.1 hr
      obtain ⟨h1, h2, _⟩ := ofP_right hf hR
      rw [putP_yes (by rw [hfk, hf]) hr]
      simp only [Bool.and_self, if_true]
      rw [makeP_yes (rightP_iff.2 h1), h2]
      have e : ({ n with kids := [] } : Nod) = n := by rw [← hb]
      rw [e, Fo.norm, Fo.norm, Fo.appN]
theorem put_nil_seq : putP seqN0 [] = (treT (.cons emptyN .nil .nil), true) := rfl
theorem put_nil_cho : putP choN0 [] = (treT (.cons setN0 .nil .nil), true) := rfl
theorem put_one {n : Nod} (hn : n = seqN0 ∨ n = choN0) (t : Tre) : putP n [t] = makeP t := by
  cases hr : rightP t with
  | false => rw [makeP_no hr, putP_no2 (by simp [allR, hr])]
  | true =>
    obtain ⟨h1, h2⟩ := foT_fb hr
    have hfb := Fo.fb_norm h1
    have hl : (foT t).norm.len = 1 := by rw [Fo.norm_len, h2]
    rw [makeP_yes hr, putP_yes (by rcases hn with rfl | rfl <;> rfl) (by simp [allR, hr])]
    have e : foL [t] = foT t := by simp [foL, Fo.appN]
    rw [e]
    rcases hn with rfl | rfl
    · rw [Fo.put_seq, Fo.join_parts hl hfb]
    · rw [Fo.put_cho, Fo.join_ways hl hfb]

/-! ### sizes and forms -/
theorem Fo.dwf_opn {k : Int} : ∀ {F : Fo}, F.dwf → (F.opn k).dwf
  | .nil, h => h
  | .cons m j r, h => by
    simp only [Fo.opn]
    split
    · exact (Fo.dwf_app _ _).2 ⟨h.2.1, Fo.dwf_opn h.2.2⟩
    · exact ⟨h.1, h.2.1, Fo.dwf_opn h.2.2⟩
theorem Fo.dwf_drop0 : ∀ {F : Fo}, F.dwf → F.drop0.dwf
  | .nil, h => h
  | .cons m j r, h => by
    simp only [Fo.drop0]
    split
    · exact Fo.dwf_drop0 h.2.2
    · exact ⟨h.1, h.2.1, Fo.dwf_drop0 h.2.2⟩
theorem Fo.dwf_join {m e : Nod} {p : Fo} (hm : ({ m with kids := [] } : Nod).wf) (he : e.wf) (hp : p.dwf) : (Fo.join m e p).dwf := by
  rcases Fo.join_cases m e p with ⟨rfl, h⟩ | ⟨a, b, rfl, h⟩ | ⟨_, h⟩ <;> rw [h]
  · exact ⟨he.wf0, trivial, trivial⟩
  · exact hp
  · exact ⟨hm, hp, trivial⟩
theorem plainN_wf {n : Nod} (h : 0 ≤ n.kind ∧ n.kind ≤ 255) (hs : n.set = .zero) (ht : n.text = ⟨#[]⟩) (h1 : n.min = 0) (h2 : n.max = 0) (hk : n.kids = []) : n.wf := by
  refine ⟨h, by rw [hs]; exact Nod.zero_wf.set, by rw [ht]; exact Nod.zero_wf.text, by rw [h1]; exact Nod.zero_wf.min, by rw [h2]; exact Nod.zero_wf.max, by rw [hk]; exact Nod.zero_wf.kids⟩
theorem setN0_wf : setN0.wf := plainN_wf (by decide) rfl rfl rfl rfl rfl
theorem seqN0_wf : seqN0.wf := plainN_wf (by decide) rfl rfl rfl rfl rfl
theorem choN0_wf : choN0.wf := plainN_wf (by decide) rfl rfl rfl rfl rfl
theorem Fo.dwf_put {n : Nod} {K : Fo} (hn : ({ n with kids := [] } : Nod).wf) (hK : K.dwf) : (Fo.put n K).dwf := by
  unfold Fo.put
  split
  · exact Fo.dwf_join hn emptyN_wf (Fo.dwf_opn (Fo.dwf_drop0 hK))
  · split
    · exact Fo.dwf_join hn setN0_wf (Fo.dwf_opn hK)
    · exact ⟨hn, hK, trivial⟩
theorem Fo.dwf_norm : ∀ {F : Fo}, F.dwf → F.norm.dwf
  | .nil, h => h
  | .cons m j r, h => by
    rw [Fo.norm]
    exact (Fo.dwf_app _ _).2 ⟨Fo.dwf_put h.1 (Fo.dwf_norm h.2.1), Fo.dwf_norm h.2.2⟩
theorem Fo.parts_size (F : Fo) : F.parts.size ≤ F.size := Nat.le_trans (Fo.opn_size _) (Fo.drop0_size _)
theorem Fo.ways_size (F : Fo) : F.ways.size ≤ F.size := Fo.opn_size _
theorem Fo.put_size (n : Nod) (K : Fo) : (Fo.put n K).size ≤ K.size + 1 := by
  unfold Fo.put
  split
  · exact Nat.le_trans (Fo.join_size _ _ _) (by have := Fo.parts_size K; unfold Fo.parts at this; omega)
  · split
    · exact Nat.le_trans (Fo.join_size _ _ _) (by have := Fo.opn_size (k := 5) K; omega)
    · simp only [Fo.size]; omega
theorem treT_len (F : Fo) : (treT F).nodes.length = F.size := Fo.ar_len F 0
theorem makeP_len (t : Tre) : (makeP t).1.nodes.length ≤ t.nodes.length := by
  cases h : rightP t with
  | false => rw [makeP_no h]; exact Nat.zero_le _
  | true =>
    rw [makeP_yes h]
    show (treT _).nodes.length ≤ _
    rw [treT_len, ← size_fo (rightP_spec h)]
    exact Fo.norm_size _
theorem makeP_wf {t : Tre} (h : t.wf) : (makeP t).1.wf := by
  cases hr : rightP t with
  | false => rw [makeP_no hr]; exact Tre.zero_wf
  | true =>
    rw [makeP_yes hr]
    refine treT_wf (Fo.dwf_norm (foOf_dwf h.nodes _ _)) (Nat.le_trans (Fo.norm_size _) ?_)
    rw [size_fo (rightP_spec hr)]
    exact h.len
theorem putP_len (n : Nod) (l : List Tre) : (putP n l).1.nodes.length ≤ tot l + 1 := by
  cases h1 : fitsK n l.length with
  | false => rw [putP_no1 h1]; exact Nat.zero_le _
  | true =>
    cases h2 : allR l with
    | false => rw [putP_no2 h2]; exact Nat.zero_le _
    | true =>
      rw [putP_yes h1 h2]
      show (treT _).nodes.length ≤ _
      rw [treT_len, ← foL_size (allR_iff.1 h2)]
      exact Nat.le_trans (Fo.put_size _ _) (Nat.succ_le_succ (Fo.norm_size _))
theorem putP_wf {n : Nod} {l : List Tre} (hn : n.wf) (hl : ∀ t ∈ l, t.wf) (ht : tot l + 1 ≤ bigN) : (putP n l).1.wf := by
  cases h1 : fitsK n l.length with
  | false => rw [putP_no1 h1]; exact Tre.zero_wf
  | true =>
    cases h2 : allR l with
    | false => rw [putP_no2 h2]; exact Tre.zero_wf
    | true =>
      rw [putP_yes h1 h2]
      refine treT_wf (Fo.dwf_put hn.wf0 (Fo.dwf_norm (foL_dwf hl))) (Nat.le_trans (Fo.put_size _ _) ?_)
      have := Fo.norm_size (foL l)
      rw [foL_size (allR_iff.1 h2)] at this
      omega
theorem trees_wf : ∀ {F : Fo}, F.dwf → F.size ≤ bigN → ∀ x ∈ F.trees, x.wf
  | .nil, _, _, x, hx => by simp [Fo.trees] at hx
  | .cons m j r, hd, hs, x, hx => by
    simp only [Fo.size] at hs
    rcases List.mem_cons.1 hx with rfl | hx
    · exact treT_wf ⟨hd.1, hd.2.1, trivial⟩ (by simp only [Fo.size]; omega)
    · exact trees_wf hd.2.2 (by omega) x hx
theorem trees_tot : ∀ (F : Fo), tot F.trees = F.size
  | .nil => rfl
  | .cons m j r => by rw [Fo.trees, tot_cons, trees_tot r, treT_len]; simp only [Fo.size]
theorem partsP_wf {t : Tre} (h : t.wf) : ∀ x ∈ partsP t, x.wf := by
  cases hr : rightP t with
  | false => rw [partsP, if_neg (by rw [hr]; simp)]; intro x hx; simp at hx
  | true =>
    rw [partsP, if_pos hr]
    refine trees_wf (Fo.dwf_opn (Fo.dwf_drop0 (Fo.dwf_norm (foOf_dwf h.nodes _ _)))) (Nat.le_trans (Fo.parts_size _) (Nat.le_trans (Fo.norm_size _) ?_))
    rw [size_fo (rightP_spec hr)]
    exact h.len
theorem waysP_wf {t : Tre} (h : t.wf) : ∀ x ∈ waysP t, x.wf := by
  cases hr : rightP t with
  | false => rw [waysP, if_neg (by rw [hr]; simp)]; intro x hx; simp at hx
  | true =>
    rw [waysP, if_pos hr]
    refine trees_wf (Fo.dwf_opn (Fo.dwf_norm (foOf_dwf h.nodes _ _))) (Nat.le_trans (Fo.ways_size _) (Nat.le_trans (Fo.norm_size _) ?_))
    rw [size_fo (rightP_spec hr)]
    exact h.len
theorem partsP_tot (t : Tre) : tot (partsP t) ≤ t.nodes.length ∧ (partsP t).length ≤ t.nodes.length := by
  cases hr : rightP t with
  | false => rw [partsP, if_neg (by rw [hr]; simp)]; exact ⟨Nat.zero_le _, Nat.zero_le _⟩
  | true =>
    rw [partsP, if_pos hr, trees_tot, Fo.trees_len]
    have h1 := Fo.parts_size (foT t).norm
    have h2 := Fo.norm_size (foT t)
    have h3 := Fo.len_le (foT t).norm.parts
    rw [size_fo (rightP_spec hr)] at h2
    omega
theorem waysP_tot (t : Tre) : tot (waysP t) ≤ t.nodes.length ∧ (waysP t).length ≤ t.nodes.length := by
  cases hr : rightP t with
  | false => rw [waysP, if_neg (by rw [hr]; simp)]; exact ⟨Nat.zero_le _, Nat.zero_le _⟩
  | true =>
    rw [waysP, if_pos hr, trees_tot, Fo.trees_len]
    have h1 := Fo.ways_size (foT t).norm
    have h2 := Fo.norm_size (foT t)
    have h3 := Fo.len_le (foT t).norm.ways
    rw [size_fo (rightP_spec hr)] at h2
    omega

/-! ### head and tail -/
def headP (t : Tre) : Tre × Bool := match partsP t with
  | [] => (.zero, false)
  | x :: _ => (x, true)
def tailP (t : Tre) : Tre × Bool := match partsP t with
  | [] => (.zero, false)
  | _ :: l => putP seqN0 l

/-! ### P5.5 to P5.7 -/
theorem trees_allR {F : Fo} (h : F.fb) : allR F.trees = true := allR_iff.2 (trees_right h.1 h.2).1
theorem foL_treesF {F : Fo} (h : F.fb) : foL F.trees = F := (trees_right h.1 h.2).2
theorem put_partsP {t : Tre} (h : rightP t = true) : putP seqN0 (partsP t) = makeP t := by
  obtain ⟨h1, h2⟩ := foT_fb h
  have hn := Fo.fb_norm h1
  have hp := Fo.fb_parts hn
  have ho := Fo.norm_ok (foT t)
  rw [partsP, if_pos h, putP_yes rfl (trees_allR hp), foL_treesF hp, Fo.norm_of hp (Fo.ok_parts ho), Fo.put_seq, Fo.parts_parts ho, Fo.join_parts (by rw [Fo.norm_len, h2]) hn, makeP_yes h]
theorem put_waysP {t : Tre} (h : rightP t = true) : putP choN0 (waysP t) = makeP t := by
  obtain ⟨h1, h2⟩ := foT_fb h
  have hn := Fo.fb_norm h1
  have hp := Fo.fb_ways hn
  have ho := Fo.norm_ok (foT t)
  rw [waysP, if_pos h, putP_yes rfl (trees_allR hp), foL_treesF hp, Fo.norm_of hp (Fo.ok_ways ho), Fo.put_cho, Fo.ways_ways ho, Fo.join_ways (by rw [Fo.norm_len, h2]) hn, makeP_yes h]
theorem partsP_foL : ∀ {l : List Tre}, (∀ t ∈ l, rightP t = true) → (l.map partsP).flatten = (foL l).norm.parts.trees
  | [], _ => rfl
  | t :: l, h => by
    rw [List.map_cons, List.flatten_cons, partsP_foL (fun x hx => h x (by simp [hx])), partsP, if_pos (h t (by simp)), foL, Fo.norm_app, Fo.parts_app, Fo.trees_app]
theorem waysP_foL : ∀ {l : List Tre}, (∀ t ∈ l, rightP t = true) → (l.map waysP).flatten = (foL l).norm.ways.trees
  | [], _ => rfl
  | t :: l, h => by
    rw [List.map_cons, List.flatten_cons, waysP_foL (fun x hx => h x (by simp [hx])), waysP, if_pos (h t (by simp)), foL, Fo.norm_app, Fo.ways_app, Fo.trees_app]
theorem parts_of_put {l : List Tre} (h : allR l = true) : partsP (putP seqN0 l).1 = (l.map partsP).flatten := by
  have hn := putP_nt (n := seqN0) rfl rfl h
  have ho := Fo.norm_ok (foL l)
  rw [partsP, if_pos hn.right, hn.fo, Fo.norm_of hn.fb hn.ok, Fo.parts_put ho, partsP_foL (allR_iff.1 h)]
theorem ways_of_put {l : List Tre} (h : allR l = true) (hl : l ≠ []) : waysP (putP choN0 l).1 = (l.map waysP).flatten := by
  have hn := putP_nt (n := choN0) rfl rfl h
  have ho := Fo.norm_ok (foL l)
  obtain ⟨h1, h2⟩ := foL_fb (allR_iff.1 h)
  have hp : 0 < (foL l).norm.len := by
    rw [Fo.norm_len, h2]
    cases l with
    | nil => exact absurd rfl hl
    | cons a b => simp
  rw [waysP, if_pos hn.right, hn.fo, Fo.norm_of hn.fb hn.ok, Fo.ways_put ho (Fo.fb_norm h1) hp, waysP_foL (allR_iff.1 h)]
/-- the root of what is normal -/
theorem NT.root {t : Tre} {m : Nod} {j : Fo} (h : NT t (.cons m j .nil)) : rootP t = m := by
  obtain ⟨F, hF⟩ := root_fo h.right
  rw [h.fo] at hF
  injection hF with h1
  exact h1.symm
theorem NT.tree {m : Nod} {j r : Fo} (h : (Fo.cons m j r).fb) (ho : (Fo.cons m j r).ok) : NT (treT (.cons m j .nil)) (.cons m j .nil) := by
  have h' := Fo.fb_cons.1 h
  exact ⟨rfl, rfl, Fo.fb_cons.2 ⟨h'.1, Fo.fb_nil⟩, ho.1, ho.2.1, ho.2.2.1, trivial⟩
/-- what is told of head and tail -/
structure HT (t : Tre) : Prop where
  same : (headP t).2 = (tailP t).2
  has : (headP t).2 = ((makeP t).2 && !decide ((rootP (makeP t).1).kind = 0))
  no : (headP t).2 = false → (headP t).1 = .zero ∧ (tailP t).1 = .zero
  put : (headP t).2 = true → putP seqN0 [(headP t).1, (tailP t).1] = makeP t ∧ (rootP (headP t).1).kind ≠ 4 ∧ (rootP (headP t).1).kind ≠ 0 ∧ (∃ F, NT (headP t).1 F) ∧ ∃ F, NT (tailP t).1 F
theorem head_tail (t : Tre) : HT t := by
  cases hr : rightP t with
  | false =>
    have hp : partsP t = [] := by rw [partsP, if_neg (by rw [hr]; simp)]
    have h1 : headP t = (.zero, false) := by unfold headP; rw [hp]
    have h2 : tailP t = (.zero, false) := by unfold tailP; rw [hp]
    exact ⟨by rw [h1, h2], by rw [h1, makeP_no hr]; rfl, fun _ => by rw [h1, h2]; exact ⟨rfl, rfl⟩, fun h => by rw [h1] at h; cases h⟩
  | true =>
    obtain ⟨h1, h2⟩ := foT_fb hr
    have hn := Fo.fb_norm h1
    have hq := Fo.fb_parts hn
    have ho := Fo.norm_ok (foT t)
    have hpk := Fo.ok_parts ho
    obtain ⟨h4, h0⟩ := Fo.parts_noK ho
    have hnt := makeP_nt hr
    have hj := Fo.join_parts (by rw [Fo.norm_len, h2]) hn
    have hp : partsP t = (foT t).norm.parts.trees := by rw [partsP, if_pos hr]
    obtain ⟨m, j, hF⟩ := Fo.one (show (foT t).norm.len = 1 by rw [Fo.norm_len, h2])
    have hroot : rootP (makeP t).1 = m := by rw [hF] at hnt; exact hnt.root
    have hm2 : (makeP t).2 = true := by rw [makeP_yes hr]
    generalize hP : (foT t).norm.parts = P at *
    cases P with
    | nil =>
      have e1 : headP t = (.zero, false) := by unfold headP; rw [hp]; rfl
      have e2 : tailP t = (.zero, false) := by unfold tailP; rw [hp]; rfl
      have hm : m = emptyN := by
        rw [hF] at hj
        injection hj with h
        exact h.symm
      exact ⟨by rw [e1, e2], by rw [e1, hm2, hroot, hm]; rfl, fun _ => by rw [e1, e2]; exact ⟨rfl, rfl⟩, fun h => by rw [e1] at h; cases h⟩
    | cons a b r =>
      have e1 : headP t = (treT (.cons a b .nil), true) := by unfold headP; rw [hp]; rfl
      have hrq := (Fo.fb_cons.1 hq).2
      have hrk := hpk.2.2.2
      have e2 : tailP t = putP seqN0 r.trees := by unfold tailP; rw [hp]; rfl
      have hra := trees_allR hrq
      have e3 : (tailP t).2 = true := by rw [e2, putP_is, hra]; rfl
      have hnh := NT.tree hq hpk
      have hnt2 : NT (tailP t).1 (Fo.join seqN0 emptyN r) := by
        have := putP_nt (n := seqN0) rfl rfl hra
        rw [foL_treesF hrq, Fo.norm_of hrq hrk, Fo.put_seq, Fo.parts_of h4.2 h0.2] at this
        rw [e2]
        exact this
      have hm0 : m.kind ≠ 0 := by
        intro hm0
        rw [hF] at hP
        unfold Fo.parts at hP
        simp only [Fo.drop0, if_pos hm0, Fo.opn] at hP
        cases hP
      refine ⟨by rw [e1, e3], by rw [e1, hm2, hroot]; simp [hm0], fun h => (by rw [e1] at h; cases h), fun _ => ⟨?_, ?_, ?_, ⟨_, by rw [e1]; exact hnh⟩, ⟨_, hnt2⟩⟩⟩
      · rw [e1, putP_yes rfl (by simp [allR, hnh.right, hnt2.right]), makeP_yes hr]
        congr 2
        rw [foL, foL, foL, hnh.fo, hnt2.fo, Fo.appN, Fo.norm_app, Fo.norm_of hnh.fb hnh.ok, Fo.norm_of hnt2.fb hnt2.ok, Fo.put_seq, Fo.parts_app, Fo.parts_join h4.2 h0.2,
          Fo.parts_of (F := .cons a b .nil) ⟨h4.1, trivial⟩ ⟨h0.1, trivial⟩]
        exact hj
      · rw [e1, hnh.root]; exact h4.1
      · rw [e1, hnh.root]; exact h0.1
theorem foL_app (l m : List Tre) : foL (l ++ m) = (foL l).app (foL m) := by
  induction l with
  | nil => rfl
  | cons t l ih => rw [List.cons_append, foL, foL, ih, Fo.appA]
/-- brackets -/
theorem put_inner {n : Nod} (hn : n = seqN0 ∨ n = choN0) {a l b : List Tre} (ha : allR a = true) (hl : allR l = true) (hb : allR b = true) (hne : l ≠ []) : putP n (a ++ (putP n l).1 :: b) = putP n (a ++ l ++ b) := by
  have hnt := putP_nt (n := n) (l := l) (by rcases hn with rfl | rfl <;> rfl) (by rcases hn with rfl | rfl <;> rfl) hl
  obtain ⟨g1, g2⟩ := foL_fb (allR_iff.1 hl)
  have hpos : 0 < (foL l).norm.len := by
    rw [Fo.norm_len, g2]
    cases l with
    | nil => exact absurd rfl hne
    | cons a b => simp
  have h1 : allR (a ++ (putP n l).1 :: b) = true := by
    rw [allR_iff] at *
    intro t ht
    rcases List.mem_append.1 ht with ht | ht
    · exact ha t ht
    · rcases List.mem_cons.1 ht with rfl | ht
      · exact hnt.right
      · exact hb t ht
  have h2 : allR (a ++ l ++ b) = true := by
    rw [allR_iff] at *
    intro t ht
    rcases List.mem_append.1 ht with ht | ht
    · rcases List.mem_append.1 ht with ht | ht
      · exact ha t ht
      · exact hl t ht
    · exact hb t ht
  rw [putP_yes (by rcases hn with rfl | rfl <;> rfl) h1, putP_yes (by rcases hn with rfl | rfl <;> rfl) h2]
  congr 2
  rw [foL_app, foL, hnt.fo, foL_app, foL_app, Fo.norm_app, Fo.norm_app, Fo.norm_of hnt.fb hnt.ok, Fo.norm_app, Fo.norm_app, Fo.appA]
  rcases hn with rfl | rfl
  · rw [Fo.put_seq, Fo.put_seq (F := Fo.app _ _), Fo.parts_app, Fo.parts_app, Fo.parts_app, Fo.parts_app, Fo.parts_put (Fo.norm_ok _)]
  · rw [Fo.put_cho, Fo.put_cho (F := Fo.app _ _), Fo.ways_app, Fo.ways_app, Fo.ways_app, Fo.ways_app, Fo.ways_put (Fo.norm_ok _) (Fo.fb_norm g1) hpos]

/-! ### whether a tree is normal -/
def normN (ns : List Nod) (n : Nod) : Bool := !(decide (n.kind = 4) || decide (n.kind = 5)) || n.kids.all fun k => !(decide (kindA ns k = n.kind) || (decide (kindA ns k = 0) && decide (n.kind = 4)))
def normalP (t : Tre) : Bool := rightP t && t.nodes.all (normN t.nodes)
theorem noK_foOf {ns : List Nod} {k : Int} {f : Nat} (hf : 0 < f) : ∀ (l : List Int), (foOf ns f l).noK k ↔ ∀ x ∈ l, kindA ns x ≠ k
  | [] => by rw [foOf_nil]; simp [Fo.noK]
  | x :: l => by
    obtain ⟨g, rfl⟩ : ∃ g, f = g + 1 := ⟨f - 1, by omega⟩
    rw [foOf_cons]
    simp only [Fo.noK, List.mem_cons, forall_eq_or_imp]
    rw [noK_foOf hf l]
    rfl
/-- what is asked of a node -/
def okAt (ns : List Nod) (x : Int) : Prop := (kindA ns x = 4 → ∀ y ∈ chOf ns x, kindA ns y ≠ 4 ∧ kindA ns y ≠ 0) ∧ (kindA ns x = 5 → ∀ y ∈ chOf ns x, kindA ns y ≠ 5)
theorem ok_foOf {ns : List Nod} (hc : ChOk (chOf ns)) : ∀ (f : Nat) (l : List Int), (∀ k ∈ l, 0 ≤ k ∧ k < (f : Int)) → f ≤ ns.length → ((foOf ns f l).ok ↔ ∀ x ∈ dfs (chOf ns) f l, okAt ns x)
  | 0, l, hl, _ => by
    cases l with
    | nil => simp [foOf_nil, dfs_nil, Fo.ok]
    | cons k l => have := hl k (by simp); omega
  | f + 1, [], _, _ => by simp [foOf_nil, dfs_nil, Fo.ok]
  | f + 1, k :: l, hl, hf => by
    have hk := hl k (by simp)
    have hch : ∀ x ∈ chOf ns k, 0 ≤ x ∧ x < (f : Int) := fun x hx => by have := hc k x hx; omega
    have ih1 := ok_foOf hc f (chOf ns k) hch (by omega)
    have ih2 := ok_foOf hc (f + 1) l (fun x hx => hl x (by simp [hx])) hf
    have e : dfs (chOf ns) (f + 1) (chOf ns k) = dfs (chOf ns) f (chOf ns k) := dfs_fuel hc _ _ _ (fun x hx => by have := hch x hx; omega) (fun x hx => (hch x hx).2)
    rw [foOf_cons, dfs_cons hc hk.1 (by omega), e]
    have hkind : (dat ns k).kind = kindA ns k := rfl
    have hno : ∀ q : Int, (foOf ns f (chOf ns k)).noK q ↔ ∀ x ∈ chOf ns k, kindA ns x ≠ q := by
      intro q
      by_cases h0 : 0 < f
      · exact noK_foOf h0 _
      · have : chOf ns k = [] := by
          cases hcc : chOf ns k with
          | nil => rfl
          | cons x r => have := hch x (by rw [hcc]; simp); omega
        rw [this, foOf_nil]
        simp [Fo.noK]
    constructor
    · rintro ⟨h4, h5, hj, hr⟩ x hx
      rw [hkind] at h4 h5
      rcases List.mem_cons.1 hx with rfl | hx
      · exact ⟨fun h y hy => ⟨(hno 4).1 (h4 h).1 y hy, (hno 0).1 (h4 h).2 y hy⟩, fun h y hy => (hno 5).1 (h5 h) y hy⟩
      · rcases List.mem_append.1 hx with hx | hx
        · exact ih1.1 hj x hx
        · exact ih2.1 hr x hx
    · intro h
      have hk0 := h k (by simp)
      exact ⟨fun h4 => ⟨(hno 4).2 fun y hy => (hk0.1 h4 y hy).1, (hno 0).2 fun y hy => (hk0.1 h4 y hy).2⟩, fun h5 => (hno 5).2 (hk0.2 h5), ih1.2 (fun x hx => h x (by simp [hx])), ih2.2 (fun x hx => h x (by simp [hx]))⟩
theorem normalP_ok {t : Tre} (h : rightP t = true) : normalP t = true ↔ (foT t).ok := by
  have hR := rightP_spec h
  have hm := (row_ok hR).mem
  unfold foT
  rw [ok_foOf hR.kok.chOf t.nodes.length [t.root] (by intro k hk; simp at hk; subst hk; exact hR.root) (Nat.le_refl _), normalP, h, Bool.true_and, List.all_eq_true]
  have hkey : ∀ (i : Nat) n, t.nodes[i]? = some n → (normN t.nodes n = true ↔ okAt t.nodes i) := by
    intro i n hn
    have hk : kindA t.nodes (i : Int) = n.kind := by unfold kindA; rw [List.getD_eq_getElem?_getD, Int.toNat_natCast, hn]; rfl
    unfold okAt
    rw [hk, ← chOf_get hn]
    unfold normN
    by_cases h4 : n.kind = 4
    · simp [h4]
    · by_cases h5 : n.kind = 5
      · simp [h5]
      · simp [h4, h5]
  constructor
  · intro hall x hx
    have hx' := (hm x).1 hx
    obtain ⟨i, rfl⟩ : ∃ i : Nat, x = i := ⟨x.toNat, by omega⟩
    have hg := List.getElem?_eq_getElem (show i < t.nodes.length by omega)
    exact (hkey i _ hg).1 (hall _ (List.getElem_mem _))
  · intro hall n hn
    obtain ⟨i, hi⟩ := List.mem_iff_getElem?.1 hn
    have hlt := (List.getElem?_eq_some_iff.1 hi).1
    exact (hkey i n hi).2 (hall i ((hm i).2 ⟨by omega, by omega⟩))
theorem NT.normal {t : Tre} {F : Fo} (h : NT t F) : normalP t = true := (normalP_ok h.right).2 (by rw [h.fo]; exact h.ok)
theorem normalP_no {t : Tre} (h : rightP t = false) : normalP t = false := by unfold normalP; rw [h]; rfl
theorem normal_same {t : Tre} (h : normalP t = true) : sameP (makeP t).1 t = true := by
  cases hr : rightP t with
  | false => rw [normalP_no hr] at h; cases h
  | true =>
    have ho := (normalP_ok hr).1 h
    obtain ⟨h1, h2⟩ := foT_fb hr
    have e : (makeP t).1 = cleanP t := by rw [makeP_yes hr, cleanP_treT hr, Fo.norm_of h1 ho]
    rw [e, same_comm, same_clean hr]
end Go.Bonsai

namespace Go.Bonsai

/-- opened all the way, by the document's words -/
def Fo.openR (k : Int) : Fo → Fo
  | .nil => .nil
  | .cons m j r => if m.kind = k then (j.openR k).app (r.openR k) else if k = 4 ∧ m.kind = 0 then r.openR k else .cons m j (r.openR k)
theorem Fo.openR_id {k : Int} : ∀ {F : Fo}, F.noK k → (k = 4 → F.noK 0) → F.openR k = F
  | .nil, _, _ => rfl
  | .cons m j r, h, h0 => by
    simp only [Fo.openR]
    rw [if_neg h.1, if_neg (fun hh => (h0 hh.1).1 hh.2), Fo.openR_id h.2 (fun hk => (h0 hk).2)]
theorem Fo.openR_parts : ∀ {F : Fo}, F.ok → F.openR 4 = F.parts
  | .nil, _ => rfl
  | .cons m j r, h => by
    have ih := Fo.openR_parts h.2.2.2
    unfold Fo.parts at ih ⊢
    simp only [Fo.openR, Fo.drop0]
    by_cases h4 : m.kind = 4
    · rw [if_pos h4, if_neg (by omega), ih]
      simp only [Fo.opn]
      rw [if_pos h4, Fo.openR_id (h.1 h4).1 (fun _ => (h.1 h4).2)]
    · rw [if_neg h4]
      by_cases h0 : m.kind = 0
      · rw [if_pos ⟨trivial, h0⟩, if_pos h0, ih]
      · rw [if_neg (fun hh => h0 hh.2), if_neg h0, ih]
        simp only [Fo.opn]
        rw [if_neg h4]
theorem Fo.openR_ways : ∀ {F : Fo}, F.ok → F.openR 5 = F.ways
  | .nil, _ => rfl
  | .cons m j r, h => by
    have ih := Fo.openR_ways h.2.2.2
    unfold Fo.ways at ih ⊢
    simp only [Fo.openR, Fo.opn]
    by_cases h5 : m.kind = 5
    · rw [if_pos h5, if_pos h5, ih, Fo.openR_id (h.2.1 h5) (fun hk => by omega)]
    · rw [if_neg h5, if_neg (fun hh => by omega), if_neg h5, ih]
theorem Fo.openR_app (k : Int) : ∀ F G : Fo, (F.app G).openR k = (F.openR k).app (G.openR k)
  | .nil, _ => rfl
  | .cons m j r, G => by
    simp only [Fo.app, Fo.openR]
    split
    · rw [Fo.openR_app k r G, Fo.appA]
    · split
      · exact Fo.openR_app k r G
      · rw [Fo.openR_app k r G, Fo.app]
theorem Fo.openR_size {k : Int} : ∀ F : Fo, (F.openR k).size ≤ F.size
  | .nil => Nat.le_refl _
  | .cons m j r => by
    have h1 := Fo.openR_size (k := k) j
    have h2 := Fo.openR_size (k := k) r
    simp only [Fo.openR]
    split
    · rw [Fo.size_app]; simp only [Fo.size]; omega
    · split
      · simp only [Fo.size]; omega
      · simp only [Fo.size]; omega
theorem Fo.openR_len {k : Int} (F : Fo) : (F.openR k).len ≤ F.size := Nat.le_trans (Fo.len_le _) (Fo.openR_size F)
/-- how many numbers of kids a clean arena holds -/
theorem allKids_ar : ∀ (F : Fo) (o : Nat), (allKids (F.ar o)).length + F.len = F.size
  | .nil, _ => rfl
  | .cons m j r, o => by
    have h1 := allKids_ar j o
    have h2 := allKids_ar r (o + j.size + 1)
    simp only [Fo.ar, Fo.len, Fo.size]
    rw [show allKids (j.ar o ++ ({ m with kids := j.tops o } : Nod) :: r.ar (o + j.size + 1)) = allKids (j.ar o) ++ (j.tops o ++ allKids (r.ar (o + j.size + 1))) by simp [allKids]]
    rw [List.length_append, List.length_append, Fo.tops_len]
    omega
theorem allKids_treT (F : Fo) : (allKids (treT F).nodes).length ≤ (treT F).nodes.length := by
  have := allKids_ar F 0
  show (allKids (F.ar 0)).length ≤ (F.ar 0).length
  rw [Fo.ar_len]
  omega
/-- a node over trees that are normal, by the document's words -/
theorem ofP_put {n : Nod} {K : Fo} (hb : n.kids = []) (h4 : n.kind ≠ 4) (h5 : n.kind ≠ 5) (hK : K.fb) : ofP n K.trees = if fits n K.len = true then (treT (Fo.put n K), true) else (.zero, false) := by
  have hl : K.trees.length = K.len := Fo.trees_len K
  obtain ⟨h1, h2⟩ := trees_right hK.1 hK.2
  have e : ({ n with kids := [] } : Nod) = n := by rw [← hb]
  by_cases hf : fits n K.len = true
  · rw [if_pos hf, ofP_fo (by rw [hl]; exact hf) h1, h2, e]
    unfold Fo.put
    rw [if_neg h4, if_neg h5]
  · rw [if_neg hf, ofP_no (fun h => hf (by rw [← hl]; exact h.1))]
theorem ofP_many {n : Nod} {P : Fo} (hb : n.kids = []) (hP : P.fb) (hf : fits n P.len = true) (e : Nod) (h2 : 2 ≤ P.len) : ofP n P.trees = (treT (Fo.join n e P), true) := by
  obtain ⟨h1, h3⟩ := trees_right hP.1 hP.2
  have e1 : ({ n with kids := [] } : Nod) = n := by rw [← hb]
  rw [ofP_fo (by rw [Fo.trees_len]; exact hf) h1, h3, e1, Fo.join_many _ _ h2]
/-- what put tells -/
def putF (n : Nod) (K : Fo) : Tre × Bool := if fitsK n K.len = true then (treT (Fo.put n K), true) else (.zero, false)
theorem putF_putP {n : Nod} {l : List Tre} (h : allR l = true) : putF n (foL l).norm = putP n l := by
  have h2 := (foL_fb (allR_iff.1 h)).2
  unfold putF putP
  rw [Fo.norm_len, h2, h, Bool.and_true]
/-- the kids of a tree made normal, in their row -/
theorem kids_norm {t : Tre} (h : rightP t = true) : ∃ F, foT t = .cons (rootP t) F .nil ∧ F.fb ∧ (rootP t).kids = [] ∧ fits (rootP t) F.len = true ∧ kidsP t = F.trees := by
  obtain ⟨F, hF⟩ := root_fo h
  have hfb := (foT_fb h).1
  rw [hF] at hfb
  obtain ⟨⟨h1, h2, h3⟩, _⟩ := Fo.fb_cons.1 hfb
  exact ⟨F, hF, h3, h2, h1, by rw [kidsP, if_pos h, hF]; rfl⟩
/-- made normal, tree by tree -/
theorem norm_trees : ∀ {F : Fo}, F.fb → F.trees.map (fun t => (makeP t).1) = F.norm.trees
  | .nil, _ => rfl
  | .cons m j r, h => by
    have h' := Fo.fb_cons.1 h
    have hr : rightP (treT (.cons m j .nil)) = true := right_tree rfl (Fo.fb_cons.2 ⟨h'.1, Fo.fb_nil⟩).1
    rw [Fo.trees, List.map_cons, norm_trees h'.2, makeP_yes hr, foT_tree rfl (Fo.fb_cons.2 ⟨h'.1, Fo.fb_nil⟩).2, Fo.norm, Fo.norm, Fo.norm, Fo.appN]
    obtain ⟨a, b, e⟩ := Fo.one (Fo.put_len m j.norm)
    rw [e]
    rfl
theorem makeP_putF {t : Tre} {F : Fo} (h : rightP t = true) (hF : foT t = .cons (rootP t) F .nil) (hfb : F.fb) (hk : (rootP t).kids = []) (hf : fits (rootP t) F.len = true) : makeP t = putF (rootP t) F.norm := by
  have hK : fitsK (rootP t) F.norm.len = true := by
    rw [Fo.norm_len]
    unfold fitsK
    split
    · rename_i h45
      rcases h45 with h4 | h5
      · rw [(seq_plain hf h4 hk).1]; rfl
      · rw [(cho_plain hf h5 hk).1]; rfl
    · exact hf
  rw [makeP_yes h, hF]
  unfold putF
  rw [if_pos hK, Fo.norm, Fo.norm, Fo.appN]
theorem kids_less {t : Tre} {F : Fo} (h : rightP t = true) (hF : foT t = .cons (rootP t) F .nil) : F.size + 1 = t.nodes.length := by
  rw [← size_fo (rightP_spec h), hF]
  simp only [Fo.size]
/-- lists of trees, as forests -/
theorem foL_nt {l : List Tre} (h : allR l = true) (hc : ∀ t ∈ l, cleanP t = t) : (foL l).trees = l := by
  rw [foL_trees (allR_iff.1 h)]
  conv => rhs; rw [← List.map_id l]
  exact List.map_congr_left hc
end Go.Bonsai
