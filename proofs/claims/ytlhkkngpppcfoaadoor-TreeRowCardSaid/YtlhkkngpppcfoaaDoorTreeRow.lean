/-
  The law TreeRow, walked: it answers true for every tree.
-/
import Derived.Test.YtlhkkngpppcfoaaDoorWorks
set_option linter.all false
namespace Go.Bonsai
open Go Go.Sl Go.RowKit
theorem pos_pairwise {row : List Int} {pl : List Int} (h : ∀ (j : Nat) x, row[j]? = some x → pl.getD x.toNat 0 = j) : row.Pairwise (fun a b => pl.getD a.toNat 0 < pl.getD b.toNat 0) := by
  rw [List.pairwise_iff_getElem]
  intro i j hi hj hij
  rw [h i _ (List.getElem?_eq_getElem hi), h j _ (List.getElem?_eq_getElem hj)]
  omega
theorem RTrees.old1 {w0 w : World} {L : List HP} {A : Option Addr} {c e : Nat} {B : Nat} {t : Tre} (hw : St w0 L w) (ha : At L (own e 2 (some ⟨B, 0, none⟩) 1 1 [[.slice A t.nodes.length c, .int .i64 t.root]])) (hr : RTreeC (Old w0) w0 [.slice A t.nodes.length c, .int .i64 t.root] t) :
    RTrees (Old w) w (.slice (some ⟨B, 0, none⟩) 1 1) [t] :=
  ⟨some ⟨B, 0, none⟩, 1, _, rfl, St.own_arr hw ha, All2.snoc (l := []) (m := []) .nil (St.old_treeC hw hr), Nat.le_refl _⟩
end Go.Bonsai
namespace Go.Proofs.YtlhkkngpppcfoaaDoor
open Go Go.Sl Go.RowKit Go.Bonsai
set_option linter.unusedVariables false
set_option linter.unusedSimpArgs false

set_option maxHeartbeats 2000000 in
theorem treeRow_any (v : Value) (t : Tre) (w : World) (hr : RTree (Old w) w v t) (ht : t.wf) (hT : Tab w) : Calls Tryd.prog 3 #[v] w (RetV w (.bool true)) := by
  have hr0 := hr
  have ht0 := ht
  obtain ⟨nv, rfl, A, c, rows0, rfl, hA, hrows, hc⟩ := hr
  have hrC : RTreeC (Old w) w [.slice A t.nodes.length c, .int .i64 t.root] t := ⟨A, c, rfl, A, c, rows0, rfl, hA, hrows, hc⟩
  have hlen := ht.len
  have hwn := ht.nodes
  unfold bigN at hlen
  refine TC.calls (l := [.agg #[.slice A t.nodes.length c, .int .i64 t.root]]) Tryd.func3 rfl Tryd.ntmps3 rfl (St.start w) ?_
  repeat' (first | (refine W1 ?_) | (refine W2 (fun hc => ?_) (fun hc => ?_)) | (intro _))
  rename_i b0
  refine T.callV rfl rfl (fun w' hw' => works_any w' (Tab.st hT hw')) ?_
  repeat' (first | (refine W1 ?_) | (refine W2 (fun hc => ?_) (fun hc => ?_)) | (intro _))
  rename_i B
  refine T.callR rfl rfl (fun w' hw' => long_any _ [t] w' (RTrees.old1 hw' AtA hrC) (by unfold bigN; simp) (by intro x hx; simp at hx; subst hx; exact ht0)) (fun b hb => ?_)
  cases b with
  | true =>
    repeat' (first | (refine W1 ?_) | (refine W2 (fun hc => ?_) (fun hc => ?_)) | (intro _))
    refine T.callV rfl rfl (fun w' hw' => works_any w' (Tab.st hT hw')) ?_
    repeat' (first | (refine W1 ?_) | (refine W2 (fun hc => ?_) (fun hc => ?_)) | (intro _))
    exact TX.ret_tmp rfl rfl (fun w' hw => RetV.eq hw rfl)
  | false =>
    repeat' (first | (refine W1 ?_) | (refine W2 (fun hc => ?_) (fun hc => ?_)) | (intro _))
    refine T.callR rfl rfl (fun w' hw' => walk_any _ t w' (St.old_tree hw' hr0) ht0 (Tab.st hT hw')) (fun p1 _ => ?_)
    repeat' (first | (refine W1 ?_) | (refine W2 (fun hc => ?_) (fun hc => ?_)) | (intro _))
    refine T.callV rfl rfl (fun w' hw' => right_any _ t w' (St.old_tree hw' hr0) ht0 (Tab.st hT hw')) ?_
    cases hri : rightP t with
    | false =>
      have hrin : (!false) = true := rfl
      have e : walkP t = [] := by unfold walkP; rw [if_neg (by rw [hri]; simp)]
      rw [e]
      repeat' (first | (refine W1 ?_) | (refine W2 (fun hc => ?_) (fun hc => ?_)) | (intro _))
      exact TX.ret_tmp rfl rfl (fun w' hw => RetV.eq hw rfl)
    | true =>
      have hrin : (!true) = false := rfl
      have hR := rightP_spec hri
      have hO := row_ok hR
      have hrt := hR.root
      have e : walkP t = rowP t := by unfold walkP; rw [if_pos hri]
      rw [e]
      generalize rowP t = row at *
      have hrl := hO.len
      have hN0 : 0 < t.nodes.length := by omega
      have hm1 : 8 * t.nodes.length ≤ 281474976710656 := by omega
      repeat' (first | (refine W1 ?_) | (refine W2 (fun hc => ?_) (fun hc => ?_)) | (intro _))
      rename_i C
      -- the places, all -1
      refine TC.loopA (ι := Nat) 0 (fun k r => (5, .int .i64 k) :: r) (fun k => St w [own 3 1 (some ⟨C, 0, none⟩) t.nodes.length t.nodes.length (irows (List.replicate k (-1) ++ List.replicate (t.nodes.length - k) 0)), own 3 1 p1.1 row.length p1.2 (irows row), blk b0 [.slice A t.nodes.length c, .int .i64 t.root] 24])
        (fun k => k ≤ t.nodes.length) (fun k => t.nodes.length - k) KpA SubA (fun w' hw => by rw [irows_rep] at hw; exact St.inc IncA hw) (Nat.zero_le _) ?_
      intro k hk
      by_cases hkt : k < t.nodes.length
      · have hck : decide ((k : Int) < (t.nodes.length : Int)) = true := by simp [hkt]
        have hrep : List.replicate (t.nodes.length - k) (0 : Int) = 0 :: List.replicate (t.nodes.length - (k + 1)) 0 := by
          rw [show t.nodes.length - k = (t.nodes.length - (k + 1)) + 1 by omega, List.replicate_succ]
        rw [hrep]
        have hg := get_atL (List.replicate k (-1 : Int)) (List.replicate (t.nodes.length - (k + 1)) 0) 0 (i := k) (by simp)
        repeat' (first | (refine W1 ?_) | (refine W2 (fun hc => ?_) (fun hc => ?_)) | (intro _))
        refine T.storeA (i := k) (o := 0) (r := [.int .i64 0]) rfl rfl rfl rfl rfl rfl UpdA (by omega) (irows_get hg) (by simp) ?_
        rw [show (irows (List.replicate k (-1) ++ 0 :: List.replicate (t.nodes.length - (k + 1)) 0)).set k (splice [.int .i64 0] 0 [.int .i64 (-1)]) = irows (List.replicate (k + 1) (-1) ++ List.replicate (t.nodes.length - (k + 1)) 0) from by
          rw [List.replicate_succ', List.append_assoc, List.singleton_append, ← set_atL (List.replicate k (-1 : Int)) (List.replicate (t.nodes.length - (k + 1)) 0) 0 (-1) (i := k) (by simp), irows_set]; rfl]
        repeat' (first | (refine W1 ?_) | (refine W2 (fun hc => ?_) (fun hc => ?_)) | (intro _))
        exact TX.round (k + 1) hkt (by omega) SubA (fun w' hw => hw)
      · have hck : decide ((k : Int) < (t.nodes.length : Int)) = false := by simp; omega
        obtain rfl : k = t.nodes.length := by omega
        rw [Nat.sub_self, List.replicate_zero, List.append_nil]
        have hh : row[0]? = some t.root := by rw [← List.head?_eq_getElem?]; exact hO.head
        have hcl : (!decide ((row.length : Int) = (t.nodes.length : Int))) = false := by simp [hrl]
        have hcr : (!decide (t.root = t.root)) = false := by simp
        refine TC.fact (fun w hw => (St.own_arr (rows := irows row) hw AtA).some_ (by omega)) (fun hp1 : p1.1 = some (p1.1.getD default) => ?_)
        have hr0' : 0 < row.length := by omega
        repeat' (first | (refine W1 ?_) | (refine W2 (fun hc => ?_) (fun hc => ?_)) | (intro _))
        refine TC.loopA (ι := Nat × List Int) (0, List.replicate t.nodes.length (-1)) (fun k r => (6, .int .i64 k.1) :: r) (fun k => St w [own 3 1 (some ⟨C, 0, none⟩) t.nodes.length t.nodes.length (irows k.2), own 3 1 p1.1 row.length p1.2 (irows row), blk b0 [.slice A t.nodes.length c, .int .i64 t.root] 24])
          (fun k => k.1 ≤ row.length ∧ k.2.length = t.nodes.length ∧ (∀ (j : Nat) x, j < k.1 → row[j]? = some x → k.2.getD x.toNat 0 = j) ∧ (∀ x : Nat, x < t.nodes.length → (x : Int) ∉ row.take k.1 → k.2[x]? = some (-1))) (fun k => row.length - k.1) KpA SubA (fun w' hw => St.inc IncA hw)
          ⟨Nat.zero_le _, by simp, fun j x hj => absurd hj (Nat.not_lt_zero _), fun x hx _ => by simp [List.getElem?_replicate, hx]⟩ ?_
        rintro ⟨i, pl⟩ ⟨hi, hpl, hp2, hp3⟩
        simp only at hi hpl hp2 hp3 ⊢
        by_cases hlt : i < row.length
        · have hci : decide ((i : Int) < (row.length : Int)) = true := by simp [hlt]
          have hri' : row[i]? = some row[i] := List.getElem?_eq_getElem hlt
          have hm := (hO.mem _).1 (List.getElem_mem hlt)
          have htk := List.take_succ_eq_append_getElem hlt
          have hnd := hO.nodup
          rw [← List.take_append_drop (i + 1) row, htk] at hnd
          have hni : row[i] ∉ row.take i := by
            have h1 := (List.nodup_append.1 hnd).1
            have h2 := (List.nodup_append.1 h1).2.2
            intro hmem
            exact h2 _ hmem _ (by simp) rfl
          generalize row[i] = x at *
          obtain ⟨x, rfl⟩ : ∃ y : Nat, x = y := ⟨x.toNat, by omega⟩
          have hx : x < t.nodes.length := by omega
          have hpx := hp3 x hx hni
          have hx0 : decide ((x : Int) < 0) = false := by simp
          have hx1 : decide ((t.nodes.length : Int) ≤ (x : Int)) = false := by simp; omega
          repeat' (first | (refine W1 ?_) | (refine W2 (fun hc => ?_) (fun hc => ?_)) | (intro _))
          refine T.storeA (i := x) (o := 0) (r := [.int .i64 (-1)]) rfl rfl rfl rfl rfl rfl UpdA (by omega) (irows_get hpx) (by simp) ?_
          rw [show (irows pl).set x (splice [.int .i64 (-1)] 0 [.int .i64 i]) = irows (pl.set x i) from (irows_set pl x i).symm]
          repeat' (first | (refine W1 ?_) | (refine W2 (fun hc => ?_) (fun hc => ?_)) | (intro _))
          refine TX.round (i + 1, pl.set x i) ⟨hlt, by simp [hpl], ?_, ?_⟩ (show row.length - (i + 1) < row.length - i by omega) SubA (fun w' hw => St.inc IncA hw)
          · intro j y hj hy
            show (pl.set x (i : Int)).getD y.toNat 0 = j
            rw [getD_setI]
            by_cases hji : j = i
            · subst hji
              rw [hri'] at hy
              injection hy with hy
              subst hy
              rw [if_pos ⟨by simp, by omega⟩]
            · have hjl : j < i := by simp only at hj; omega
              have hyt : y ∈ row.take i := List.mem_of_getElem? (i := j) (by rw [List.getElem?_take_of_lt hjl]; exact hy)
              have hym := (hO.mem y).1 (List.mem_of_getElem? hy)
              rw [if_neg (fun h => hni (by have : y = x := by omega
                                           rw [← this]; exact hyt))]
              exact hp2 j y hjl hy
          · intro y hy hny
            show (pl.set x (i : Int))[y]? = some (-1)
            rw [htk] at hny
            simp only [List.mem_append, List.mem_singleton, not_or] at hny
            rw [List.getElem?_set_ne (by omega)]
            exact hp3 y hy hny.1
        · have hci : decide ((i : Int) < (row.length : Int)) = false := by simp; omega
          obtain rfl : i = row.length := by omega
          have hpw := pos_pairwise (row := row) (pl := pl) (fun j x hj => hp2 j x (List.getElem?_eq_some_iff.1 hj).1 hj)
          clear hp2 hp3
          repeat' (first | (refine W1 ?_) | (refine W2 (fun hc => ?_) (fun hc => ?_)) | (intro _))
          refine TC.loopA (ι := Nat) 0 (fun k r => (7, .int .i64 k) :: r) (fun _ => St w [own 3 1 (some ⟨C, 0, none⟩) t.nodes.length t.nodes.length (irows pl), own 3 1 p1.1 row.length p1.2 (irows row), blk b0 [.slice A t.nodes.length c, .int .i64 t.root] 24])
            (fun k => k ≤ t.nodes.length) (fun k => t.nodes.length - k) KpA SubA (fun w' hw => St.inc IncA hw) (Nat.zero_le _) ?_
          intro m hm
          by_cases hml : m < t.nodes.length
          · have hcm : decide ((m : Int) < (t.nodes.length : Int)) = true := by simp [hml]
            obtain ⟨cs, hcs, kv, rfl, K, kc, rfl, hK, hkc⟩ := hrows.get (List.getElem?_eq_getElem hml)
            have hwf := hwn _ (List.getElem_mem hml)
            have hsub := hO.kids m _ (List.getElem?_eq_getElem hml)
            have hko := hR.kok m _ (List.getElem?_eq_getElem hml)
            have hkl := hwf.kids.1
            unfold bigL at hkl
            generalize t.nodes[m] = n at *
            have hA' : A = some (A.getD default) := hA.some_ (by omega)
            have hpm : pl[m]? = some (pl.getD m 0) := by rw [List.getD_eq_getElem?_getD, List.getElem?_eq_getElem (by omega)]; rfl
            have hpn := hpw.sublist hsub
            repeat' (first | (refine W1 ?_) | (refine W2 (fun hc => ?_) (fun hc => ?_)) | (intro _))
            refine TC.loopA (ι := Nat × Int) (0, pl.getD m 0) (fun k r => (9, .int .i64 k.1) :: (8, .int .i64 k.2) :: r) (fun _ => St w [own 3 1 (some ⟨C, 0, none⟩) t.nodes.length t.nodes.length (irows pl), own 3 1 p1.1 row.length p1.2 (irows row), blk b0 [.slice A t.nodes.length c, .int .i64 t.root] 24])
              (fun k => k.1 ≤ n.kids.length ∧ k.2 = pl.getD (((m : Int) :: n.kids).getD k.1 0).toNat 0) (fun k => n.kids.length - k.1) KpA SubA (fun w' hw => St.inc IncA hw) ⟨Nat.zero_le _, rfl⟩ ?_
            rintro ⟨k, last⟩ ⟨hk, hlast⟩
            simp only at hk hlast ⊢
            by_cases hkt : k < n.kids.length
            · have hck2 : decide ((k : Int) < (n.kids.length : Int)) = true := by simp [hkt]
              have hkk : n.kids[k]? = some n.kids[k] := List.getElem?_eq_getElem hkt
              have hkm := hko _ (List.getElem_mem hkt)
              have hgt : last < pl.getD (n.kids[k]).toNat 0 := by
                rw [List.pairwise_iff_getElem] at hpn
                have h1 := hpn k (k + 1) (by simp; omega) (by simp; omega) (by omega)
                rw [hlast, List.getD_eq_getElem?_getD (l := (m : Int) :: n.kids), List.getElem?_eq_getElem (by simp; omega)]
                simpa using h1
              have hnext : pl.getD (n.kids[k]).toNat 0 = pl.getD (((m : Int) :: n.kids).getD (k + 1) 0).toNat 0 := by simp [List.getD_eq_getElem?_getD, hkk]
              generalize n.kids[k] = y at *
              obtain ⟨y, rfl⟩ : ∃ z : Nat, y = z := ⟨y.toNat, by omega⟩
              have hy : y < t.nodes.length := by omega
              have hpy : pl[y]? = some (pl.getD y 0) := by rw [List.getD_eq_getElem?_getD, List.getElem?_eq_getElem (by omega)]; rfl
              have hKs : K = some (K.getD default) := hK.some_ (by omega)
              simp only [Int.toNat_natCast] at hgt hnext
              have hcg : decide (pl.getD y 0 ≤ last) = false := by simp; simpa using hgt
              repeat' (first | (refine W1 ?_) | (refine W2 (fun hc => ?_) (fun hc => ?_)) | (intro _))
              exact TX.round (k + 1, pl.getD y 0) ⟨hkt, hnext⟩ (show n.kids.length - (k + 1) < n.kids.length - k by omega) SubA (fun w' hw => St.inc IncA hw)
            · have hck2 : decide ((k : Int) < (n.kids.length : Int)) = false := by simp; omega
              repeat' (first | (refine W1 ?_) | (refine W2 (fun hc => ?_) (fun hc => ?_)) | (intro _))
              exact TX.round (m + 1) hml (by omega) SubA (fun w' hw => St.inc IncA hw)
          · have hcm : decide ((m : Int) < (t.nodes.length : Int)) = false := by simp; omega
            repeat' (first | (refine W1 ?_) | (refine W2 (fun hc => ?_) (fun hc => ?_)) | (intro _))
            exact TX.ret_tmp rfl rfl (fun w' hw => RetV.eq hw rfl)
end Go.Proofs.YtlhkkngpppcfoaaDoor
