import Derived.Test.YtihfmphaajdhnaaLv
/-! Lists of lists, by their headers. -/
namespace Go.Proofs.Ytihfmphaajdhnaa.P
open Go.RowKit Go.Proofs.YtihfmphaajdhnaaW.PrintWords Go.Proofs.YtihfmphaajdhnaaW.PrintLast Go.Proofs.YtihfmphaajdhnaaW.PrintMore
set_option linter.unusedVariables false
set_option linter.unusedSimpArgs false

/-- A list's header: where it lies, how long it is, how far it may grow. -/
def hdV (h : Option Addr × Nat × Nat) : Value := .slice h.1 h.2.1 h.2.2
def kHd : Kd (Option Addr × Nat × Nat) := Kd.scalar hdV (fun _ => rfl)
theorem info_row : (Try.prog.info? 40).map (fun i => (i.zero, i.size, i.bytes)) = some (some (.slice none 0 0), 1, 24) := by kernel_rfl
/-- Headers lead to these lists. -/
def Leads (w : World) (hs : List (Option Addr × Nat × Nat)) (ps : List (List Int)) : Prop :=
  hs.length = ps.length ∧ ∀ i, i < ps.length → ∃ A c, hs[i]? = some (A, (ps.getD i []).length, c) ∧ (ps.getD i []).length ≤ c ∧ Kd.C (Kd.int .i64) w A (ps.getD i []).length (ps.getD i [])
theorem Leads.below {w w' : World} {hs : List (Option Addr × Nat × Nat)} {ps : List (List Int)} (h : Leads w hs ps) (hb : Below w.heap.size w w') : Leads w' hs ps := by
  refine ⟨h.1, fun i hi => ?_⟩
  obtain ⟨A, c, h1, h2, h3⟩ := h.2 i hi
  exact ⟨A, c, h1, h2, Kd.C_below h3 hb⟩
theorem Leads.snoc {w : World} {hs : List (Option Addr × Nat × Nat)} {ps : List (List Int)} (h : Leads w hs ps) {x : List Int} {A : Option Addr} {c : Nat} (hx : x.length ≤ c) (hC : Kd.C (Kd.int .i64) w A x.length x) : Leads w (hs ++ [(A, x.length, c)]) (ps ++ [x]) := by
  refine ⟨by simp [h.1], fun i hi => ?_⟩
  rw [List.length_append, List.length_singleton] at hi
  by_cases e : i < ps.length
  · obtain ⟨A', c', h1, h2, h3⟩ := h.2 i e
    have hg : (ps ++ [x]).getD i [] = ps.getD i [] := by rw [List.getD_eq_getElem?_getD, List.getD_eq_getElem?_getD, List.getElem?_append_left e]
    rw [hg]
    exact ⟨A', c', by rw [List.getElem?_append_left (by rw [h.1]; exact e)]; exact h1, h2, h3⟩
  · have hi' : i = ps.length := by omega
    subst hi'
    have hg : (ps ++ [x]).getD ps.length [] = x := by rw [List.getD_eq_getElem?_getD, List.getElem?_append_right (Nat.le_refl _)]; simp
    rw [hg]
    exact ⟨A, c, by rw [List.getElem?_append_right (by rw [h.1]; exact Nat.le_refl _), h.1]; simp, hx, hC⟩
theorem Leads.set {w : World} {hs : List (Option Addr × Nat × Nat)} {ps : List (List Int)} (h : Leads w hs ps) {p : Nat} {x : List Int} {A : Option Addr} {c : Nat} (hx : x.length ≤ c) (hC : Kd.C (Kd.int .i64) w A x.length x) : Leads w (hs.set p (A, x.length, c)) (ps.set p x) := by
  refine ⟨by simp [h.1], fun i hi => ?_⟩
  rw [List.length_set] at hi
  by_cases e : p = i
  · subst e
    have hg : (ps.set p x).getD p [] = x := by rw [List.getD_eq_getElem?_getD, List.getElem?_set_self hi]; rfl
    rw [hg]
    exact ⟨A, c, by rw [List.getElem?_set_self (by rw [h.1]; exact hi)], hx, hC⟩
  · obtain ⟨A', c', h1, h2, h3⟩ := h.2 i hi
    have hg : (ps.set p x).getD i [] = ps.getD i [] := by rw [List.getD_eq_getElem?_getD, List.getD_eq_getElem?_getD, List.getElem?_set_ne e]
    rw [hg]
    exact ⟨A', c', by rw [List.getElem?_set_ne e]; exact h1, h2, h3⟩
theorem C_split {w : World} {A : Option Addr} {n : Nat} {ps : List (List Int)} (h : Kd.C (Kd.slice 3 (Kd.int .i64)) w A n ps) : ∃ hs, Kd.C kHd w A n hs ∧ Leads w hs ps := by
  have hl : ps.length = n := h.1
  have each : ∀ i, ∃ x : Option Addr × Nat × Nat, i < n → ∃ ad, A = some ad ∧ w.cell? (ad.add i) = some (hdV x) ∧ x.2.1 = (ps.getD i []).length ∧ (ps.getD i []).length ≤ x.2.2 ∧ Kd.C (Kd.int .i64) w x.1 (ps.getD i []).length (ps.getD i []) := by
    intro i
    by_cases hi : i < n
    · obtain ⟨ad, A0, c0, e, h1, h2, h3⟩ := row_at h i hi
      exact ⟨(A0, (ps.getD i []).length, c0), fun _ => ⟨ad, e, h1, rfl, h2, h3⟩⟩
    · exact ⟨(none, 0, 0), fun h => absurd h hi⟩
  obtain ⟨F, hF⟩ := Classical.axiomOfChoice each
  refine ⟨(List.range n).map F, ⟨by simp, h.2.1, fun hn => ?_⟩, ⟨by simp [hl], fun i hi => ?_⟩⟩
  · obtain ⟨ad, e, _⟩ := hF 0 hn
    refine ⟨ad, e, fun j x hj => ?_⟩
    obtain ⟨hj1, hj2⟩ := List.getElem?_eq_some_iff.1 hj
    have hj3 : j < n := by simpa using hj1
    obtain ⟨ad', e', h1, _⟩ := hF j hj3
    rw [e] at e'
    cases e'
    have hx : F j = x := by rw [← hj2]; simp
    subst hx
    refine ⟨[hdV (F j)], rfl, rfl, fun i u hu => ?_⟩
    have hi : i = 0 := by have := (List.getElem?_eq_some_iff.1 hu).1; simp at this; omega
    subst hi
    simp only [List.getElem?_cons_zero, Option.some.injEq] at hu
    subst hu
    show w.cell? (ad.add (j * 1 + 0)) = _
    rw [Nat.mul_one, Nat.add_zero]
    exact h1
  · obtain ⟨ad, e, h1, h2, h3, h4⟩ := hF i (by omega)
    refine ⟨(F i).1, (F i).2.2, ?_, h3, h4⟩
    rw [List.getElem?_map, List.getElem?_range (by omega), ← h2]
    rfl
theorem C_join {w : World} {A : Option Addr} {n : Nat} {hs : List (Option Addr × Nat × Nat)} {ps : List (List Int)} (h : Kd.C kHd w A n hs) (hl : Leads w hs ps) : Kd.C (Kd.slice 3 (Kd.int .i64)) w A n ps := by
  have hlen : hs.length = n := h.1
  refine ⟨by rw [← hl.1]; exact hlen, h.2.1, fun hn => ?_⟩
  obtain ⟨ad, e, hc⟩ := h.2.2 hn
  refine ⟨ad, e, fun j x hj => ?_⟩
  obtain ⟨hj1, hj2⟩ := List.getElem?_eq_some_iff.1 hj
  obtain ⟨A', c', g1, g2, g3⟩ := hl.2 j hj1
  have hx : ps.getD j [] = x := by rw [List.getD_eq_getElem?_getD, hj]; rfl
  rw [hx] at g1 g2 g3
  obtain ⟨cs, hcs, hK, hcell⟩ := hc j _ g1
  have hK' : cs = [hdV (A', x.length, c')] := hK
  subst hK'
  exact ⟨[.slice A' x.length c'], rfl, ⟨A', c', rfl, g2, g3⟩, hcell⟩
theorem hd_inner {w : World} {base : Nat} {ok : Nat → Prop} {l : List (Option Addr × Nat × Nat)} {cs : List Value} (h : Reps (kHd.M w base ok) 1 l cs) : cs = l.map hdV := by
  obtain ⟨hl, hr⟩ := h
  apply List.ext_getElem (by simpa using hl)
  intro j h1 h2
  have hj : j < l.length := by simpa using h2
  have h3 : (cs.drop (j * 1)).take 1 = [hdV l[j]] := hr j l[j] (List.getElem?_eq_getElem hj)
  rw [Nat.mul_one, List.drop_eq_getElem_cons h1] at h3
  simp only [List.take_succ_cons, List.take_zero] at h3
  injection h3 with h4 _
  rw [h4, List.getElem_map]
/-- A header is put into a row of one's own. -/
theorem hd_put {w : World} {base g n cap : Nat} {ok : Nat → Prop} {hs : List (Option Addr × Nat × Nat)} (h : Kd.R kHd 40 w base ok (.slice (some ⟨g, 0, none⟩) n cap) hs) (p : Nat) (hp : p < hs.length) (x : Option Addr × Nat × Nat) :
    n = hs.length ∧ n ≤ cap ∧ base ≤ g ∧ g < w.heap.size ∧ (∃ u, w.cell? ⟨g, p, none⟩ = some u) ∧ w.frozen? ⟨g, p, none⟩ = false ∧ Kd.C kHd (w.setCell ⟨g, p, none⟩ (hdV x)) (some ⟨g, 0, none⟩) n (hs.set p x) := by
  obtain ⟨_, inner, hown, hr⟩ := h
  obtain rfl := hd_inner hr
  rcases hown.2 with ⟨h0, _⟩ | ⟨g', cap', cur, he, hb, hg, hn, hm, hs', ht⟩
  · cases h0
  · simp only [Value.slice.injEq, Option.some.injEq, Addr.mk.injEq, true_and] at he
    obtain ⟨⟨rfl, _⟩, rfl, rfl⟩ := he
    have hl : hs.length ≤ cur.size := by rw [hs']; show hs.length ≤ cap * 1; omega
    have hcell : ∀ j, j < hs.length → cur[j]? = some (hdV (hs.getD j (none, 0, 0))) := by
      intro j hj
      have h1 : (cur.toList.take (hs.length * 1))[j]? = (hs.map hdV)[j]? := by rw [show hs.length * 1 = hs.length * kHd.sz from rfl, ht]
      rw [Nat.mul_one, List.getElem?_take_of_lt hj, List.getElem?_map, List.getElem?_eq_getElem hj] at h1
      rw [← Array.getElem?_toList, h1, List.getD_eq_getElem?_getD, List.getElem?_eq_getElem hj]
      rfl
    refine ⟨rfl, hn, hb, blk_lt hg, ⟨_, blk_nth hg p (hcell p hp)⟩, blk_frozen hg p, ⟨by simp, ?_, fun _ => ⟨⟨g, 0, none⟩, rfl, fun j y hj => ?_⟩⟩⟩
    · unfold maxLen at hm; omega
    · obtain ⟨hj1, hj2⟩ := List.getElem?_eq_some_iff.1 hj
      have hj3 : j < hs.length := by simpa using hj1
      refine ⟨[hdV y], rfl, rfl, fun i u hu => ?_⟩
      have hi : i = 0 := by have := (List.getElem?_eq_some_iff.1 hu).1; simp at this; omega
      subst hi
      simp only [List.getElem?_cons_zero, Option.some.injEq] at hu
      subst hu
      have hset := blk_put hg p (hdV x) rfl
      show (w.setCell ⟨g, p, none⟩ (hdV x)).cell? ((⟨g, 0, none⟩ : Addr).add (j * 1 + 0)) = _
      rw [Nat.mul_one, Nat.add_zero, show ((⟨g, 0, none⟩ : Addr).add j) = ⟨g, j, none⟩ from by simp [Addr.add]; exact fun h => h.symm]
      refine blk_nth hset j ?_
      rw [Array.getElem?_setIfInBounds]
      by_cases e : p = j
      · subst e
        rw [if_pos rfl, if_pos (by omega)]
        rw [← hj2]
        simp
      · rw [if_neg e, hcell j hj3, ← hj2]
        simp [List.getElem_set_ne e, List.getD_eq_getElem?_getD, List.getElem?_eq_getElem hj3]
end Go.Proofs.Ytihfmphaajdhnaa.P
