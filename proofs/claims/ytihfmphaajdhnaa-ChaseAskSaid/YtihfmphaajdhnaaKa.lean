import Derived.Test.YtihfmphaajdhnaaKn
/-! The law ChaseAsk (and ChaseEnds): the plain side. -/
namespace Go.Proofs.Ytihfmphaajdhnaa.P
open Go.RowKit Go.Proofs.YtihfmphaajdhnaaW.PrintWords Go.Proofs.YtihfmphaajdhnaaW.PrintLast Go.Proofs.YtihfmphaajdhnaaW.PrintMore Go.Proofs.Ytihfmphaajdhnaa.Th
set_option linter.unusedVariables false
set_option linter.unusedSimpArgs false

theorem clk_known {e t : Int} (he : 0 ≤ e ∧ e ≤ 3) (ht : 0 ≤ t ∧ t ≤ 203) : clk e [t - e, t + e] = (t, t) := by
  simp only [clk, List.foldl_cons, List.foldl_nil, nar, mx_max, mn_min]
  refine Prod.ext ?_ ?_
  · simp only; omega
  · simp only; omega
theorem cl_clks {e : Int} {ps : List (List Int)} {i : Nat} (hi : i < ps.length) : cl (clks e ps) i = mkc e (ps.getD i []) i := by
  have h1 : i < (clks e ps).length := by rw [clks_len]; exact hi
  unfold cl
  rw [List.getD_eq_getElem?_getD, List.getElem?_eq_getElem h1]
  simp [clks, List.getD_eq_getElem?_getD, List.getElem?_eq_getElem hi]
theorem lo_clks {e : Int} {ps : List (List Int)} {i : Nat} (hi : i < ps.length) : loF (clks e ps) i = (clk e (ps.getD i [])).1 := by unfold loF; rw [cl_clks hi]; rfl
theorem hi_clks {e : Int} {ps : List (List Int)} {i : Nat} (hi : i < ps.length) : hiF (clks e ps) i = (clk e (ps.getD i [])).2 := by unfold hiF; rw [cl_clks hi]; rfl
theorem getD_set (ps : List (List Int)) (p i : Nat) (x : List Int) (hi : i < ps.length) : (ps.set p x).getD i [] = if p = i then x else ps.getD i [] := by
  rw [List.getD_eq_getElem?_getD, List.getD_eq_getElem?_getD, List.getElem?_set]
  by_cases h : p = i
  · subst h; simp [hi]
  · simp [h]
theorem clks_set {e t : Int} (he : 0 ≤ e ∧ e ≤ 3) (ht : 0 ≤ t ∧ t ≤ 203) {ps : List (List Int)} {p : Nat} (hp : p < ps.length) : clks e (ps.set p [t - e, t + e]) = setT (clks e ps) p t := by
  refine List.ext_getElem (by simp [clks_len, setT]) fun i h1 h2 => ?_
  have hi : i < ps.length := by rw [clks_len] at h1; simpa using h1
  have e1 : (clks e (ps.set p [t - e, t + e]))[i] = mkc e ((ps.set p [t - e, t + e]).getD i []) i := by
    have := cl_clks (e := e) (ps := ps.set p [t - e, t + e]) (i := i) (by simpa using hi)
    unfold cl at this
    rwa [List.getD_eq_getElem?_getD, List.getElem?_eq_getElem h1] at this
  have e2 : (setT (clks e ps) p t)[i] = if p = i then ⟨⟨t, t⟩, (cl (clks e ps) p).f1⟩ else (clks e ps)[i]'(by rw [clks_len]; exact hi) := by simp only [setT, List.getElem_set]
  rw [e1, e2, getD_set _ _ _ _ hi]
  by_cases h : p = i
  · subst h
    rw [if_pos rfl, if_pos rfl, cl_clks hi]
    unfold mkc
    rw [clk_known he ht]
  · rw [if_neg h, if_neg h]
    have := cl_clks (e := e) (ps := ps) (i := i) hi
    unfold cl at this
    rw [List.getD_eq_getElem?_getD, List.getElem?_eq_getElem (by rw [clks_len]; exact hi)] at this
    exact this.symm
theorem vld_set {e f : Int} {ps : List (List Int)} (h : vld e f ps = true) (p : Nat) {x : List Int} (hx : okL x = true) : vld e f (ps.set p x) = true := by
  have hh : okH e f ps.length = true := by unfold vld at h; rw [Bool.and_eq_true] at h; exact h.1
  refine vld_all (by rw [List.length_set]; exact hh) fun j hj => ?_
  rw [List.length_set] at hj
  rw [getD_set _ _ _ _ hj]
  split
  · exact hx
  · exact vld_row h hj
theorem okL_known {e t : Int} (he : 0 ≤ e) (h0 : 0 ≤ t - e) (h1 : t + e ≤ 200) : okL [t - e, t + e] = true := by
  refine (okL_iff _).2 ⟨by simp, by simp, fun n hn => ?_⟩
  simp at hn
  rcases hn with rfl | rfl <;> omega
theorem clk_fold (e : Int) : ∀ (l : List Int) (k : Int × Int), k.1 ≤ (l.foldl (nar e) k).1 ∧ (l.foldl (nar e) k).2 ≤ k.2 ∧ ∀ n ∈ l, n - e ≤ (l.foldl (nar e) k).1 ∧ (l.foldl (nar e) k).2 ≤ n + e
  | [], k => ⟨Int.le_refl _, Int.le_refl _, fun n hn => by cases hn⟩
  | m :: l, k => by
    obtain ⟨h1, h2, h3⟩ := clk_fold e l (nar e k m)
    have a1 : k.1 ≤ (nar e k m).1 ∧ m - e ≤ (nar e k m).1 := by unfold nar; rw [mx_max]; exact ⟨Int.le_max_left _ _, Int.le_max_right _ _⟩
    have a2 : (nar e k m).2 ≤ k.2 ∧ (nar e k m).2 ≤ m + e := by unfold nar; rw [mn_min]; exact ⟨Int.min_le_left _ _, Int.min_le_right _ _⟩
    refine ⟨Int.le_trans a1.1 h1, Int.le_trans h2 a2.1, fun n hn => ?_⟩
    rcases List.mem_cons.1 hn with rfl | hn
    · exact ⟨Int.le_trans a1.2 h1, Int.le_trans h2 a2.2⟩
    · exact h3 n hn
theorem clk_near (e : Int) (l : List Int) : ∀ n ∈ l, n - e ≤ (clk e l).1 ∧ (clk e l).2 ≤ n + e := (clk_fold e l (0, 203)).2.2
theorem countP_cl (cs : List S65) (P : S65 → Bool) : cs.countP P = (List.range cs.length).countP fun q => P (cl cs q) := by
  have h : cs = (List.range cs.length).map (cl cs) := by
    refine List.ext_getElem (by simp) fun i h1 h2 => ?_
    simp [cl, List.getD_eq_getElem?_getD, List.getElem?_eq_getElem h1]
  conv => lhs; rw [h]
  rw [List.countP_map]
  rfl
theorem placeLo_p {cs : List S65} (hn : Numbered cs) {p : Nat} (hp : p < cs.length) : placeLo cs p = pLo (loF cs) (hiF cs) cs.length p := by
  unfold placeLo pLo plc
  rw [countP_cl]
  refine List.countP_congr fun q hq => ?_
  have hq' := List.mem_range.1 hq
  unfold lows bef Bf Th.early
  have e1 := hn q hq'
  have e2 := hn p hp
  rw [e1, e2]
  unfold loF hiF
  by_cases h : q = p
  · subst h; simp
  · simp only [if_neg h, if_pos]
    simp
    omega
theorem placeHi_p {cs : List S65} (hn : Numbered cs) {p : Nat} (hp : p < cs.length) : placeHi cs p = pHi (loF cs) (hiF cs) cs.length p := by
  unfold placeHi pHi plc
  rw [countP_cl]
  refine List.countP_congr fun q hq => ?_
  have hq' := List.mem_range.1 hq
  unfold highs bef Bf Th.late
  have e1 := hn q hq'
  have e2 := hn p hp
  rw [e1, e2]
  unfold loF hiF
  by_cases h : q = p
  · subst h; simp
  · simp only [if_neg h, if_pos]
    simp
    omega
theorem so2 (a b : Bool) : soOf [a, b] = if a && b then 2 else if a || b then 1 else 0 := by cases a <;> cases b <;> rfl
/-- What is told by places is what is told by all orders. -/
theorem fin_eq {cs : List S65} (h : Able cs) (f : Int) {p : Nat} (hp : p < cs.length) : finOf f cs p = asked cs (comesF f p) := by
  unfold finOf
  rw [placeLo_p h.num hp, placeHi_p h.num hp, so2]
  have h1 := comes_two h f hp
  have h0 := comes_zero h f hp
  have hr := asked_range cs (comesF f p)
  have hle : pLo (loF cs) (hiF cs) cs.length p ≤ pHi (loF cs) (hiF cs) cs.length p := Nat.le_trans (pLo_le hp h.truth) (le_pHi hp h.truth)
  by_cases a : (pHi (loF cs) (hiF cs) cs.length p : Int) < f
  · rw [h1.2 a]
    have : (pLo (loF cs) (hiF cs) cs.length p : Int) < f := by omega
    simp [a, this]
  · by_cases b : (pLo (loF cs) (hiF cs) cs.length p : Int) < f
    · have n2 : asked cs (comesF f p) ≠ 2 := fun e => a (h1.1 e)
      have n0 : asked cs (comesF f p) ≠ 0 := fun e => by have := h0.1 e; omega
      simp [a, b]
      omega
    · rw [h0.2 (by omega)]
      simp [a, b]
theorem able_set {cs : List S65} (h : Able cs) {p : Nat} (hp : p < cs.length) {t : Int} (h1 : 0 ≤ t) : Able (setT cs p t) := by
  have hl : (setT cs p t).length = cs.length := by simp [setT]
  have hc : ∀ i, i < cs.length → cl (setT cs p t) i = if p = i then ⟨⟨t, t⟩, (cl cs p).f1⟩ else cl cs i := by
    intro i hi
    show (cs.set p _).getD i _ = _
    rw [List.getD_eq_getElem?_getD, List.getElem?_set]
    by_cases e : p = i
    · subst e; simp [hi]
    · simp [e, cl, List.getD_eq_getElem?_getD]
  refine ⟨setT_numbered h.num p t, by rw [hl]; exact h.h6, fun i hi => ?_, fun i hi => ?_⟩
  · rw [hl] at hi
    unfold loF
    rw [hc i hi]
    split
    · exact h1
    · exact h.lo0 i hi
  · rw [hl] at hi
    unfold loF hiF
    rw [hc i hi]
    split
    · exact Int.le_refl _
    · exact h.le i hi
end Go.Proofs.Ytihfmphaajdhnaa.P
