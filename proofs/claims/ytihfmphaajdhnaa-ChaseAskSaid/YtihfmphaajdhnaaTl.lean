import Derived.Test.YtihfmphaajdhnaaMc
import Derived.Test.YtihfmphaajdhnaaTh
/-! Package chase in the words of truths. -/
namespace Go.Proofs.Ytihfmphaajdhnaa.P
open Go.RowKit Go.Proofs.YtihfmphaajdhnaaW.PrintWords Go.Proofs.YtihfmphaajdhnaaW.PrintLast Go.Proofs.YtihfmphaajdhnaaW.PrintMore Go.Proofs.Ytihfmphaajdhnaa.Th
set_option linter.unusedVariables false
set_option linter.unusedSimpArgs false

def loF (cs : List S65) (k : Nat) : Int := (cl cs k).f0.f0
def hiF (cs : List S65) (k : Nat) : Int := (cl cs k).f0.f1
def gs (s : St) : Gs := ⟨s.placed, s.last, s.time⟩
theorem mx_max (a b : Int) : mx a b = max a b := by
  unfold mx
  split <;> omega
theorem mn_min (a b : Int) : mn a b = min a b := by
  unfold mn
  split <;> omega
theorem earl_eT {cs : List S65} (hn : Numbered cs) (s : St) {p : Nat} (hp : p < cs.length) : earl (cl cs p) s = eT (loF cs) (gs s) p := by
  unfold earl eT
  rw [mx_max, hn p hp]
  rfl
theorem gs_next {cs : List S65} (hn : Numbered cs) (s : St) {p : Nat} (hp : p < cs.length) : gs (stNext cs s p) = stp (loF cs) (gs s) p := by
  unfold stNext stp gs
  rw [earl_eT hn s hp]
  rfl
theorem nexts_iff {cs : List S65} (hn : Numbered cs) (s o : St) : o ∈ nexts cs s ↔ ∃ p, p < cs.length ∧ s.placed.testBit p = false ∧ eT (loF cs) (gs s) p ≤ hiF cs p ∧ o = stNext cs s p := by
  unfold nexts nextsTo
  simp only [List.mem_map, List.mem_filter, List.mem_range]
  constructor
  · rintro ⟨p, ⟨hp, hm⟩, rfl⟩
    unfold mayNext at hm
    simp only [Bool.and_eq_true, Bool.not_eq_true', decide_eq_true_eq] at hm
    exact ⟨p, hp, hm.1, by rw [← earl_eT hn s hp]; exact hm.2, rfl⟩
  · rintro ⟨p, hp, hb, he, rfl⟩
    refine ⟨p, ⟨hp, ?_⟩, rfl⟩
    unfold mayNext
    simp only [Bool.and_eq_true, Bool.not_eq_true', decide_eq_true_eq]
    exact ⟨hb, by rw [earl_eT hn s hp]; exact he⟩
def toZ (l : List Nat) : List Int := l.map Int.ofNat
theorem ordersF_iff {cs : List S65} (hn : Numbered cs) : ∀ (d : Nat) (s : St) (y x : List Int), x ∈ ordersF cs d s y ↔ ∃ l : List Nat, l.length = d ∧ x = y ++ toZ l ∧ Run (loF cs) (hiF cs) cs.length (gs s) l
  | 0, s, y, x => by
    constructor
    · intro h
      have h : x = y := by simpa [ordersF] using h
      exact ⟨[], rfl, by simp [toZ, h], trivial⟩
    · rintro ⟨l, hl, rfl, _⟩
      obtain rfl := List.length_eq_zero_iff.1 hl
      simp [ordersF, toZ]
  | d + 1, s, y, x => by
    simp only [ordersF, List.mem_flatMap]
    constructor
    · rintro ⟨o, ho, hx⟩
      obtain ⟨p, hp, hb, he, rfl⟩ := (nexts_iff hn s o).1 ho
      obtain ⟨l, hl, rfl, hr⟩ := (ordersF_iff hn d _ _ x).1 hx
      refine ⟨p :: l, by simp [hl], by simp [toZ, stNext], hp, hb, he, ?_⟩
      rw [← gs_next hn s hp]
      exact hr
    · rintro ⟨l, hl, rfl, hr⟩
      cases l with
      | nil => simp at hl
      | cons p l =>
        obtain ⟨hp, hb, he, hr⟩ := hr
        refine ⟨stNext cs s p, (nexts_iff hn s _).2 ⟨p, hp, hb, he, rfl⟩, (ordersF_iff hn d _ _ _).2 ⟨l, by simpa using hl, by simp [toZ, stNext], ?_⟩⟩
        rw [gs_next hn s hp]
        exact hr
theorem perm_range {l : List Nat} {n : Nat} (hd : l.Nodup) (hlt : ∀ p ∈ l, p < n) (hl : l.length = n) : l.Perm (List.range n) := by
  refine (List.perm_ext_iff_of_nodup hd List.nodup_range).2 fun p => ⟨fun h => List.mem_range.2 (hlt p h), fun h => ?_⟩
  by_cases hp : p ∈ l
  · exact hp
  · exfalso
    have h1 : (p :: l).Nodup := List.nodup_cons.2 ⟨hp, hd⟩
    have h2 := h1.length_le_of_subset (l₂ := List.range n) (fun q hq => by
      rcases List.mem_cons.1 hq with rfl | hq
      · exact h
      · exact List.mem_range.2 (hlt q hq))
    simp at h2
    omega
/-- All orders are the orders of all truths. -/
theorem allOrders_iff {cs : List S65} (hn : Numbered cs) (h0 : ∀ p, p < cs.length → 0 ≤ loF cs p) (x : List Int) : x ∈ allOrders cs ↔ ∃ T, Truth (loF cs) (hiF cs) cs.length T ∧ x = toZ (ordT T cs.length) := by
  unfold allOrders
  rw [ordersF_iff hn]
  constructor
  · rintro ⟨l, hl, rfl, hr⟩
    obtain ⟨hd, hf⟩ := hr.free
    obtain ⟨T, h1, h2⟩ := hr.times
    have hp := perm_range hd (fun p hp => (hf p hp).1) hl
    refine ⟨T, fun p hp' => ?_, ?_⟩
    · obtain ⟨a, b, _⟩ := h1 p (hp.mem_iff.2 (List.mem_range.2 hp'))
      exact ⟨a, b⟩
    · rw [List.nil_append, sorted_unique (hp.trans (ordT_perm T _).symm) h2 (ordT_sorted T _)]
  · rintro ⟨T, hT, rfl⟩
    refine ⟨ordT T cs.length, ordT_len T _, rfl, Run.of_times (T := T) (ordT_nodup T _) (fun p hp => ?_) (ordT_sorted T _)⟩
    have hp' := (ordT_mem T _ p).1 hp
    obtain ⟨a, b⟩ := hT p hp'
    have := h0 p hp'
    refine ⟨hp', by show (0 : Nat).testBit p = false; simp, a, b, ?_, ?_⟩
    · show (0 : Int) ≤ T p
      omega
    · intro h
      have h : (p : Int) < -1 := h
      omega
/-- At which place a pair is, of a truth's order. -/
theorem posTo_at {l : List Nat} (hd : l.Nodup) (hlt : ∀ p ∈ l, p < 6) : ∀ k, k ≤ l.length → ∀ i, i < k → ∀ hi : i < l.length, (posTo (toZ l) k).getD l[i] 0 = (i : Int)
  | 0, _, i, hi, _ => by omega
  | k + 1, hk, i, hi, hil => by
    have hkl : k < l.length := by omega
    have hz : (toZ l).getD k 0 = (l[k] : Int) := by
      unfold toZ
      rw [List.getD_eq_getElem?_getD, List.getElem?_map, List.getElem?_eq_getElem hkl]
      rfl
    rw [posTo_succ, hz, Int.toNat_natCast, List.getD_eq_getElem?_getD, List.getElem?_set]
    by_cases e : l[k] = l[i]
    · have e2 : k = i := (List.getElem?_inj hkl hd).1 (by rw [List.getElem?_eq_getElem hkl, List.getElem?_eq_getElem hil, e])
      subst e2
      rw [if_pos rfl, posTo_len, if_pos (hlt _ (List.getElem_mem hil))]
      rfl
    · have hik : i < k := by
        rcases Nat.lt_or_ge i k with h | h
        · exact h
        · have : i = k := by omega
          subst this
          exact absurd rfl e
      rw [if_neg e]
      have := posTo_at hd hlt k (by omega) i hik hil
      rwa [List.getD_eq_getElem?_getD] at this
theorem posOf_ord {T : Nat → Int} {n : Nat} (h6 : n ≤ 6) {p : Nat} (hp : p < n) : (posOf (toZ (ordT T n))).getD p 0 = (plc T n p : Int) := by
  obtain ⟨h1, h2⟩ := get_plc T n p hp
  have hlen := ordT_len T n
  have hi : plc T n p < (ordT T n).length := by omega
  have h3 : (ordT T n)[plc T n p] = p := by
    rw [List.getElem?_eq_getElem hi] at h1
    exact Option.some.inj h1
  have h := posTo_at (ordT_nodup T n) (fun q hq => by have := (ordT_mem T n q).1 hq; omega) (ordT T n).length (Nat.le_refl _) _ hi hi
  rw [h3] at h
  unfold posOf
  rw [show (toZ (ordT T n)).length = (ordT T n).length from by simp [toZ]]
  exact h
theorem soOf_two (l : List Bool) : soOf l = 2 ↔ ∀ b ∈ l, b = true := by
  unfold soOf
  by_cases h : l.contains false = true
  · rw [if_pos h]
    simp only [List.contains_iff_mem] at h
    refine ⟨fun e => ?_, fun hb => by cases hb _ h⟩
    split at e <;> omega
  · rw [if_neg h]
    simp only [List.contains_iff_mem] at h
    refine ⟨fun _ b hb => ?_, fun _ => rfl⟩
    cases b
    · exact absurd hb h
    · rfl
theorem soOf_zero (l : List Bool) (hne : l ≠ []) : soOf l = 0 ↔ ∀ b ∈ l, b = false := by
  unfold soOf
  by_cases h : l.contains true = true
  · rw [if_pos h]
    simp only [List.contains_iff_mem] at h
    refine ⟨fun e => ?_, fun hb => by cases hb _ h⟩
    split at e <;> omega
  · rw [if_neg h]
    simp only [List.contains_iff_mem] at h
    refine ⟨fun _ b hb => ?_, fun hb => ?_⟩
    · cases b
      · rfl
      · exact absurd hb h
    · rw [if_pos]
      cases l with
      | nil => exact absurd rfl hne
      | cons b r => simp [hb b (by simp)]
theorem soOf_range (l : List Bool) : 0 ≤ soOf l ∧ soOf l ≤ 2 := by
  unfold soOf
  split
  · split <;> decide
  · decide
/-- A chase that can be: each clock tells some time. -/
structure Able (cs : List S65) : Prop where
  num : Numbered cs
  h6 : cs.length ≤ 6
  lo0 : ∀ p, p < cs.length → 0 ≤ loF cs p
  le : ∀ p, p < cs.length → loF cs p ≤ hiF cs p
theorem Able.truth {cs : List S65} (h : Able cs) : Truth (loF cs) (hiF cs) cs.length (loF cs) := fun p hp => ⟨Int.le_refl _, h.le p hp⟩
theorem Able.mem {cs : List S65} (h : Able cs) {T : Nat → Int} (hT : Truth (loF cs) (hiF cs) cs.length T) : toZ (ordT T cs.length) ∈ allOrders cs := (allOrders_iff h.num h.lo0 _).2 ⟨T, hT, rfl⟩
theorem asked_two {cs : List S65} (h : Able cs) (P : List Int → Bool) : asked cs P = 2 ↔ ∀ T, Truth (loF cs) (hiF cs) cs.length T → P (posOf (toZ (ordT T cs.length))) = true := by
  unfold asked
  rw [soOf_two]
  constructor
  · intro hb T hT
    exact hb _ (List.mem_map.2 ⟨_, h.mem hT, rfl⟩)
  · intro hT b hb
    obtain ⟨x, hx, rfl⟩ := List.mem_map.1 hb
    obtain ⟨T, hT', rfl⟩ := (allOrders_iff h.num h.lo0 x).1 hx
    exact hT T hT'
theorem asked_zero {cs : List S65} (h : Able cs) (P : List Int → Bool) : asked cs P = 0 ↔ ∀ T, Truth (loF cs) (hiF cs) cs.length T → P (posOf (toZ (ordT T cs.length))) = false := by
  unfold asked
  rw [soOf_zero]
  · constructor
    · intro hb T hT
      exact hb _ (List.mem_map.2 ⟨_, h.mem hT, rfl⟩)
    · intro hT b hb
      obtain ⟨x, hx, rfl⟩ := List.mem_map.1 hb
      obtain ⟨T, hT', rfl⟩ := (allOrders_iff h.num h.lo0 x).1 hx
      exact hT T hT'
  · intro e
    have := List.mem_map_of_mem (f := fun x => P (posOf x)) (h.mem h.truth)
    rw [e] at this
    cases this
theorem asked_range (cs : List S65) (P : List Int → Bool) : 0 ≤ asked cs P ∧ asked cs P ≤ 2 := soOf_range _
/-- Whether a pair comes into the final. -/
def comesF (f : Int) (p : Nat) : List Int → Bool := fun l => decide (l.getD p 0 < f)
theorem comes_two {cs : List S65} (h : Able cs) (f : Int) {p : Nat} (hp : p < cs.length) : asked cs (comesF f p) = 2 ↔ (pHi (loF cs) (hiF cs) cs.length p : Int) < f := by
  rw [asked_two h]
  constructor
  · intro hT
    have := hT _ (late_truth h.le p)
    unfold comesF at this
    rw [posOf_ord h.h6 hp] at this
    simp only [decide_eq_true_eq, decide_eq_false_iff_not, Int.not_lt] at this
    exact this
  · intro hf T hT
    unfold comesF
    rw [posOf_ord h.h6 hp]
    have := le_pHi hp hT
    simp
    omega
theorem comes_zero {cs : List S65} (h : Able cs) (f : Int) {p : Nat} (hp : p < cs.length) : asked cs (comesF f p) = 0 ↔ f ≤ (pLo (loF cs) (hiF cs) cs.length p : Int) := by
  rw [asked_zero h]
  constructor
  · intro hT
    have := hT _ (early_truth h.le p)
    unfold comesF at this
    rw [posOf_ord h.h6 hp] at this
    simp only [decide_eq_true_eq, decide_eq_false_iff_not, Int.not_lt] at this
    exact this
  · intro hf T hT
    unfold comesF
    rw [posOf_ord h.h6 hp]
    have := pLo_le hp hT
    simp
    omega
end Go.Proofs.Ytihfmphaajdhnaa.P
