/-! Chases in plain Lean: orders and truths. -/
namespace Go.Proofs.Ytihfmphaajdhnaa.Th
set_option linter.unusedVariables false

/-- Does a pair come before another one, with these times? -/
def Bf (T : Nat → Int) (p q : Nat) : Prop := T p < T q ∨ (T p = T q ∧ p < q)
instance (T : Nat → Int) (p q : Nat) : Decidable (Bf T p q) := by unfold Bf; infer_instance
theorem Bf.trans {T : Nat → Int} {a b c : Nat} (h : Bf T a b) (k : Bf T b c) : Bf T a c := by unfold Bf at *; omega
theorem Bf.asymm {T : Nat → Int} {a b : Nat} (h : Bf T a b) : ¬ Bf T b a := by unfold Bf at *; omega
theorem Bf.irrefl (T : Nat → Int) (a : Nat) : ¬ Bf T a a := by unfold Bf; omega
theorem Bf.total {T : Nat → Int} {a b : Nat} (h : a ≠ b) : Bf T a b ∨ Bf T b a := by unfold Bf; omega
/-- A pair's place. -/
def plc (T : Nat → Int) (n p : Nat) : Nat := (List.range n).countP fun q => decide (Bf T q p)

structure Gs where
  placed : Nat
  last : Int
  time : Int
def eT (lo : Nat → Int) (s : Gs) (p : Nat) : Int := max (lo p) (if (p : Int) < s.last then s.time + 1 else s.time)
def stp (lo : Nat → Int) (s : Gs) (p : Nat) : Gs := ⟨s.placed ||| 2 ^ p, p, eT lo s p⟩
/-- These pairs can come next, one after the other. -/
def Run (lo hi : Nat → Int) (n : Nat) : Gs → List Nat → Prop
  | _, [] => True
  | s, p :: l => p < n ∧ s.placed.testBit p = false ∧ eT lo s p ≤ hi p ∧ Run lo hi n (stp lo s p) l

theorem bit_stp (lo : Nat → Int) (s : Gs) (p q : Nat) : (stp lo s p).placed.testBit q = (s.placed.testBit q || decide (p = q)) := by
  show (s.placed ||| 2 ^ p).testBit q = _
  rw [Nat.testBit_or, Nat.testBit_two_pow]
theorem Run.free {lo hi : Nat → Int} {n : Nat} : ∀ {l : List Nat} {s : Gs}, Run lo hi n s l → l.Nodup ∧ ∀ p ∈ l, p < n ∧ s.placed.testBit p = false
  | [], s, _ => ⟨List.nodup_nil, fun p hp => by cases hp⟩
  | p :: l, s, h => by
    obtain ⟨h1, h2, _, h4⟩ := h
    obtain ⟨k1, k2⟩ := h4.free
    have k3 : ∀ q ∈ l, q < n ∧ s.placed.testBit q = false ∧ p ≠ q := fun q hq => by
      obtain ⟨a, b⟩ := k2 q hq
      rw [bit_stp] at b
      simp only [Bool.or_eq_false_iff, decide_eq_false_iff_not] at b
      exact ⟨a, b.1, b.2⟩
    refine ⟨List.nodup_cons.2 ⟨fun hp => (k3 p hp).2.2 rfl, k1⟩, fun q hq => ?_⟩
    rcases List.mem_cons.1 hq with rfl | hq
    · exact ⟨h1, h2⟩
    · exact ⟨(k3 q hq).1, (k3 q hq).2.1⟩
theorem eT_ge (lo : Nat → Int) (s : Gs) (p : Nat) : lo p ≤ eT lo s p ∧ s.time ≤ eT lo s p ∧ ((p : Int) < s.last → s.time < eT lo s p) := by
  unfold eT
  refine ⟨Int.le_max_left _ _, ?_, fun h => ?_⟩
  · refine Int.le_trans ?_ (Int.le_max_right _ _); split <;> omega
  · refine Int.lt_of_lt_of_le ?_ (Int.le_max_right _ _); rw [if_pos h]; omega
theorem eT_le (lo : Nat → Int) (s : Gs) (p : Nat) (t : Int) (h1 : lo p ≤ t) (h2 : s.time ≤ t) (h3 : (p : Int) < s.last → s.time < t) : eT lo s p ≤ t := by
  unfold eT
  refine Int.max_le.2 ⟨h1, ?_⟩
  split
  · have := h3 (by assumption); omega
  · exact h2
/-- What can come next, comes with times. -/
theorem Run.times {lo hi : Nat → Int} {n : Nat} : ∀ {l : List Nat} {s : Gs}, Run lo hi n s l →
    ∃ T : Nat → Int, (∀ p ∈ l, lo p ≤ T p ∧ T p ≤ hi p ∧ s.time ≤ T p ∧ ((p : Int) < s.last → s.time < T p)) ∧ l.Pairwise (Bf T)
  | [], s, _ => ⟨fun _ => 0, fun p hp => (by cases hp), List.Pairwise.nil⟩
  | p :: l, s, h => by
    have hf := h.free.1
    obtain ⟨h1, h2, h3, h4⟩ := h
    obtain ⟨T, k1, k2⟩ := h4.times
    obtain ⟨e1, e2, e3⟩ := eT_ge lo s p
    have hne : ∀ q ∈ l, q ≠ p := fun q hq e => (List.nodup_cons.1 hf).1 (e ▸ hq)
    have k1' : ∀ q ∈ l, lo q ≤ T q ∧ T q ≤ hi q ∧ eT lo s p ≤ T q ∧ ((q : Int) < (p : Int) → eT lo s p < T q) := k1
    refine ⟨fun q => if q = p then eT lo s p else T q, fun q hq => ?_, List.pairwise_cons.2 ⟨fun q hq => ?_, ?_⟩⟩
    · rcases List.mem_cons.1 hq with rfl | hq
      · simp only [if_pos]; exact ⟨e1, h3, e2, e3⟩
      · simp only [if_neg (hne q hq)]
        obtain ⟨a, b, c, d⟩ := k1' q hq
        refine ⟨a, b, by omega, fun hl => ?_⟩
        by_cases hpl : (p : Int) < s.last
        · have := e3 hpl; omega
        · have := d (by omega); omega
    · obtain ⟨a, b, c, d⟩ := k1' q hq
      have := hne q hq
      unfold Bf
      simp only [if_pos, if_neg this]
      by_cases hqp : q < p
      · have := d (by omega); omega
      · omega
    · refine k2.imp_of_mem fun {a b} ha hb hab => ?_
      unfold Bf at hab ⊢
      simp only [if_neg (hne a ha), if_neg (hne b hb)]
      exact hab
/-- With times, all come. -/
theorem Run.of_times {lo hi : Nat → Int} {n : Nat} {T : Nat → Int} : ∀ {l : List Nat} {s : Gs}, l.Nodup → (∀ p ∈ l, p < n ∧ s.placed.testBit p = false ∧ lo p ≤ T p ∧ T p ≤ hi p ∧ s.time ≤ T p ∧ ((p : Int) < s.last → s.time < T p)) → l.Pairwise (Bf T) → Run lo hi n s l
  | [], s, _, _, _ => trivial
  | p :: l, s, hn, h, hp => by
    obtain ⟨a1, a2, a3, a4, a5, a6⟩ := h p (by simp)
    obtain ⟨n1, n2⟩ := List.nodup_cons.1 hn
    obtain ⟨p1, p2⟩ := List.pairwise_cons.1 hp
    have he := eT_le lo s p (T p) a3 a5 a6
    refine ⟨a1, a2, by omega, Run.of_times n2 (fun q hq => ?_) p2⟩
    obtain ⟨b1, b2, b3, b4, b5, b6⟩ := h q (by simp [hq])
    have hb := p1 q hq
    unfold Bf at hb
    refine ⟨b1, ?_, b3, b4, ?_, ?_⟩
    · rw [bit_stp, b2]
      have : p ≠ q := fun e => n1 (e ▸ hq)
      simp [this]
    · show eT lo s p ≤ T q
      omega
    · intro hqp
      have hqp : (q : Int) < (p : Int) := hqp
      show eT lo s p < T q
      omega

/-- The order of a truth. -/
def ordT (T : Nat → Int) (n : Nat) : List Nat := (List.range n).mergeSort fun p q => decide (Bf T p q) || p == q
theorem ordT_perm (T : Nat → Int) (n : Nat) : (ordT T n).Perm (List.range n) := List.mergeSort_perm _ _
theorem ordT_nodup (T : Nat → Int) (n : Nat) : (ordT T n).Nodup := (ordT_perm T n).nodup_iff.2 List.nodup_range
theorem ordT_len (T : Nat → Int) (n : Nat) : (ordT T n).length = n := by rw [(ordT_perm T n).length_eq, List.length_range]
theorem ordT_mem (T : Nat → Int) (n p : Nat) : p ∈ ordT T n ↔ p < n := by rw [(ordT_perm T n).mem_iff, List.mem_range]
theorem ordT_sorted (T : Nat → Int) (n : Nat) : (ordT T n).Pairwise (Bf T) := by
  have h := List.pairwise_mergeSort (le := fun p q => decide (Bf T p q) || p == q) (fun a b c h1 h2 => by
    simp only [Bool.or_eq_true, decide_eq_true_eq, beq_iff_eq] at h1 h2 ⊢
    rcases h1 with h1 | rfl
    · rcases h2 with h2 | rfl
      · exact .inl (h1.trans h2)
      · exact .inl h1
    · exact h2) (fun a b => by
    simp only [Bool.or_eq_true, decide_eq_true_eq, beq_iff_eq]
    by_cases h : a = b
    · exact .inl (.inr h)
    · rcases Bf.total (T := T) h with h | h
      · exact .inl (.inl h)
      · exact .inr (.inl h)) (List.range n)
  refine (List.Pairwise.and h (ordT_nodup T n)).imp fun {a b} h => ?_
  simp only [Bool.or_eq_true, decide_eq_true_eq, beq_iff_eq] at h
  exact h.1.resolve_right h.2
/-- A list in the order of its times is that order. -/
theorem sorted_unique {T : Nat → Int} : ∀ {l m : List Nat}, l.Perm m → l.Pairwise (Bf T) → m.Pairwise (Bf T) → l = m := by
  intro l m hp hl hm
  exact hp.eq_of_pairwise (fun a b _ _ h1 h2 => absurd h2 h1.asymm) hl hm

/-- Where a pair stands in a sorted list. -/
theorem count_at {T : Nat → Int} {A B : List Nat} {p : Nat} (h : (A ++ p :: B).Pairwise (Bf T)) : (A ++ p :: B).countP (fun q => decide (Bf T q p)) = A.length := by
  obtain ⟨h1, h2, h3⟩ := List.pairwise_append.1 h
  obtain ⟨h4, _⟩ := List.pairwise_cons.1 h2
  rw [List.countP_append, List.countP_cons]
  have e1 : A.countP (fun q => decide (Bf T q p)) = A.length := by
    rw [List.countP_eq_length]
    intro q hq
    simpa using h3 q hq p (by simp)
  have e2 : B.countP (fun q => decide (Bf T q p)) = 0 := by
    rw [List.countP_eq_zero]
    intro q hq
    simpa using (h4 q hq).asymm
  rw [e1, e2]
  simp [Bf.irrefl]
theorem plc_at {T : Nat → Int} {n : Nat} {A B : List Nat} {p : Nat} (hp : (A ++ p :: B).Perm (List.range n)) (h : (A ++ p :: B).Pairwise (Bf T)) : plc T n p = A.length := by
  unfold plc
  rw [← hp.countP_eq, count_at h]
theorem plc_get (T : Nat → Int) (n : Nat) (i : Nat) (hi : i < n) : ∃ p, p < n ∧ (ordT T n)[i]? = some p ∧ plc T n p = i := by
  have hlen := ordT_len T n
  have hi' : i < (ordT T n).length := by omega
  refine ⟨(ordT T n)[i], ?_, List.getElem?_eq_getElem hi', ?_⟩
  · exact (ordT_mem T n _).1 (List.getElem_mem hi')
  · have hs : ordT T n = (ordT T n).take i ++ (ordT T n)[i] :: (ordT T n).drop (i + 1) := by
      rw [← List.drop_eq_getElem_cons hi', List.take_append_drop]
    have hq := ordT_sorted T n
    have hpm := ordT_perm T n
    rw [hs] at hq hpm
    rw [plc_at hpm hq]
    simp; omega
theorem get_plc (T : Nat → Int) (n p : Nat) (hp : p < n) : (ordT T n)[plc T n p]? = some p ∧ plc T n p < n := by
  have hm := (ordT_mem T n p).2 hp
  obtain ⟨i, hi, he⟩ := List.getElem_of_mem hm
  have hlen := ordT_len T n
  obtain ⟨q, _, h2, h3⟩ := plc_get T n i (by omega)
  rw [List.getElem?_eq_getElem hi, he] at h2
  cases h2
  rw [h3]
  exact ⟨by rw [List.getElem?_eq_getElem hi, he], by omega⟩
theorem plc_inj (T : Nat → Int) (n p q : Nat) (hp : p < n) (hq : q < n) (h : plc T n p = plc T n q) : p = q := by
  have h1 := (get_plc T n p hp).1
  have h2 := (get_plc T n q hq).1
  rw [h, h2] at h1
  cases h1
  rfl
theorem plc_lt {T : Nat → Int} {n p q : Nat} (hp : p < n) (h : Bf T p q) : plc T n p < plc T n q := by
  unfold plc
  have hsub : ∀ l : List Nat, l.countP (fun r => decide (Bf T r p)) ≤ l.countP (fun r => decide (Bf T r q)) := fun l =>
    List.countP_mono_left fun r _ hr => by
      simp only [decide_eq_true_eq] at hr ⊢
      exact hr.trans h
  obtain ⟨A, B, hs⟩ := List.append_of_mem (List.mem_range.2 hp)
  rw [hs, List.countP_append, List.countP_append, List.countP_cons, List.countP_cons]
  have := hsub A
  have := hsub B
  simp [Bf.irrefl, h]
  omega
/-- Times that pairs can truly have. -/
def Truth (lo hi : Nat → Int) (n : Nat) (T : Nat → Int) : Prop := ∀ p, p < n → lo p ≤ T p ∧ T p ≤ hi p
/-- The least and the greatest place. -/
def early (lo hi : Nat → Int) (p q : Nat) : Int := if q = p then lo p else hi q
def late (lo hi : Nat → Int) (p q : Nat) : Int := if q = p then hi p else lo q
def pLo (lo hi : Nat → Int) (n p : Nat) : Nat := plc (early lo hi p) n p
def pHi (lo hi : Nat → Int) (n p : Nat) : Nat := plc (late lo hi p) n p
theorem plc_mono {T U : Nat → Int} {n p : Nat} (h : ∀ q, q < n → Bf T q p → Bf U q p) : plc T n p ≤ plc U n p := by
  unfold plc
  refine List.countP_mono_left fun q hq h1 => ?_
  simp only [decide_eq_true_eq] at h1 ⊢
  exact h q (List.mem_range.1 hq) h1
theorem plc_congr {T U : Nat → Int} {n p : Nat} (hp : p < n) (h : ∀ q, q < n → T q = U q) : plc T n p = plc U n p :=
  Nat.le_antisymm (plc_mono fun q hq hb => by unfold Bf at *; rw [← h q hq, ← h p hp]; exact hb) (plc_mono fun q hq hb => by unfold Bf at *; rw [h q hq, h p hp]; exact hb)
theorem early_truth {lo hi : Nat → Int} {n : Nat} (h : ∀ p, p < n → lo p ≤ hi p) (p : Nat) : Truth lo hi n (early lo hi p) := by
  intro q hq
  have := h q hq
  unfold early
  split
  · rename_i e; subst e; omega
  · omega
theorem late_truth {lo hi : Nat → Int} {n : Nat} (h : ∀ p, p < n → lo p ≤ hi p) (p : Nat) : Truth lo hi n (late lo hi p) := by
  intro q hq
  have := h q hq
  unfold late
  split
  · rename_i e; subst e; omega
  · omega
theorem pLo_le {lo hi T : Nat → Int} {n p : Nat} (hp : p < n) (h : Truth lo hi n T) : pLo lo hi n p ≤ plc T n p := by
  refine plc_mono fun q hq hb => ?_
  unfold Bf early at hb
  have h1 := h q hq
  have h2 := h p hp
  unfold Bf
  by_cases e : q = p
  · subst e; simp at hb
  · simp only [if_neg e, if_pos] at hb; omega
theorem le_pHi {lo hi T : Nat → Int} {n p : Nat} (hp : p < n) (h : Truth lo hi n T) : plc T n p ≤ pHi lo hi n p := by
  refine plc_mono fun q hq hb => ?_
  have h1 := h q hq
  have h2 := h p hp
  unfold Bf late
  unfold Bf at hb
  by_cases e : q = p
  · subst e; simp at hb
  · simp only [if_neg e, if_pos]; omega
theorem plc_lt_n (T : Nat → Int) {n p : Nat} (hp : p < n) : plc T n p < n := (get_plc T n p hp).2

/-- So many pairs have a place below a number. -/
theorem count_below (T : Nat → Int) (n F : Nat) (hF : F ≤ n) : (List.range n).countP (fun p => decide (plc T n p < F)) = F := by
  rw [← (ordT_perm T n).countP_eq]
  have hlen := ordT_len T n
  have hs : ordT T n = (ordT T n).take F ++ (ordT T n).drop F := (List.take_append_drop F _).symm
  have hplc : ∀ i (hi : i < (ordT T n).length), plc T n ((ordT T n)[i]) = i := fun i hi => by
    obtain ⟨q, _, h2, h3⟩ := plc_get T n i (by omega)
    rw [List.getElem?_eq_getElem hi] at h2
    cases h2
    exact h3
  rw [hs, List.countP_append]
  have e1 : ((ordT T n).take F).countP (fun p => decide (plc T n p < F)) = F := by
    have : ((ordT T n).take F).countP (fun p => decide (plc T n p < F)) = ((ordT T n).take F).length := by
      rw [List.countP_eq_length]
      intro q hq
      obtain ⟨i, hi, rfl⟩ := List.getElem_of_mem hq
      rw [List.length_take] at hi
      rw [List.getElem_take, hplc i (by omega)]
      simp; omega
    rw [this, List.length_take]
    omega
  have e2 : ((ordT T n).drop F).countP (fun p => decide (plc T n p < F)) = 0 := by
    rw [List.countP_eq_zero]
    intro q hq
    obtain ⟨i, hi, rfl⟩ := List.getElem_of_mem hq
    rw [List.getElem_drop, hplc (F + i) (by rw [List.length_drop] at hi; omega)]
    simp
  omega

def sortZ (l : List Int) : List Int := l.mergeSort fun x y => decide (x ≤ y)
theorem sortZ_perm (l : List Int) : (sortZ l).Perm l := List.mergeSort_perm _ _
theorem sortZ_sorted (l : List Int) : (sortZ l).Pairwise (· ≤ ·) := by
  have h := List.pairwise_mergeSort (le := fun x y : Int => decide (x ≤ y)) (fun a b c h1 h2 => by simp at *; omega) (fun a b => by simp; omega) l
  exact h.imp fun h => by simpa using h
/-- The number at a place, in order. -/
def kth (l : List Int) (k : Nat) : Int := (sortZ l).getD k 0
theorem kth_le {l : List Int} {k : Nat} (hk : k < l.length) (x : Int) : kth l k ≤ x ↔ k < l.countP (fun y => decide (y ≤ x)) := by
  have hlen : (sortZ l).length = l.length := (sortZ_perm l).length_eq
  have hk' : k < (sortZ l).length := by omega
  rw [← (sortZ_perm l).countP_eq]
  have hs : sortZ l = (sortZ l).take k ++ (sortZ l)[k] :: (sortZ l).drop (k + 1) := by
    rw [← List.drop_eq_getElem_cons hk', List.take_append_drop]
  have hg : kth l k = (sortZ l)[k] := by unfold kth; rw [List.getD_eq_getElem?_getD, List.getElem?_eq_getElem hk']; rfl
  have hp := sortZ_sorted l
  rw [hg]
  generalize hv : (sortZ l)[k] = v at *
  rw [hs] at hp ⊢
  obtain ⟨h1, h2, h3⟩ := List.pairwise_append.1 hp
  obtain ⟨h4, _⟩ := List.pairwise_cons.1 h2
  have ht : ((sortZ l).take k).length = k := by rw [List.length_take]; omega
  rw [List.countP_append, List.countP_cons]
  constructor
  · intro hx
    have e1 : ((sortZ l).take k).countP (fun y => decide (y ≤ x)) = ((sortZ l).take k).length := by
      rw [List.countP_eq_length]
      intro y hy
      have := h3 y hy v (by simp)
      simp; omega
    rw [e1, ht]
    simp [hx]

  · intro hc
    by_cases hx : v ≤ x
    · exact hx
    · exfalso
      have e2 : ((sortZ l).drop (k + 1)).countP (fun y => decide (y ≤ x)) = 0 := by
        rw [List.countP_eq_zero]
        intro y hy
        have := h4 y hy
        simp; omega
      have e1 := List.countP_le_length (p := fun y : Int => decide (y ≤ x)) (l := (sortZ l).take k)
      rw [e2] at hc
      simp [hx] at hc
      omega
theorem kth_lt {l : List Int} {k : Nat} (hk : k < l.length) (x : Int) : kth l k < x ↔ k < l.countP (fun y => decide (y < x)) := by
  have h := kth_le hk (x - 1)
  have e : (fun y : Int => decide (y ≤ x - 1)) = fun y => decide (y < x) := by
    funext y; congr 1; exact propext ⟨fun h => by omega, fun h => by omega⟩
  rw [e] at h
  rw [← h]
  omega
theorem kth_mono {f g : Nat → Int} {n k : Nat} (hk : k < n) (h : ∀ i, i < n → f i ≤ g i) : kth ((List.range n).map f) k ≤ kth ((List.range n).map g) k := by
  rw [kth_le (by simpa using hk), List.countP_map]
  have h1 := (kth_le (l := (List.range n).map g) (k := k) (by simpa using hk) _).1 (Int.le_refl _)
  rw [List.countP_map] at h1
  refine Nat.lt_of_lt_of_le h1 (List.countP_mono_left fun i hi h2 => ?_)
  simp only [Function.comp, decide_eq_true_eq] at h2 ⊢
  have := h i (List.mem_range.1 hi)
  omega
/-- The time of the pair at a place is the time at this place, in order. -/
theorem kth_plc (T : Nat → Int) (n p : Nat) (hp : p < n) : kth ((List.range n).map T) (plc T n p) = T p := by
  have hk : plc T n p < ((List.range n).map T).length := by simpa using plc_lt_n T hp
  have h1 := kth_le hk (T p)
  have h2 := kth_lt hk (T p)
  rw [List.countP_map] at h1 h2
  have a1 : kth ((List.range n).map T) (plc T n p) ≤ T p := by
    rw [h1]
    obtain ⟨A, B, hs⟩ := List.append_of_mem (List.mem_range.2 hp)
    unfold plc
    rw [hs, List.countP_append, List.countP_append, List.countP_cons, List.countP_cons]
    have hm : ∀ l : List Nat, l.countP (fun q => decide (Bf T q p)) ≤ l.countP ((fun y => decide (y ≤ T p)) ∘ T) := fun l => List.countP_mono_left fun q _ hq => by
      simp only [decide_eq_true_eq, Function.comp] at hq ⊢
      unfold Bf at hq
      omega
    have := hm A
    have := hm B
    simp [Bf.irrefl]
    omega
  have a2 : ¬ kth ((List.range n).map T) (plc T n p) < T p := by
    rw [h2]
    have : (List.range n).countP ((fun y => decide (y < T p)) ∘ T) ≤ plc T n p := List.countP_mono_left fun q _ hq => by
      simp only [decide_eq_true_eq, Function.comp] at hq ⊢
      unfold Bf
      omega
    omega
  omega
end Go.Proofs.Ytihfmphaajdhnaa.Th
