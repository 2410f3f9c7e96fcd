import Derived.Test.YtihfmphaajdhnaaAl
import Derived.Test.YtihfmphaajdhnaaTl
import Derived.Test.YtihfmphaajdhnaaLv
import Derived.Test.YtihfmphaajdhnaaP1
/-! The law ChaseFinal: its walk. -/
namespace Go.Proofs.Ytihfmphaajdhnaa.P
open Go.RowKit Go.Proofs.YtihfmphaajdhnaaW.PrintWords Go.Proofs.YtihfmphaajdhnaaW.PrintLast Go.Proofs.YtihfmphaajdhnaaW.PrintMore Go.Proofs.Ytihfmphaajdhnaa.Th
set_option linter.unusedVariables false
set_option linter.unusedSimpArgs false
attribute [local go_sem high] eqA23

theorem able_of {e f : Int} {ps : List (List Int)} (hv : vld e f ps = true) (hb : bad (clks e ps) = false) : Able (clks e ps) := by
  obtain ⟨h1, h6, _⟩ := vld_len hv
  have hl := clks_len e ps
  refine ⟨clks_numbered _ _, by omega, fun p hp => (clks_bd hv (by omega)).1, fun p hp => ?_⟩
  unfold bad at hb
  rw [List.any_eq_false] at hb
  have := hb (cl (clks e ps) p) (by unfold cl; rw [List.getD_eq_getElem?_getD, List.getElem?_eq_getElem hp]; exact List.getElem_mem hp)
  simp only [decide_eq_true_eq, Int.not_lt] at this
  exact this
/-- Two lists of the law's own: spans and finals. -/
structure TF (w7 W : World) (vT : Value) (L : List S23) (vF : Value) (H : List Int) : Prop where
  below : Below w7.heap.size w7 W
  rt : Kd.R k23 23 W w7.heap.size (fun _ => True) vT L
  rf : Kd.R (Kd.int .i64) 3 W w7.heap.size (fun _ => True) vF H
  ap : ∀ b, vT.ownBlock = some b → vF.ownBlock ≠ some b
section
variable {w7 W W' : World} {vT vF v1 : Value} {L : List S23} {H : List Int}
theorem TF.move (h : TF w7 W vT L vF H) (hb : Below W.heap.size W W') : TF w7 W' vT L vF H :=
  ⟨h.below.trans (hb.mono h.below.size), Kd.R_below h.rt hb, Kd.R_below h.rf hb, h.ap⟩
theorem TF.ltT (h : TF w7 W vT L vF H) : ∀ b, vT.ownBlock = some b → b < W.heap.size := by
  intro b hb
  obtain ⟨inner, ho⟩ := Kd.R_own h.rt
  exact own_lt ho b hb
theorem TF.ltF (h : TF w7 W vT L vF H) : ∀ b, vF.ownBlock = some b → b < W.heap.size := R_lt h.rf
theorem TF.geT (h : TF w7 W vT L vF H) : ∀ b, vT.ownBlock = some b → w7.heap.size ≤ b := by
  intro b hb
  obtain ⟨inner, ho⟩ := Kd.R_own h.rt
  exact own_base ho b hb
theorem TF.geF (h : TF w7 W vT L vF H) : ∀ b, vF.ownBlock = some b → w7.heap.size ≤ b := by
  intro b hb
  obtain ⟨inner, ho⟩ := Kd.R_own h.rf
  exact own_base ho b hb
theorem TF.snocT {x : S23} (h : TF w7 W vT L vF H) (hr : Kd.R k23 23 W' w7.heap.size (fun _ => True) v1 (L ++ [x])) (hb : Below w7.heap.size w7 W') (hg : W.grownBy W' vT.ownBlock)
    (ha : v1.ownBlock = vT.ownBlock ∨ ∃ b, v1.ownBlock = some b ∧ W.heap.size ≤ b) : TF w7 W' v1 (L ++ [x]) vF H :=
  ⟨hb, hr, Kd.R_grown2 h.rf rfl hg (fun k hk e => h.ap k hk e.symm), (by
    intro b hb1 hb2
    rcases ha with ha | ⟨b', ha, hle⟩
    · exact h.ap b (ha ▸ hb1) hb2
    · rw [ha] at hb1
      injection hb1 with hb1
      have := h.ltF b hb2
      omega)⟩
theorem TF.snocF {x : Int} (h : TF w7 W vT L vF H) (hr : Kd.R (Kd.int .i64) 3 W' w7.heap.size (fun _ => True) v1 (H ++ [x])) (hb : Below w7.heap.size w7 W') (hg : W.grownBy W' vF.ownBlock)
    (ha : v1.ownBlock = vF.ownBlock ∨ ∃ b, v1.ownBlock = some b ∧ W.heap.size ≤ b) : TF w7 W' vT L v1 (H ++ [x]) :=
  ⟨hb, Kd.R_grown2 h.rt rfl hg (fun k hk e => h.ap k e.symm hk), hr, (by
    intro b hb1 hb2
    rcases ha with ha | ⟨b', ha, hle⟩
    · exact h.ap b hb1 (ha ▸ hb2)
    · rw [ha] at hb2
      injection hb2 with hb2
      have := h.ltT b hb1
      omega)⟩
end
theorem info_span : (Try.prog.info? 23).map (fun i => (i.zero, i.size, i.bytes)) = some (some (.agg #[.int .i64 0, .int .i64 0]), 2, 16) := by kernel_rfl
def finV (f : Int) (cs : List S65) (p : Nat) : Int := asked cs (comesF f p)
def spanV (cs : List S65) (p : Nat) : S23 := ⟨loF cs p, hiF cs p⟩
def cntV (f : Int) (cs : List S65) (z : Int) (k : Nat) : Nat := (List.range k).countP fun p => decide (finV f cs p = z)
theorem cntV_succ (f : Int) (cs : List S65) (z : Int) (k : Nat) : cntV f cs z (k + 1) = cntV f cs z k + if finV f cs k = z then 1 else 0 := by
  unfold cntV
  rw [List.range_succ, List.countP_append, List.countP_cons]
  simp
theorem cntV_le (f : Int) (cs : List S65) (z : Int) (k : Nat) : cntV f cs z k ≤ k := by
  unfold cntV
  exact Nat.le_trans List.countP_le_length (by simp)
theorem cnt_range {n : Nat} (P Q : Nat → Bool) (h : ∀ p, p < n → P p = true → Q p = true) : (List.range n).countP P ≤ (List.range n).countP Q :=
  List.countP_mono_left fun p hp hP => h p (List.mem_range.1 hp) hP
theorem sure_le {f : Int} {cs : List S65} (h : Able cs) (hf0 : 0 ≤ f) (hf : f ≤ cs.length) : (cntV f cs 2 cs.length : Int) ≤ f := by
  obtain ⟨F, rfl⟩ := Int.eq_ofNat_of_zero_le hf0
  have h1 := cnt_range (n := cs.length) (fun p => decide (finV F cs p = 2)) (fun p => decide (plc (loF cs) cs.length p < F)) (fun p hp hP => by
    simp only [decide_eq_true_eq] at hP ⊢
    have := (comes_two h F hp).1 hP
    have := le_pHi hp h.truth
    omega)
  rw [count_below _ _ F (by omega)] at h1
  unfold cntV
  omega
theorem not_le {f : Int} {cs : List S65} (h : Able cs) (hf0 : 0 ≤ f) (hf : f ≤ cs.length) : (cntV f cs 0 cs.length : Int) ≤ cs.length - f := by
  obtain ⟨F, rfl⟩ := Int.eq_ofNat_of_zero_le hf0
  have h1 := cnt_range (n := cs.length) (fun p => decide (finV F cs p = 0)) (fun p => !decide (plc (loF cs) cs.length p < F)) (fun p hp hP => by
    simp only [decide_eq_true_eq, Bool.not_eq_true', decide_eq_false_iff_not] at hP ⊢
    have := (comes_zero h F hp).1 hP
    have := pLo_le hp h.truth
    omega)
  have h2 := List.length_eq_countP_add_countP (l := List.range cs.length) (fun p => decide (plc (loF cs) cs.length p < F))
  rw [count_below _ _ F (by omega), List.length_range] at h2
  simp only [Bool.not_eq_true, Bool.decide_eq_false] at h2
  unfold cntV
  omega
theorem finV_range (f : Int) (cs : List S65) (p : Nat) : 0 ≤ finV f cs p ∧ finV f cs p ≤ 2 := asked_range _ _
/-- Who is surely not slower does not come into the final less surely. -/
theorem fin_mono {f : Int} {cs : List S65} (h : Able cs) {p q : Nat} (hp : p < cs.length) (hq : q < cs.length) (hb : p < q ∧ hiF cs p ≤ loF cs q ∨ q < p ∧ hiF cs p < loF cs q) : finV f cs q ≤ finV f cs p := by
  have hne : p ≠ q := by omega
  have hbf : ∀ T, Truth (loF cs) (hiF cs) cs.length T → plc T cs.length p < plc T cs.length q := fun T hT => plc_lt hp (by
    have h1 := hT p hp
    have h2 := hT q hq
    unfold Bf
    omega)
  have r1 := finV_range f cs p
  have r2 := finV_range f cs q
  by_cases c2 : finV f cs q = 2
  · have h1 := (comes_two h f hq).1 c2
    have h2 := hbf _ (late_truth h.le p)
    have h3 := le_pHi hq (late_truth h.le p)
    have h4 : finV f cs p = 2 := (comes_two h f hp).2 (by unfold pHi at *; omega)
    omega
  · by_cases c0 : finV f cs p = 0
    · have h1 := (comes_zero h f hp).1 c0
      have h2 := hbf _ (early_truth h.le q)
      have h3 := pLo_le hp (early_truth h.le q)
      have h4 : finV f cs q = 0 := (comes_zero h f hq).2 (by unfold pLo at *; omega)
      omega
    · omega
theorem los_range (cs : List S65) : losOf cs = (List.range cs.length).map (loF cs) := by
  refine List.ext_getElem (by simp [losOf]) fun i h1 h2 => ?_
  have hi : i < cs.length := by simpa [losOf] using h1
  simp [losOf, loF, cl, List.getD_eq_getElem?_getD, List.getElem?_eq_getElem hi]
theorem his_range (cs : List S65) : hisOf cs = (List.range cs.length).map (hiF cs) := by
  refine List.ext_getElem (by simp [hisOf]) fun i h1 h2 => ?_
  have hi : i < cs.length := by simpa [hisOf] using h1
  simp [hisOf, hiF, cl, List.getD_eq_getElem?_getD, List.getElem?_eq_getElem hi]
def cutAt (g : Nat → Int) (n : Nat) (f : Int) : Int := kth ((List.range n).map g) (f - 1).toNat
theorem cut_los (cs : List S65) (f : Int) : (sortI (losOf cs)).getD (f - 1).toNat 0 = cutAt (loF cs) cs.length f := by rw [los_range]; rfl
theorem cut_his (cs : List S65) (f : Int) : (sortI (hisOf cs)).getD (f - 1).toNat 0 = cutAt (hiF cs) cs.length f := by rw [his_range]; rfl
def cntLe (g : Nat → Int) (x : Int) (k : Nat) : Nat := (List.range k).countP fun p => decide (g p ≤ x)
def cntLt (g : Nat → Int) (x : Int) (k : Nat) : Nat := (List.range k).countP fun p => decide (g p < x)
theorem cntLe_succ (g : Nat → Int) (x : Int) (k : Nat) : cntLe g x (k + 1) = cntLe g x k + if g k ≤ x then 1 else 0 := by
  unfold cntLe
  rw [List.range_succ, List.countP_append, List.countP_cons]
  simp
theorem cntLt_succ (g : Nat → Int) (x : Int) (k : Nat) : cntLt g x (k + 1) = cntLt g x k + if g k < x then 1 else 0 := by
  unfold cntLt
  rw [List.range_succ, List.countP_append, List.countP_cons]
  simp
theorem cntLe_le (g : Nat → Int) (x : Int) (k : Nat) : cntLe g x k ≤ k := Nat.le_trans List.countP_le_length (by simp)
theorem cntLt_le (g : Nat → Int) (x : Int) (k : Nat) : cntLt g x k ≤ k := Nat.le_trans List.countP_le_length (by simp)
theorem cut_le (g : Nat → Int) {n : Nat} {f : Int} (h1 : 1 ≤ f) (h2 : f ≤ n) : f ≤ (cntLe g (cutAt g n f) n : Int) := by
  have h := (kth_le (l := (List.range n).map g) (k := (f - 1).toNat) (by simp; omega) (cutAt g n f)).1 (Int.le_refl _)
  rw [List.countP_map] at h
  have : (List.range n).countP ((fun y => decide (y ≤ cutAt g n f)) ∘ g) = cntLe g (cutAt g n f) n := rfl
  omega
theorem cut_lt (g : Nat → Int) {n : Nat} {f : Int} (h1 : 1 ≤ f) (h2 : f ≤ n) : (cntLt g (cutAt g n f) n : Int) < f := by
  have h := kth_lt (l := (List.range n).map g) (k := (f - 1).toNat) (by simp; omega) (cutAt g n f)
  rw [List.countP_map] at h
  have h3 : ¬ (kth ((List.range n).map g) (f - 1).toNat < cutAt g n f) := fun h => Int.lt_irrefl _ h
  rw [h] at h3
  have : (List.range n).countP ((fun y => decide (y < cutAt g n f)) ∘ g) = cntLt g (cutAt g n f) n := rfl
  omega
theorem below_drewN {b n : Nat} {A B : World} (h : Below b A B) : Below b A (B.drewN n) := ⟨h.os, h.tape, h.output, h.size, h.block⟩
theorem span_at {w : World} {A : Option Addr} {cs : List S65} {n : Nat} (h : Kd.C k23 w A n ((List.range n).map (spanV cs))) (k : Nat) (hk : k < n) :
    ∃ ad, A = some ad ∧ w.cell? (ad.add (k * 2)) = some (.int .i64 (loF cs k)) ∧ w.cell? ⟨(ad.add (k * 2)).block, (ad.add (k * 2)).off + 1, none⟩ = some (.int .i64 (hiF cs k)) := by
  obtain ⟨ad, h1, h2, h3⟩ := at_T23 h (k : Int) (by omega) (by omega)
  have hr : rd_T23 ((List.range n).map (spanV cs)) (k : Int) = spanV cs k := by
    unfold rd_T23
    rw [Int.toNat_natCast, List.getD_eq_getElem?_getD, List.getElem?_map, List.getElem?_range hk]
    rfl
  rw [hr] at h2 h3
  exact ⟨ad, h1, h2, h3⟩
theorem fin_at {w : World} {A : Option Addr} {cs : List S65} {f : Int} {n : Nat} (h : Kd.C (Kd.int .i64) w A n ((List.range n).map (finV f cs))) (k : Nat) (hk : k < n) :
    ∃ ad, A = some ad ∧ w.cell? (ad.add k) = some (.int .i64 (finV f cs k)) := by
  obtain ⟨ad, h1, h2⟩ := int_at h k hk
  rw [List.getD_eq_getElem?_getD, List.getElem?_map, List.getElem?_range hk] at h2
  exact ⟨ad, h1, h2⟩
/-- The second loop: what it has counted. -/
def GRel (cs : List S65) (x y : Int) (w7 : World) (i a b c d : Value) (wr : World) : Prop :=
  ∃ k : Nat, i = .int .i64 k ∧ k ≤ cs.length ∧ a = .int .i64 (cntLe (loF cs) x k) ∧ b = .int .i64 (cntLe (hiF cs) y k) ∧ c = .int .i64 (cntLt (loF cs) x k) ∧ d = .int .i64 (cntLt (hiF cs) y k) ∧ Hid (Below w7.heap.size w7 wr)
/-- The first loop: what it has counted and listed. -/
def FRel (f : Int) (cs : List S65) (w7 : World) (i s nt vT vF : Value) (wr : World) : Prop :=
  ∃ k : Nat, i = .int .i64 k ∧ k ≤ cs.length ∧ s = .int .i64 (cntV f cs 2 k) ∧ nt = .int .i64 (cntV f cs 0 k) ∧ Hid (TF w7 wr vT ((List.range k).map (spanV cs)) vF ((List.range k).map (finV f cs)))

set_option maxHeartbeats 4000000 in
set_option maxRecDepth 100000 in
theorem ChaseFinal_any (e f : Int) (A : Option Addr) (c : Nat) (ps : List (List Int)) (w : World) (hC : Kd.C (Kd.slice 3 (Kd.int .i64)) w A ps.length ps) (hc : ps.length ≤ c) :
    Calls Try.prog 7 #[.agg #[.int .i64 e, .int .i64 f, .slice A ps.length c]] w fun en w' => en = .returned (.bool true) ∧ Below w.heap.size w w' := by
  obtain ⟨kl, bl, hlong⟩ := long_ex e f ps (C_len hC).2
  obtain ⟨kc, hchase⟩ := chase_ex e f ps
  have HC := Lib.hid hC
  have HL := Lib.hid hlong
  have HCH := Lib.hid hchase
  clear hC hlong hchase
  go_enter Try.func7, Try.ntmps7
  go_wp2_with fail
  obtain ⟨w1, hw1, k1, hb1⟩ : ∃ w1, w1 = w.alloc (.cells #[.int .i64 e, .int .i64 f, .slice A ps.length c] 32) ∧ w1.heap[w.heap.size]? = some (.cells #[.int .i64 e, .int .i64 f, .slice A ps.length c] 32 (0, 0)) ∧ Below w.heap.size w w1 := ⟨_, rfl, blk_new _ _, (Below.refl _ _).alloc (Nat.le_refl _) _⟩
  rw [← hw1]
  have K1 := Lib.hid k1
  have HB1 := Lib.hid hb1
  clear k1 hb1 hw1
  refine (lapworkslaw07_long.calls kl e f A c ps bl w1 (Kd.C_below HC.out HB1.out) hc HL.out).mono ?_
  rintro en w2 ⟨rfl, hb2⟩
  have HB2 := Lib.hid (HB1.out.trans (hb2.mono HB1.out.size))
  have K2 := Lib.hid (blk_below K1.out hb2)
  clear hb2
  cases bl
  rotate_left
  · go_wp2_with fail
    refine (lapworkslaw07_alive.calls true _ rfl).mono ?_
    rintro en w3 ⟨rfl, hb3⟩
    go_wp2
    go_ret
    exact ⟨rfl, HB2.out.trans (hb3.mono HB2.out.size)⟩
  have q0 := blk_nth K2.out 0 rfl
  have q1 := blk_nth K2.out 1 rfl
  have q2 := blk_nth K2.out 2 rfl
  go_wp2_with fail
  clear q0 q1 q2
  refine (lapworksref07_Chase.calls kc e f A c ps _ w2 (Kd.C_below HC.out HB2.out) hc HCH.out).mono ?_
  rintro en w3 ⟨rfl, hb3⟩
  have HB3 := Lib.hid (HB2.out.trans (hb3.mono HB2.out.size))
  have K3 := Lib.hid (blk_below K2.out hb3)
  clear hb3
  cases hv : vld e f ps
  · clear hv
    go_wp2_with fail
    refine (lapworkslaw07_alive.calls true _ rfl).mono ?_
    rintro en w4 ⟨rfl, hb4⟩
    go_wp2
    go_ret
    exact ⟨rfl, HB3.out.trans (hb4.mono HB3.out.size)⟩
  have HV := Lib.hid hv
  clear hv
  obtain ⟨hn1, hn6, hf1, hfn⟩ := vld_len HV.out
  have q0 := blk_nth K3.out 0 rfl
  have q1 := blk_nth K3.out 1 rfl
  have q2 := blk_nth K3.out 2 rfl
  go_wp2_with fail
  clear q0 q1 q2
  cases hbad : bad (clks e ps)
  rotate_left
  · have hcut : chase_Cut.f e f ps = some (0, 0, 10) := by simp [chase_Cut.f, errOf, HV.out, hbad]
    refine (chase_Cut.calls e f A c ps 0 0 10 w3 (Kd.C_below HC.out HB3.out) hc hcut).mono ?_
    rintro en w4 ⟨rfl, hb4⟩
    have HB4 := Lib.hid (HB3.out.trans (hb4.mono HB3.out.size))
    clear hb4 hcut hbad
    go_wp2_with fail
    refine (lapworkslaw07_alive.calls true _ rfl).mono ?_
    rintro en w5 ⟨rfl, hb5⟩
    go_wp2
    go_ret
    exact ⟨rfl, HB4.out.trans ((((Below.refl _ _).alloc (Nat.le_refl _) _).trans (hb5.mono (by simp))).mono HB4.out.size)⟩
  have HA := Lib.hid (able_of HV.out hbad)
  have herr : ∀ b : Bool, b = true → errOf e f ps b = 0 := fun b hb => by simp [errOf, HV.out, hbad, hb]
  have HE := Lib.hid herr
  have hlen := clks_len e ps
  obtain ⟨cs, hcs⟩ : ∃ cs, cs = clks e ps := ⟨_, rfl⟩
  obtain ⟨cl0, hcl0⟩ : ∃ x, x = (sortI (losOf cs)).getD (f - 1).toNat 0 := ⟨_, rfl⟩
  obtain ⟨ch0, hch0⟩ : ∃ x, x = (sortI (hisOf cs)).getD (f - 1).toNat 0 := ⟨_, rfl⟩
  have hcut : chase_Cut.f e f ps = some (cl0, ch0, 0) := by simp [chase_Cut.f, errOf, HV.out, hbad, hcl0, hch0, hcs]
  refine (chase_Cut.calls e f A c ps cl0 ch0 0 w3 (Kd.C_below HC.out HB3.out) hc hcut).mono ?_
  rintro en w4 ⟨rfl, hb4⟩
  rw [← hcs] at hlen HA
  have HB4 := Lib.hid (HB3.out.trans (hb4.mono HB3.out.size))
  have K4 := Lib.hid (blk_below K3.out hb4)
  have HCS := Lib.hid hcs
  have HCL := Lib.hid hcl0
  have HCHI := Lib.hid hch0
  clear hb4 hcut hbad herr hcs hcl0 hch0
  have q2 := fun o => cell_alloc (blk_nth K4.out 2 rfl) o
  go_wp2_with fail
  clear q2
  obtain ⟨w5, hw5, k5, hb5⟩ : ∃ w5, w5 = w4.alloc (.cells #[.int .i64 cl0, .int .i64 ch0] 23) ∧ w5.heap[w4.heap.size]? = some (.cells #[.int .i64 cl0, .int .i64 ch0] 23 (0, 0)) ∧ Below w4.heap.size w4 w5 := ⟨_, rfl, blk_new _ _, (Below.refl _ _).alloc (Nat.le_refl _) _⟩
  rw [← hw5]
  have hn5 : w4.heap.size < w5.heap.size := blk_lt k5
  have KC5 := Lib.hid k5
  have K5 := Lib.hid (blk_below K4.out hb5)
  have HB5 := Lib.hid (HB4.out.trans (hb5.mono HB4.out.size))
  clear k5 hb5 hw5
  go_loopw [50, 5, 6, 7, 8] (fun i s nt vT vF wr => FRel f cs w5 i s nt vT vF wr) (fun i _ _ _ _ _ => cs.length - (intOf i).toNat)
  case atStart => exact ⟨0, rfl, Nat.zero_le _, rfl, rfl, ⟨Below.refl _ _, Kd.R_nil _ _ _ _ _, Kd.R_nil _ _ _ _ _, fun b hb => by simp [Value.ownBlock] at hb⟩⟩
  case round =>
    obtain ⟨k, rfl, hk, rfl, rfl, HTF⟩ := hrel
    have c2 := cntV_le f cs 2 k
    have c0 := cntV_le f cs 0 k
    have s2 := cntV_succ f cs 2 k
    have s0 := cntV_succ f cs 0 k
    obtain ⟨n2, hn2⟩ : ∃ x, x = cntV f cs 2 k := ⟨_, rfl⟩
    obtain ⟨n0, hn0⟩ : ∃ x, x = cntV f cs 0 k := ⟨_, rfl⟩
    rw [← hn2] at c2 s2 ⊢
    rw [← hn0] at c0 s0 ⊢
    have HS2 := Lib.hid s2
    have HS0 := Lib.hid s0
    have HN2 := Lib.hid hn2
    have HN0 := Lib.hid hn0
    clear s2 s0 hn2 hn0
    have KR := Lib.hid (blk_below K5.out HTF.out.below)
    have KCR := Lib.hid (blk_below KC5.out HTF.out.below)
    by_cases hkl : k < cs.length
    · have q0 := blk_nth KR.out 0 rfl
      have q1 := blk_nth KR.out 1 rfl
      have q2 := blk_nth KR.out 2 rfl
      have hip : isP ps (k : Int) = true := by unfold isP; simp; omega
      have hct : chase_Time.f e f ps (k : Int) = some (loF cs k, hiF cs k, 0) := by
        unfold chase_Time.f
        rw [if_pos (HE.out _ hip), ← HCS.out]
        rfl
      have hcf : chase_Final.f e f ps (k : Int) = some (finV f cs k, 0) := by
        unfold chase_Final.f
        rw [if_pos (HE.out _ hip), ← HCS.out]
        rfl
      have HCF := Lib.hid hcf
      have hr := finV_range f cs k
      obtain ⟨fv, hfv⟩ : ∃ x, x = finV f cs k := ⟨_, rfl⟩
      obtain ⟨lo, hlo⟩ : ∃ x, x = loF cs k := ⟨_, rfl⟩
      obtain ⟨hi, hhi⟩ : ∃ x, x = hiF cs k := ⟨_, rfl⟩
      rw [← hlo, ← hhi] at hct
      rw [← hfv] at hr HCF HS2 HS0
      have HLO := Lib.hid hlo
      have HHI := Lib.hid hhi
      have HFV := Lib.hid hfv
      have HCT := Lib.hid hct
      clear hip hct hcf hfv hlo hhi
      go_wp2_with fail
      clear q0 q1 q2
      refine (chase_Time.calls e f A c ps k lo hi 0 wr (Kd.C_below HC.out (HB5.out.trans (HTF.out.below.mono HB5.out.size))) hc HCT.out).mono ?_
      rintro en w6 ⟨rfl, hb6⟩
      have HT6 := Lib.hid (HTF.out.move hb6)
      have K6 := Lib.hid (blk_below KR.out hb6)
      clear hb6
      have q0 := fun o => cell_alloc (blk_nth K6.out 0 rfl) o
      have q1 := fun o => cell_alloc (blk_nth K6.out 1 rfl) o
      have q2 := fun o => cell_alloc (blk_nth K6.out 2 rfl) o
      go_wp2_with fail
      clear q0 q1 q2
      obtain ⟨w7, hw7, k7, hb7⟩ : ∃ w7, w7 = w6.alloc (.cells #[.int .i64 lo, .int .i64 hi] 23) ∧ w7.heap[w6.heap.size]? = some (.cells #[.int .i64 lo, .int .i64 hi] 23 (0, 0)) ∧ Below w6.heap.size w6 w7 := ⟨_, rfl, blk_new _ _, (Below.refl _ _).alloc (Nat.le_refl _) _⟩
      rw [← hw7]
      have HT7 := Lib.hid (HT6.out.move hb7)
      have K7 := Lib.hid k7
      clear hb7 k7 hw7
      refine (chase_Final.calls e f A c ps k fv 0 w7 (Kd.C_below HC.out (HB5.out.trans (HT7.out.below.mono HB5.out.size))) hc HCF.out).mono ?_
      rintro en w8 ⟨rfl, hb8⟩
      have HT8 := Lib.hid (HT7.out.move hb8)
      have K8 := Lib.hid (blk_below K7.out hb8)
      clear hb8
      have q0 := blk_nth K8.out 0 rfl
      have q1 := blk_nth K8.out 1 rfl
      have q0' := fun o => cell_alloc q0 o
      have q1' := fun o => cell_alloc q1 o
      have hcase : fv = 0 ∨ fv = 1 ∨ fv = 2 := by omega
      clear hr
      have hk16 : (((List.range k).map (spanV cs)).length + 1) * 16 ≤ 140737488355328 := by simp; omega
      have hk8 : (((List.range k).map (finV f cs)).length + 1) * 8 ≤ 140737488355328 := by simp; omega
      have HK16 := Lib.hid hk16
      have HK8 := Lib.hid hk8
      clear hk16 hk8
      rcases hcase with rfl | rfl | rfl
      · go_wp2_with (first
          | (at_builtin; refine Kd.R_append k23 (w0 := w5) w5.heap.size rfl (.tmp 88) (.tmp 90) 58 23 (.agg #[.int .i64 0, .int .i64 0]) 16 rfl Try.underlying58 info_span rfl (by decide) (by decide) u7 ((List.range k).map (spanV cs)) ⟨lo, hi⟩ [.int .i64 lo, .int .i64 hi] (fun _ => True) (fun _ => False) rfl rfl (k23_mkM _ _ _ _) (fun _ h => h.elim) (fun _ _ => trivial) HT8.out.rt HT8.out.below HT8.out.below.size HK16.out ?_; intro v9 w9 hr9 hb9 hg9 ha9; have HT9 := Lib.hid (HT8.out.snocT hr9 hb9 hg9 ha9); clear hr9 hb9 hg9 ha9 q0 q1 q0' q1')
          | (at_builtin; refine Kd.R_append (Kd.int .i64) (w0 := w5) w5.heap.size rfl (.tmp 92) (.tmp 94) 40 3 (.int .i64 0) 8 rfl Try.underlying40 info_int rfl (by decide) (by decide) u8 ((List.range k).map (finV f cs)) 0 [.int .i64 0] (fun _ => True) (fun _ => False) rfl rfl rfl (fun _ h => h.elim) (fun _ _ => trivial) HT9.out.rf HT9.out.below HT9.out.below.size HK8.out ?_; intro v10 w10 hr10 hb10 hg10 ha10; have HT10 := Lib.hid (HT9.out.snocF hr10 hb10 hg10 ha10); clear hr10 hb10 hg10 ha10))
        refine ⟨⟨k + 1, by go_num, by omega, ?_, ?_, ?_⟩, by simp [intOf]; omega⟩
        · rw [HS2.out]; first | rfl | go_num
        · rw [HS0.out]; first | rfl | go_num
        · rw [List.range_succ, List.map_append, List.map_append]
          have h1 : spanV cs k = ⟨lo, hi⟩ := by unfold spanV; rw [HLO.out, HHI.out]
          simp only [List.map_cons, List.map_nil]
          rw [h1, ← HFV.out]
          exact HT10
      · go_wp2_with (first
          | (at_builtin; refine Kd.R_append k23 (w0 := w5) w5.heap.size rfl (.tmp 88) (.tmp 90) 58 23 (.agg #[.int .i64 0, .int .i64 0]) 16 rfl Try.underlying58 info_span rfl (by decide) (by decide) u7 ((List.range k).map (spanV cs)) ⟨lo, hi⟩ [.int .i64 lo, .int .i64 hi] (fun _ => True) (fun _ => False) rfl rfl (k23_mkM _ _ _ _) (fun _ h => h.elim) (fun _ _ => trivial) HT8.out.rt HT8.out.below HT8.out.below.size HK16.out ?_; intro v9 w9 hr9 hb9 hg9 ha9; have HT9 := Lib.hid (HT8.out.snocT hr9 hb9 hg9 ha9); clear hr9 hb9 hg9 ha9 q0 q1 q0' q1')
          | (at_builtin; refine Kd.R_append (Kd.int .i64) (w0 := w5) w5.heap.size rfl (.tmp 92) (.tmp 94) 40 3 (.int .i64 0) 8 rfl Try.underlying40 info_int rfl (by decide) (by decide) u8 ((List.range k).map (finV f cs)) 1 [.int .i64 1] (fun _ => True) (fun _ => False) rfl rfl rfl (fun _ h => h.elim) (fun _ _ => trivial) HT9.out.rf HT9.out.below HT9.out.below.size HK8.out ?_; intro v10 w10 hr10 hb10 hg10 ha10; have HT10 := Lib.hid (HT9.out.snocF hr10 hb10 hg10 ha10); clear hr10 hb10 hg10 ha10))
        refine ⟨⟨k + 1, by go_num, by omega, ?_, ?_, ?_⟩, by simp [intOf]; omega⟩
        · rw [HS2.out]; first | rfl | go_num
        · rw [HS0.out]; first | rfl | go_num
        · rw [List.range_succ, List.map_append, List.map_append]
          have h1 : spanV cs k = ⟨lo, hi⟩ := by unfold spanV; rw [HLO.out, HHI.out]
          simp only [List.map_cons, List.map_nil]
          rw [h1, ← HFV.out]
          exact HT10
      · go_wp2_with (first
          | (at_builtin; refine Kd.R_append k23 (w0 := w5) w5.heap.size rfl (.tmp 88) (.tmp 90) 58 23 (.agg #[.int .i64 0, .int .i64 0]) 16 rfl Try.underlying58 info_span rfl (by decide) (by decide) u7 ((List.range k).map (spanV cs)) ⟨lo, hi⟩ [.int .i64 lo, .int .i64 hi] (fun _ => True) (fun _ => False) rfl rfl (k23_mkM _ _ _ _) (fun _ h => h.elim) (fun _ _ => trivial) HT8.out.rt HT8.out.below HT8.out.below.size HK16.out ?_; intro v9 w9 hr9 hb9 hg9 ha9; have HT9 := Lib.hid (HT8.out.snocT hr9 hb9 hg9 ha9); clear hr9 hb9 hg9 ha9 q0 q1 q0' q1')
          | (at_builtin; refine Kd.R_append (Kd.int .i64) (w0 := w5) w5.heap.size rfl (.tmp 92) (.tmp 94) 40 3 (.int .i64 0) 8 rfl Try.underlying40 info_int rfl (by decide) (by decide) u8 ((List.range k).map (finV f cs)) 2 [.int .i64 2] (fun _ => True) (fun _ => False) rfl rfl rfl (fun _ h => h.elim) (fun _ _ => trivial) HT9.out.rf HT9.out.below HT9.out.below.size HK8.out ?_; intro v10 w10 hr10 hb10 hg10 ha10; have HT10 := Lib.hid (HT9.out.snocF hr10 hb10 hg10 ha10); clear hr10 hb10 hg10 ha10))
        refine ⟨⟨k + 1, by go_num, by omega, ?_, ?_, ?_⟩, by simp [intOf]; omega⟩
        · rw [HS2.out]; first | rfl | go_num
        · rw [HS0.out]; first | rfl | go_num
        · rw [List.range_succ, List.map_append, List.map_append]
          have h1 : spanV cs k = ⟨lo, hi⟩ := by unfold spanV; rw [HLO.out, HHI.out]
          simp only [List.map_cons, List.map_nil]
          rw [h1, ← HFV.out]
          exact HT10
    · obtain rfl : k = cs.length := by omega
      have q1 := blk_nth KR.out 1 rfl
      have q2 := blk_nth KR.out 2 rfl
      have h2 := sure_le HA.out (f := f) (by omega) (by omega)
      have h0 := not_le HA.out (f := f) (by omega) (by omega)
      rw [← HN2.out] at h2
      rw [← HN0.out, hlen] at h0
      obtain ⟨A7, c7, rfl, hc7, hC7⟩ := Kd.R_reads HTF.out.rt
      obtain ⟨A8, c8, rfl, hc8, hC8⟩ := Kd.R_reads HTF.out.rf
      simp only [List.length_map, List.length_range] at hc7 hC7 hc8 hC8 ⊢
      have HC7 := Lib.hid hC7
      have HC8 := Lib.hid hC8
      have HBR := Lib.hid (HB5.out.trans (HTF.out.below.mono HB5.out.size))
      have HKC := Lib.hid KCR.out
      clear hC7 hC8 KCR
      obtain ⟨n, hnn⟩ : ∃ n, n = cs.length := ⟨_, rfl⟩
      go_wp2_with fail
      clear q1 q2 h2 h0
      obtain ⟨wo, rfl⟩ : ∃ wo : World, wo = wr := ⟨_, rfl⟩
      go_loopw [113, 14, 15, 16, 17] (fun i a b c d wr => GRel cs cl0 ch0 wo i a b c d wr) (fun i _ _ _ _ _ => cs.length - (intOf i).toNat)
      case atStart => exact ⟨0, rfl, Nat.zero_le _, rfl, rfl, rfl, rfl, Below.refl _ _⟩
      case round =>
        obtain ⟨k, rfl, hk2, rfl, rfl, rfl, rfl, HW2⟩ := hrel
        by_cases hk3 : k < cs.length
        · obtain ⟨ad7, had7, s0, s1⟩ := span_at (Kd.C_below HC7.out HW2.out) k hk3
          subst had7
          obtain ⟨lk, hlk⟩ : ∃ x, x = loF cs k := ⟨_, rfl⟩
          obtain ⟨hk', hhk⟩ : ∃ x, x = hiF cs k := ⟨_, rfl⟩
          rw [← hlk] at s0
          rw [← hhk] at s1
          have HLK := Lib.hid hlk
          have HHK := Lib.hid hhk
          have b1 := cntLe_le (loF cs) cl0 k
          have b2 := cntLe_le (hiF cs) ch0 k
          have b3 := cntLt_le (loF cs) cl0 k
          have b4 := cntLt_le (hiF cs) ch0 k
          have S1 := Lib.hid (cntLe_succ (loF cs) cl0 k)
          have S2 := Lib.hid (cntLe_succ (hiF cs) ch0 k)
          have S3 := Lib.hid (cntLt_succ (loF cs) cl0 k)
          have S4 := Lib.hid (cntLt_succ (hiF cs) ch0 k)
          rw [← hlk] at S1 S3
          rw [← hhk] at S2 S4
          obtain ⟨m1, hm1⟩ : ∃ x, x = cntLe (loF cs) cl0 k := ⟨_, rfl⟩
          obtain ⟨m2, hm2⟩ : ∃ x, x = cntLe (hiF cs) ch0 k := ⟨_, rfl⟩
          obtain ⟨m3, hm3⟩ : ∃ x, x = cntLt (loF cs) cl0 k := ⟨_, rfl⟩
          obtain ⟨m4, hm4⟩ : ∃ x, x = cntLt (hiF cs) ch0 k := ⟨_, rfl⟩
          rw [← hm1] at b1 S1 ⊢
          rw [← hm2] at b2 S2 ⊢
          rw [← hm3] at b3 S3 ⊢
          rw [← hm4] at b4 S4 ⊢
          clear hlk hhk hm1 hm2 hm3 hm4
          go_wp2_with fail
          clear s0 s1
          obtain ⟨wk, hwk, kk, hbk⟩ : ∃ wk, wk = wr.alloc (.cells #[.int .i64 lk, .int .i64 hk'] 23) ∧ wk.heap[wr.heap.size]? = some (.cells #[.int .i64 lk, .int .i64 hk'] 23 (0, 0)) ∧ Below wr.heap.size wr wk := ⟨_, rfl, blk_new _ _, (Below.refl _ _).alloc (Nat.le_refl _) _⟩
          rw [← hwk]
          have KK := Lib.hid kk
          have HBK := Lib.hid (HW2.out.trans (hbk.mono HW2.out.size))
          have hnk : wr.heap.size < wk.heap.size := blk_lt kk
          obtain ⟨bk, hbk2⟩ : ∃ b, b = wr.heap.size := ⟨_, rfl⟩
          rw [← hbk2] at hnk KK ⊢
          clear kk hbk hwk hbk2
          obtain ⟨wk2, rfl⟩ : ∃ wo : World, wo = wk := ⟨_, rfl⟩
          go_loopw [120] (fun i wr => ∃ j : Nat, i = .int .i64 j ∧ j ≤ cs.length ∧ Hid (Below wk2.heap.size wk2 wr)) (fun i _ => cs.length - (intOf i).toNat)
          case atStart => exact ⟨0, rfl, Nat.zero_le _, Below.refl _ _⟩
          case round =>
            obtain ⟨j, rfl, hj2, HW3⟩ := hrel
            have KJ := Lib.hid (blk_below KK.out HW3.out)
            by_cases hj3 : j < cs.length
            · have hbj := HBK.out.trans (HW3.out.mono HBK.out.size)
              obtain ⟨ad7', e7, t0, t1⟩ := span_at (Kd.C_below HC7.out hbj) j hj3
              cases e7
              obtain ⟨ad8, e8, g0⟩ := fin_at (Kd.C_below HC8.out hbj) k hk3
              subst e8
              obtain ⟨ad8', e8', g1⟩ := fin_at (Kd.C_below HC8.out hbj) j hj3
              cases e8'
              have hmono := fin_mono HA.out (f := f) hk3 hj3
              rw [← HHK.out] at hmono
              obtain ⟨lj, hlj⟩ : ∃ x, x = loF cs j := ⟨_, rfl⟩
              obtain ⟨hj', hhj⟩ : ∃ x, x = hiF cs j := ⟨_, rfl⟩
              obtain ⟨fk, hfk⟩ : ∃ x, x = finV f cs k := ⟨_, rfl⟩
              obtain ⟨fj, hfj⟩ : ∃ x, x = finV f cs j := ⟨_, rfl⟩
              rw [← hlj] at t0 hmono
              rw [← hhj] at t1
              rw [← hfk] at g0 hmono
              rw [← hfj] at g1 hmono
              clear hlj hhj hfk hfj
              have g0' := fun o => cell_alloc g0 o
              have g1' := fun o => cell_alloc g1 o
              have x0 := fun o => cell_alloc (blk_nth KJ.out 0 rfl) o
              have x1 := fun o => cell_alloc (blk_nth KJ.out 1 rfl) o
              have HMN := Lib.hid hmono
              clear hmono hbj
              go_wp2_with fail
              clear t0 t1 g0 g1
              have hbn := HW3.out.alloc HW3.out.size (.cells #[.int .i64 lj, .int .i64 hj'] 23)
              have HBN := Lib.hid hbn
              clear hbn
              rcases Nat.lt_trichotomy k j with hkj | hkj | hkj
              · have d1 : decide (k < j) = true := decide_eq_true hkj
                have d2 : decide (j < k) = false := decide_eq_false (by omega)
                by_cases hh : hk' ≤ lj
                · have hf := HMN.out (.inl ⟨hkj, hh⟩)
                  have d3 : decide (fk < fj) = false := decide_eq_false (by omega)
                  go_quiet (fail)
                  go_wp2
                  exact ⟨⟨j + 1, by go_num, by omega, Lib.hid (below_drewN HBN.out)⟩, by simp [intOf]; omega⟩
                · have d3 : decide (hk' ≤ lj) = false := decide_eq_false hh
                  go_quiet (fail)
                  go_wp2
                  exact ⟨⟨j + 1, by go_num, by omega, Lib.hid (below_drewN HBN.out)⟩, by simp [intOf]; omega⟩
              · have d1 : decide (k < j) = false := decide_eq_false (by omega)
                have d2 : decide (j < k) = false := decide_eq_false (by omega)
                go_quiet (fail)
                go_wp2
                exact ⟨⟨j + 1, by go_num, by omega, Lib.hid (below_drewN HBN.out)⟩, by simp [intOf]; omega⟩
              · have d1 : decide (k < j) = false := decide_eq_false (by omega)
                have d2 : decide (j < k) = true := decide_eq_true hkj
                by_cases hh : hk' < lj
                · have hf := HMN.out (.inr ⟨hkj, hh⟩)
                  have d3 : decide (fk < fj) = false := decide_eq_false (by omega)
                  go_quiet (fail)
                  go_wp2
                  exact ⟨⟨j + 1, by go_num, by omega, Lib.hid (below_drewN HBN.out)⟩, by simp [intOf]; omega⟩
                · have d3 : decide (hk' < lj) = false := decide_eq_false hh
                  go_quiet (fail)
                  go_wp2
                  exact ⟨⟨j + 1, by go_num, by omega, Lib.hid (below_drewN HBN.out)⟩, by simp [intOf]; omega⟩
            · obtain rfl : j = cs.length := by omega
              have hbj := HBK.out.trans (HW3.out.mono HBK.out.size)
              have HBJ := Lib.hid hbj
              have kc := blk_below HKC.out hbj
              have x0 := blk_nth KJ.out 0 rfl
              have x1 := blk_nth KJ.out 1 rfl
              have y0 := blk_nth kc 0 rfl
              have y1 := blk_nth kc 1 rfl
              clear kc hbj
              have fin : ∀ (p1 p2 p3 p4 : Value), p1 = .int .i64 ((m1 + if lk ≤ cl0 then 1 else 0 : Nat) : Int) → p2 = .int .i64 ((m2 + if hk' ≤ ch0 then 1 else 0 : Nat) : Int) → p3 = .int .i64 ((m3 + if lk < cl0 then 1 else 0 : Nat) : Int) → p4 = .int .i64 ((m4 + if hk' < ch0 then 1 else 0 : Nat) : Int) → GRel cs cl0 ch0 wo (.int .i64 ((k : Int) + 1)) p1 p2 p3 p4 wr := by
                rintro p1 p2 p3 p4 rfl rfl rfl rfl
                exact ⟨k + 1, by go_num, by omega, by rw [S1.out], by rw [S2.out], by rw [S3.out], by rw [S4.out], HBJ⟩
              have FIN := Lib.hid fin
              clear fin
              rcases Int.lt_trichotomy lk cl0 with a1 | a1 | a1 <;> rcases Int.lt_trichotomy hk' ch0 with a2 | a2 | a2
              all_goals
                have e1 : decide (lk ≤ cl0) = decide (lk ≤ cl0) := rfl
                first | (have d1 : decide (lk ≤ cl0) = true := decide_eq_true (by omega)) | (have d1 : decide (lk ≤ cl0) = false := decide_eq_false (by omega))
                first | (have d2 : decide (lk < cl0) = true := decide_eq_true (by omega)) | (have d2 : decide (lk < cl0) = false := decide_eq_false (by omega))
                first | (have d3 : decide (hk' ≤ ch0) = true := decide_eq_true (by omega)) | (have d3 : decide (hk' ≤ ch0) = false := decide_eq_false (by omega))
                first | (have d4 : decide (hk' < ch0) = true := decide_eq_true (by omega)) | (have d4 : decide (hk' < ch0) = false := decide_eq_false (by omega))
                have A1 := Lib.hid a1
                have A2 := Lib.hid a2
                clear e1 a1 a2
                go_wp2
                refine ⟨FIN.out _ _ _ _ ?_ ?_ ?_ ?_, by simp [intOf]; omega⟩ <;> (have a1 := A1.out; have a2 := A2.out; first | (rw [if_pos (by omega)]; go_num) | (rw [if_neg (by omega)]; rfl))
        · obtain rfl : k = cs.length := by omega
          have q1 := blk_nth (blk_below KR.out HW2.out) 1 rfl
          have e1 := cut_le (loF cs) (n := cs.length) hf1 (by omega)
          have e2 := cut_le (hiF cs) (n := cs.length) hf1 (by omega)
          have e3 := cut_lt (loF cs) (n := cs.length) hf1 (by omega)
          have e4 := cut_lt (hiF cs) (n := cs.length) hf1 (by omega)
          rw [← cut_los, ← HCL.out] at e1 e3
          rw [← cut_his, ← HCHI.out] at e2 e4
          obtain ⟨m1, hm1⟩ : ∃ x, x = cntLe (loF cs) cl0 cs.length := ⟨_, rfl⟩
          obtain ⟨m2, hm2⟩ : ∃ x, x = cntLe (hiF cs) ch0 cs.length := ⟨_, rfl⟩
          obtain ⟨m3, hm3⟩ : ∃ x, x = cntLt (loF cs) cl0 cs.length := ⟨_, rfl⟩
          obtain ⟨m4, hm4⟩ : ∃ x, x = cntLt (hiF cs) ch0 cs.length := ⟨_, rfl⟩
          rw [← hm1] at e1 ⊢
          rw [← hm2] at e2 ⊢
          rw [← hm3] at e3 ⊢
          rw [← hm4] at e4 ⊢
          clear hm1 hm2 hm3 hm4
          go_wp2_with fail
          refine (lapworkslaw07_alive.calls true _ rfl).mono ?_
          rintro en w9 ⟨rfl, hb9⟩
          go_wp2
          go_ret
          exact ⟨rfl, (HBR.out.trans (HW2.out.mono HBR.out.size)).trans (hb9.mono (Nat.le_trans HBR.out.size HW2.out.size))⟩
end Go.Proofs.Ytihfmphaajdhnaa.P
