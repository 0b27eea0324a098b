/- Plain: what is known of a valid system; equal lists; the size is looked at. -/
import Derived.Test.YtkbpafipbhaknaaDoorQ4E2
namespace Go.Proofs.YtkbpafipbhaknaaDoor
open Go Go.Av
set_option maxRecDepth 100000
set_option linter.unusedVariables false

variable (a0 a1 a2 a3 : Int) (a4 : List (List Int)) (a5 : List Ru) (a6 : List Pm) (a7 : List Lk)

theorem valid_rows (h : validB a0 a1 a2 a3 a4 a5 a6 a7 = true) : 1 ≤ a1 ∧ a1 ≤ 13 := by
  unfold validB at h
  simp only [Bool.and_eq_true, decide_eq_true_eq] at h
  obtain ⟨⟨⟨⟨⟨⟨⟨⟨_, h1, h2⟩, _⟩, _⟩, _⟩, _⟩, _⟩, _⟩, _⟩ := h
  split at h2 <;> omega
theorem valid_main (h : validB a0 a1 a2 a3 a4 a5 a6 a7 = true) : a2 ≤ 64 ∧ a3 ≤ 16 ∧ a4.length ≤ 64 := by
  unfold validB at h
  simp only [Bool.and_eq_true, decide_eq_true_eq, Bool.not_eq_true', decide_eq_false_iff_not] at h
  obtain ⟨⟨⟨⟨⟨⟨⟨_, _, h1⟩, _, h2⟩, ⟨⟨h3, _⟩, _⟩, _⟩, _⟩, _⟩, _⟩, _⟩ := h
  omega
theorem valid_cols (h : validB a0 a1 a2 a3 a4 a5 a6 a7 = true) : colsB a0 ((2 : Int) ^ a1.toNat) a4 = true := by
  unfold validB at h
  simp only [Bool.and_eq_true] at h
  exact h.1.1.1.2
theorem cols_len {f n : Int} {l : List (List Int)} (h : colsB f n l = true) : ∀ c ∈ l, (c.length : Int) = n := by
  intro c hc
  unfold colsB at h
  have := List.all_eq_true.1 h c hc
  simp only [Bool.and_eq_true, decide_eq_true_eq] at this
  exact this.1

/-! ### equal lists -/
theorem f14 (l : List Int) (hl : l.length ≤ BD) : s14 whole l l = some true := by
  unfold s14
  rw [decide_eq_true rfl, Bool.not_true, c_false]
  have h := run_all (step := s14_0 whole l l) l (fun _ => true) (fun i => (i : Int)) (bad := .inl false) (fin := .inr ())
    (fun i x hx => by
      have hi := lt_of hx
      unfold s14_0
      rw [decide_eq_true (by omega : (i : Int) < (l.length : Int)), c_true, ck_t (by omega), ck_t (by omega), decide_eq_true rfl, Bool.not_true, c_false, ck_t (inR_succ hi hl)]
      rfl)
    (by unfold s14_0; rw [decide_eq_false (by omega)]; rfl)
  have h0 : whole.run (s14_0 whole l l) (0 : Int) = _ := h
  rw [h0, show (l.all fun _ => true) = true from List.all_eq_true.2 fun _ _ => rfl]
  rfl

/-! ### the size is looked at, and something comes of it -/
theorem wrap_succ {i n : Nat} (h : i < n) (hn : n ≤ BD) : IntKind.wrap .i64 ((i : Int) + 1) = ((i + 1 : Nat) : Int) := wrap_inR (inR_succ h hn)
theorem f38 (l : List (List Vr)) (hl : l.length ≤ BD) : ∃ v, s38 whole l = some v := by
  unfold s38
  have h := run_fold (step := s38_0 whole l) l (fun _ _ => True) (fun x t => IntKind.wrap .i64 (x + (t.length : Int))) (fun k x => (x, (k : Int))) (x0 := (l.length : Int)) (b := l.foldl (fun x t => IntKind.wrap .i64 (x + (t.length : Int))) (l.length : Int)) trivial
    (fun k c x hc _ => by
      have hk := lt_of hc
      unfold s38_0
      rw [decide_eq_true (by simp only []; omega), c_true, ck_t (by simp only []; omega)]
      simp only [Int.toNat_natCast, getD_of hc, wrap_succ hk hl]
      first | exact ⟨rfl, trivial⟩ | exact ⟨trivial, trivial⟩)
    (fun _ => by unfold s38_0; rw [decide_eq_false (by simp only []; omega)]; rfl)
  have h0 : whole.run (s38_0 whole l) ((l.length : Int), (0 : Int)) = _ := h.1
  rw [h0]
  exact ⟨_, rfl⟩
theorem f9_4 (hb : Bd a4 a5 a6 a7) (x0 : Int) : ∃ v, whole.run (s9_4 whole a4) (x0, (0 : Int)) = some v := by
  have h := run_fold (step := s9_4 whole a4) a4 (fun _ _ => True) (fun x t => IntKind.wrap .i64 (x + (t.length : Int))) (fun k x => (x, (k : Int))) (x0 := x0) (b := a4.foldl (fun x t => IntKind.wrap .i64 (x + (t.length : Int))) x0) trivial
    (fun k c x hc _ => by
      have hk := lt_of hc
      unfold s9_4
      rw [decide_eq_true (by simp only []; omega), c_true, ck_t (by simp only []; omega)]
      simp only [Int.toNat_natCast, getD_of hc, wrap_succ hk hb.b4.1]
      first | exact ⟨rfl, trivial⟩ | exact ⟨trivial, trivial⟩)
    (fun _ => by unfold s9_4; rw [decide_eq_false (by simp only []; omega)]; rfl)
  exact ⟨_, h.1⟩
theorem f9_3 (hb : Bd a4 a5 a6 a7) (i : Nat) (r : Ru) (hr : a5[i]? = some r) (y x0 : Int) : whole.run (s9_3 whole a5 (y, (i : Int))) (x0, (0 : Int)) = some (r.2.foldl (fun x m => IntKind.wrap .i64 (x + (m.2.length : Int))) x0) := by
  have hi := lt_of hr
  have h := run_fold (step := s9_3 whole a5 (y, (i : Int))) r.2 (fun _ _ => True) (fun x m => IntKind.wrap .i64 (x + (m.2.length : Int))) (fun k x => (x, (k : Int))) (x0 := x0) (b := r.2.foldl (fun x m => IntKind.wrap .i64 (x + (m.2.length : Int))) x0) trivial
    (fun k c x hc _ => by
      have hk := lt_of hc
      unfold s9_3
      rw [ck_t (by simp only []; omega)]
      simp only [Int.toNat_natCast, getD_of hr]
      rw [decide_eq_true (by omega), c_true, ck_t (by omega), ck_t (by omega)]
      simp only [getD_of hc, wrap_succ hk (hb.b5.2 r (mem_of hr)).1]
      first | exact ⟨rfl, trivial⟩ | exact ⟨trivial, trivial⟩)
    (fun _ => by
      unfold s9_3
      rw [ck_t (by simp only []; omega)]
      simp only [Int.toNat_natCast, getD_of hr]
      rw [decide_eq_false (by omega)]; rfl)
  exact h.1
theorem f9_2 (hb : Bd a4 a5 a6 a7) (x0 : Int) : ∃ v, whole.run (s9_2 whole a5) (x0, (0 : Int)) = some v := by
  have h := run_fold (step := s9_2 whole a5) a5 (fun _ _ => True) (fun x (r : Ru) => r.2.foldl (fun x m => IntKind.wrap .i64 (x + (m.2.length : Int))) (IntKind.wrap .i64 (x + (r.2.length : Int)))) (fun k x => (x, (k : Int))) (x0 := x0)
    (b := a5.foldl (fun x (r : Ru) => r.2.foldl (fun x m => IntKind.wrap .i64 (x + (m.2.length : Int))) (IntKind.wrap .i64 (x + (r.2.length : Int)))) x0) trivial
    (fun k c x hc _ => by
      have hk := lt_of hc
      unfold s9_2
      rw [decide_eq_true (by simp only []; omega), c_true, ck_t (by simp only []; omega)]
      simp only [Int.toNat_natCast, getD_of hc, wrap_succ hk hb.b5.1]
      rw [f9_3 _ _ _ _ hb k c hc]
      first | exact ⟨rfl, trivial⟩ | exact ⟨trivial, trivial⟩)
    (fun _ => by unfold s9_2; rw [decide_eq_false (by simp only []; omega)]; rfl)
  exact ⟨_, h.1⟩
theorem f9_1 (hb : Bd a4 a5 a6 a7) (x0 : Int) : ∃ v, whole.run (s9_1 whole a6) (x0, (0 : Int)) = some v := by
  have h := run_fold (step := s9_1 whole a6) a6 (fun _ _ => True) (fun x q => IntKind.wrap .i64 (IntKind.wrap .i64 (x + (s38 whole q.1).getD 0) + (s38 whole q.2).getD 0)) (fun k x => (x, (k : Int))) (x0 := x0)
    (b := a6.foldl (fun x q => IntKind.wrap .i64 (IntKind.wrap .i64 (x + (s38 whole q.1).getD 0) + (s38 whole q.2).getD 0)) x0) trivial
    (fun k c x hc _ => by
      have hk := lt_of hc
      have hq := hb.b6.2 c (mem_of hc)
      obtain ⟨v, hv⟩ := f38 c.1 hq.1.1
      obtain ⟨u, hu⟩ := f38 c.2 hq.2.1
      unfold s9_1
      rw [decide_eq_true (by simp only []; omega), c_true, ck_t (by simp only []; omega)]
      simp only [Int.toNat_natCast, getD_of hc, wrap_succ hk hb.b6.1, hv, hu, b_some]
      rw [ck_t (by omega)]
      first | exact ⟨rfl, trivial⟩ | exact ⟨trivial, trivial⟩)
    (fun _ => by unfold s9_1; rw [decide_eq_false (by simp only []; omega)]; rfl)
  exact ⟨_, h.1⟩
theorem f9_0 (hb : Bd a4 a5 a6 a7) (x0 : Int) : ∃ v, whole.run (s9_0 whole a7) (x0, (0 : Int)) = some v := by
  have h := run_fold (step := s9_0 whole a7) a7 (fun _ _ => True) (fun x (q : Lk) => IntKind.wrap .i64 (IntKind.wrap .i64 (x + (q.1.length : Int)) + (q.2.1.length : Int))) (fun k x => (x, (k : Int))) (x0 := x0)
    (b := a7.foldl (fun x (q : Lk) => IntKind.wrap .i64 (IntKind.wrap .i64 (x + (q.1.length : Int)) + (q.2.1.length : Int))) x0) trivial
    (fun k c x hc _ => by
      have hk := lt_of hc
      unfold s9_0
      rw [decide_eq_true (by simp only []; omega), c_true, ck_t (by simp only []; omega)]
      simp only [Int.toNat_natCast, getD_of hc, wrap_succ hk hb.b7.1]
      rw [ck_t (by omega)]
      first | exact ⟨rfl, trivial⟩ | exact ⟨trivial, trivial⟩)
    (fun _ => by unfold s9_0; rw [decide_eq_false (by simp only []; omega)]; rfl)
  exact ⟨_, h.1⟩
theorem f9 (hb : Bd a4 a5 a6 a7) : ∃ v, s9 whole a0 a1 a2 a3 a4 a5 a6 a7 = some v := by
  unfold s9
  obtain ⟨v4, h4⟩ := f9_4 a4 a5 a6 a7 hb 0
  obtain ⟨v2, h2⟩ := f9_2 a4 a5 a6 a7 hb v4
  obtain ⟨v1, h1⟩ := f9_1 a4 a5 a6 a7 hb v2
  obtain ⟨v0, h0⟩ := f9_0 a4 a5 a6 a7 hb v1
  simp only [b_some, cond_some, cond_or, h4, h2, h1, h0]
  exact ⟨_, rfl⟩
end Go.Proofs.YtkbpafipbhaknaaDoor
