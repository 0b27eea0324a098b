/- Plain: lookups, perms, rules; when a system is valid, by both texts. -/
import Derived.Test.YtkbpafipbhaknaaDoorQ4E0
namespace Go.Proofs.YtkbpafipbhaknaaDoor
open Go Go.Av
set_option maxRecDepth 100000
set_option linter.unusedVariables false

variable (a0 a1 a2 a3 : Int) (a4 : List (List Int)) (a5 : List Ru) (a6 : List Pm) (a7 : List Lk)

theorem f45 (n lo hi : Int) : s45 whole n lo hi = some (decide (lo ≤ n) && decide (n ≤ hi)) := by
  unfold s45
  simp only [b_some, cond_some, cond_and, ge_iff_le]

/-! ### lookups -/
def lookB (m p fx : Int) (l : Lk) : Bool :=
  (decide ((1 : Int) ≤ l.1.length) && decide ((l.1.length : Int) ≤ 4)) && decide (l.2.2.1 = 1) && knB m p fx l.2.2 && tupB m p fx l.1.length [1, 3] l.1 && tupB m p fx l.1.length [3] l.2.1
theorem f65 (l : Lk) (h1 : l.1.length ≤ BD) (h2 : l.2.1.length ≤ BD) : s65 whole a0 a1 a2 a3 a4 a5 a6 a7 l.1 l.2.1 l.2.2.1 l.2.2.2 = some (lookB a2 a3 a4.length l) := by
  unfold s65 lookB
  rw [f45, f109, f111 _ _ _ _ _ _ _ _ l.1 _ _ h1 (Nat.le_trans (by decide) BD_ge), f111 _ _ _ _ _ _ _ _ l.2.1 _ _ h2 (Nat.le_trans (by decide) BD_ge)]
  simp only [b_some, cond_some, cond_and]
theorem f53 (l : Lk) (h1 : l.1.length ≤ BD) (h2 : l.2.1.length ≤ BD) : s53 whole a0 a1 a2 a3 a4 a5 a6 a7 l.1 l.2.1 l.2.2.1 l.2.2.2 = some (lookB a2 a3 a4.length l) := by
  unfold s53 lookB
  rw [f101, f102 _ _ _ _ _ _ _ _ l.1 _ false h1, f102 _ _ _ _ _ _ _ _ l.2.1 _ true h2]
  simp only [b_some, cond_some, cond_and, cond_or, c_true, c_false]
  rw [show (decide ((1 : Int) ≤ l.1.length)) = !(decide ((l.1.length : Int) < 1)) by rw [← decide_not]; simp only [decide_eq_decide]; omega, show (decide ((l.1.length : Int) ≤ 4)) = !(decide ((l.1.length : Int) > 4)) by rw [← decide_not]; simp only [decide_eq_decide]; omega]
  cases decide ((l.1.length : Int) < 1) <;> cases decide ((l.1.length : Int) > 4) <;> cases decide (l.2.2.1 = 1) <;> cases knB a2 a3 a4.length (l.2.2.1, l.2.2.2) <;> rfl

/-! ### perms -/
theorem f56 (L R : List (List Vr)) (h : (L.length + R.length) * 24 ≤ BD) : s56 whole [L, R] = some (L ++ R) := by
  have h : (L.length + R.length) * 24 ≤ 140737488355328 := h
  unfold s56
  have s1 : whole.run (s56_1 whole [L, R]) ((0 : Int), (0 : Int)) = some ((L.length : Int) + R.length) := by
    rw [run_go (y := ((L.length : Int), (1 : Int))) (by
      unfold s56_1
      rw [decide_eq_true (by simp), c_true, ck_t (by simp)]
      simp only [Int.toNat_zero, List.getD_cons_zero, Int.zero_add]
      rw [ck_t (by simp only [inR]; omega), decide_eq_false (by omega)]
      simp only [c_false, b_some]
      rw [ck_t (by simp [inR])])]
    rw [run_go (y := ((L.length : Int) + R.length, (2 : Int))) (by
      unfold s56_1
      rw [decide_eq_true (by simp), c_true, ck_t (by simp)]
      simp only [Int.toNat_one, List.getD_cons_succ, List.getD_cons_zero]
      rw [ck_t (by simp only [inR]; omega), decide_eq_false (by omega)]
      simp only [c_false, b_some]
      rw [ck_t (by simp [inR])]
      rfl)]
    exact run_out (by unfold s56_1; rw [decide_eq_false (by simp)]; rfl)
  have s0 : whole.run (s56_0 whole [L, R]) ((0 : Int), ([] : List (List Vr))) = some (L ++ R) := by
    rw [run_go (y := ((1 : Int), L)) (by
      unfold s56_0
      rw [decide_eq_true (by simp), c_true, ck_t (by simp)]
      simp only [Int.toNat_zero, List.getD_cons_zero, List.length_nil, Nat.zero_add, List.nil_append, Int.zero_add]
      rw [ck_t (by omega), ck_t (by simp [inR])])]
    rw [run_go (y := ((2 : Int), L ++ R)) (by
      unfold s56_0
      rw [decide_eq_true (by simp), c_true, ck_t (by simp)]
      simp only [Int.toNat_one, List.getD_cons_succ, List.getD_cons_zero]
      rw [ck_t (by omega), ck_t (by simp [inR])]
      rfl)]
    exact run_out (by unfold s56_0; rw [decide_eq_false (by simp)]; rfl)
  rw [s1]
  simp only [b_some]
  rw [ck_t (by omega), s0]
  rfl

def permB (m p fx : Int) (q : Pm) : Bool :=
  (decide ((1 : Int) ≤ q.1.length) && decide ((q.1.length : Int) ≤ 4)) && decide ((q.2.length : Int) = q.1.length) && (decide ((1 : Int) ≤ (q.1.getD 0 []).length) && decide (((q.1.getD 0 []).length : Int) ≤ 4)) &&
    (q.1 ++ q.2).all (tupB m p fx (q.1.getD 0 []).length [1, 3])
theorem f64 (q : Pm) (h1 : ∀ t ∈ q.1, t.length ≤ BD) (h2 : ∀ t ∈ q.2, t.length ≤ BD) : s64 whole a0 a1 a2 a3 a4 a5 a6 a7 q.1 q.2 = some (permB a2 a3 a4.length q) := by
  unfold s64 permB
  rw [f45, f45]
  simp only [b_some]
  cases hA : (decide ((1 : Int) ≤ q.1.length) && decide ((q.1.length : Int) ≤ 4)) with
  | false => rfl
  | true =>
    simp only [Bool.and_eq_true, decide_eq_true_eq] at hA
    simp only [Bool.not_true, c_false, b_some, Bool.true_and]
    cases hB : decide ((q.2.length : Int) = q.1.length) with
    | false => rfl
    | true =>
      simp only [decide_eq_true_eq] at hB
      simp only [Bool.not_true, c_false, Bool.true_and]
      rw [ck_t (by omega)]
      simp only [b_some]
      rw [show (q.1.getD (0 : Int).toNat e62.d) = q.1.getD 0 [] from rfl]
      cases hC : (decide ((1 : Int) ≤ (q.1.getD 0 []).length) && decide (((q.1.getD 0 []).length : Int) ≤ 4)) with
      | false => rfl
      | true =>
        simp only [Bool.not_true, c_false, Bool.true_and]
        rw [f56 q.1 q.2 (by have := BD_ge; omega)]
        simp only [b_some]
        have h := run_all (step := s64_0 whole a0 a1 a2 a3 a4 a5 a6 a7 q.1 (q.1 ++ q.2)) (q.1 ++ q.2) (tupB a2 a3 a4.length (q.1.getD 0 []).length [1, 3]) (fun i => (i : Int)) (bad := .inl false) (fin := .inr ())
          (fun i x hx => by
            have hi := lt_of hx
            have hxl : x.length ≤ BD := by
              rcases List.mem_append.1 (mem_of hx) with hm | hm
              · exact h1 x hm
              · exact h2 x hm
            have hl8 : (q.1 ++ q.2).length ≤ 8 := by simp; omega
            unfold s64_0
            rw [decide_eq_true (by omega : (i : Int) < ((q.1 ++ q.2).length : Int)), c_true, ck_t (by omega), ck_t (by omega), Int.toNat_natCast, getD_of hx, f111 _ _ _ _ _ _ _ _ x _ _ hxl (Nat.le_trans (by decide) BD_ge), b_some]
            rw [show (q.1.getD (0 : Int).toNat e62.d) = q.1.getD 0 [] from rfl]
            cases tupB a2 a3 a4.length (q.1.getD 0 []).length [1, 3] x with
            | false => rfl
            | true => simp only [Bool.not_true, c_false, c_true]; rw [ck_t (by simp only [inR]; omega)]; rfl)
          (by unfold s64_0; rw [decide_eq_false (by omega)]; rfl)
        have h0 : whole.run (s64_0 whole a0 a1 a2 a3 a4 a5 a6 a7 q.1 (q.1 ++ q.2)) (0 : Int) = _ := h
        rw [h0]
        generalize (q.1 ++ q.2).all _ = b
        cases b <;> rfl
theorem all_zip {α : Type} (f : α → Bool) : ∀ (l r : List α), r.length = l.length → (l.zip r).all (fun x => f x.1 && f x.2) = (l ++ r).all f
  | [], [], _ => rfl
  | a :: l, b :: r, h => by
    have ih := all_zip f l r (by simpa using h)
    simp only [List.zip_cons_cons, List.all_cons, List.cons_append, List.all_append, ih]
    cases f a <;> cases f b <;> cases l.all f <;> rfl
theorem f52 (q : Pm) (h1 : ∀ t ∈ q.1, t.length ≤ BD) (h2 : ∀ t ∈ q.2, t.length ≤ BD) : s52 whole a0 a1 a2 a3 a4 a5 a6 a7 q.1 q.2 = some (permB a2 a3 a4.length q) := by
  unfold s52 permB
  by_cases hA1 : (1 : Int) ≤ q.1.length
  · by_cases hA2 : (q.1.length : Int) ≤ 4
    · by_cases hB : (q.2.length : Int) = q.1.length
      · rw [show (q.1.getD (0 : Int).toNat e62.d) = q.1.getD 0 [] from rfl]
        rw [decide_eq_false (by omega : ¬ ((q.1.length : Int) < 1)), decide_eq_false (by omega : ¬ ((q.1.length : Int) > 4)), decide_eq_true hB, decide_eq_true hA1, decide_eq_true hA2]
        simp only [c_false, b_some, Bool.not_true, Bool.true_and]
        rw [ck_t (by omega)]
        by_cases hC1 : (1 : Int) ≤ (q.1.getD 0 []).length
        · by_cases hC2 : ((q.1.getD 0 []).length : Int) ≤ 4
          · rw [decide_eq_false (by omega : ¬ (((q.1.getD 0 []).length : Int) < 1)), decide_eq_false (by omega : ¬ (((q.1.getD 0 []).length : Int) > 4)), decide_eq_true hC1, decide_eq_true hC2]
            simp only [c_false, b_some, Bool.true_and]
            have hzl : (q.1.zip q.2).length = q.1.length := by rw [List.length_zip]; omega
            have h := run_all (step := s52_0 whole a0 a1 a2 a3 a4 a5 a6 a7 q.1 q.2) (q.1.zip q.2) (fun x => tupB a2 a3 a4.length (q.1.getD 0 []).length [1, 3] x.1 && tupB a2 a3 a4.length (q.1.getD 0 []).length [1, 3] x.2) (fun i => (i : Int)) (bad := .inl false) (fin := .inr ())
              (fun i x hx => by
                have hi := lt_of hx
                rw [hzl] at hi
                obtain ⟨hx1, hx2⟩ : q.1[i]? = some x.1 ∧ q.2[i]? = some x.2 := by
                  rw [List.getElem?_zip_eq_some] at hx; exact hx
                unfold s52_0
                rw [decide_eq_true (by omega : (i : Int) < (q.1.length : Int)), c_true, ck_t (by omega), ck_t (by omega), ck_t (by simp only [inR]; omega), Int.toNat_natCast, getD_of hx1, getD_of hx2, f102 _ _ _ _ _ _ _ _ x.1 _ _ (h1 _ (mem_of hx1)), f102 _ _ _ _ _ _ _ _ x.2 _ _ (h2 _ (mem_of hx2)), b_some]
                rw [show (q.1.getD (0 : Int).toNat e62.d) = q.1.getD 0 [] from rfl]
                simp only [c_false, b_some]
                cases tupB a2 a3 a4.length (q.1.getD 0 []).length [1, 3] x.1 <;> cases tupB a2 a3 a4.length (q.1.getD 0 []).length [1, 3] x.2 <;> rfl)
              (by unfold s52_0; rw [hzl, decide_eq_false (by omega)]; rfl)
            have h0 : whole.run (s52_0 whole a0 a1 a2 a3 a4 a5 a6 a7 q.1 q.2) (0 : Int) = _ := h
            rw [h0, all_zip _ _ _ (by omega)]
            generalize (q.1 ++ q.2).all _ = b
            cases b <;> rfl
          · rw [decide_eq_false (by omega : ¬ (((q.1.getD 0 []).length : Int) < 1)), decide_eq_true (by omega : (((q.1.getD 0 []).length : Int) > 4)), decide_eq_false hC2]
            simp
        · rw [decide_eq_true (by omega : (((q.1.getD 0 []).length : Int) < 1)), decide_eq_false hC1]
          simp
      · rw [decide_eq_false (by omega : ¬ ((q.1.length : Int) < 1)), decide_eq_false (by omega : ¬ ((q.1.length : Int) > 4)), decide_eq_false hB]
        simp
    · rw [decide_eq_false (by omega : ¬ ((q.1.length : Int) < 1)), decide_eq_true (by omega : ((q.1.length : Int) > 4)), decide_eq_false hA2]
      simp
  · rw [decide_eq_true (by omega : ((q.1.length : Int) < 1)), decide_eq_false hA1]
    simp
end Go.Proofs.YtkbpafipbhaknaaDoor
