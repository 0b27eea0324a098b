/- Plain: degrees, rules; when a system is valid, by both texts. -/
import Derived.Test.YtkbpafipbhaknaaDoorQ4E1
namespace Go.Proofs.YtkbpafipbhaknaaDoor
open Go Go.Av
set_option maxRecDepth 100000
set_option linter.unusedVariables false

/-! ### degrees -/
def cntK (k : Int) : Bool := decide (k = 1) || decide (k = 2) || decide (k = 3) || decide (k = 5) || decide (k = 6)
def cnt (vs : List Vr) : Int := vs.foldl (fun n v => bif cntK v.1 then n + 1 else n) 0
def degM (ms : List Mo) : Int := ms.foldl (fun d m => if cnt m.2 > d then cnt m.2 else d) 0
theorem f112 (k : Int) : s112 whole k = some (cntK k) := by
  unfold s112 cntK
  simp only [b_some, cond_some, cond_or]
theorem f67_1 (ms : List Mo) (d : Int) (i : Nat) (m : Mo) (hx : ms[i]? = some m) (hl : m.2.length ≤ BD) : whole.run (s67_1 whole ms (d, (i : Int))) ((0 : Int), (0 : Int)) = some (cnt m.2) := by
  have hi := lt_of hx
  have hl' : m.2.length ≤ 140737488355328 := hl
  have h := run_fold (step := s67_1 whole ms (d, (i : Int))) m.2 (fun k x => (0 : Int) ≤ x ∧ x ≤ k) (fun n v => bif cntK v.1 then n + 1 else n) (fun k x => (x, (k : Int))) (x0 := 0) (b := cnt m.2) ⟨by omega, by omega⟩
    (fun k v x hv hP => by
      have hk := lt_of hv
      unfold s67_1
      simp only [Int.toNat_natCast, getD_of hx, getD_of hv]
      rw [ck_t (by omega), decide_eq_true (by omega), c_true, ck_t (by omega), ck_t (by omega), f112, b_some]
      cases cntK v.1 with
      | true =>
        simp only [c_true]
        rw [ck_t (by simp only [inR]; omega), b_some, ck_t (inR_succ hk hl)]
        exact ⟨rfl, by omega, by omega⟩
      | false =>
        simp only [c_false]
        rw [b_some, ck_t (inR_succ hk hl)]
        exact ⟨rfl, by omega, by omega⟩)
    (fun _ => by
      unfold s67_1
      simp only [Int.toNat_natCast, getD_of hx]
      rw [ck_t (by omega), decide_eq_false (by omega)]
      rfl)
  exact h.1
theorem f67 (ms : List Mo) (hl : ms.length ≤ BD) (hv : ∀ m ∈ ms, m.2.length ≤ BD) : s67 whole ms = some (degM ms) := by
  unfold s67
  have h := run_fold (step := s67_0 whole ms) ms (fun _ _ => True) (fun d m => if cnt m.2 > d then cnt m.2 else d) (fun k x => (x, (k : Int))) (x0 := 0) (b := degM ms) trivial
    (fun k m x hm _ => by
      have hk := lt_of hm
      unfold s67_0
      rw [decide_eq_true (by simp only []; omega), c_true, f67_1 ms x k m hm (hv m (mem_of hm))]
      simp only [b_some]
      rw [ck_t (inR_succ hk hl)]
      exact ⟨rfl, trivial⟩)
    (fun _ => by
      unfold s67_0
      rw [decide_eq_false (by simp only []; omega)]
      rfl)
  have h0 : whole.run (s67_0 whole ms) ((0 : Int), (0 : Int)) = some (degM ms) := h.1
  rw [h0]
  rfl
theorem f66_1 (ms : List Mo) (d : Int) (i : Nat) (m : Mo) (hx : ms[i]? = some m) (hl : m.2.length ≤ BD) : whole.run (s66_1 whole ms (d, (i : Int))) ((0 : Int), (0 : Int)) = some (cnt m.2) := by
  have hi := lt_of hx
  have hl' : m.2.length ≤ 140737488355328 := hl
  have h := run_fold (step := s66_1 whole ms (d, (i : Int))) m.2 (fun k x => (0 : Int) ≤ x ∧ x ≤ k) (fun n v => bif cntK v.1 then n + 1 else n) (fun k x => (x, (k : Int))) (x0 := 0) (b := cnt m.2) ⟨by omega, by omega⟩
    (fun k v x hv hP => by
      have hk := lt_of hv
      unfold s66_1
      simp only [Int.toNat_natCast, getD_of hx, getD_of hv]
      rw [decide_eq_true (by omega), c_true, ck_t (by omega)]
      have hc : (bif decide (v.1 = 1) then some (decide (v.1 = 1)) else bif decide (v.1 = 2) then some (decide (v.1 = 2)) else bif decide (v.1 = 3) then some (decide (v.1 = 3)) else bif decide (v.1 = 5) then some (decide (v.1 = 5)) else some (decide (v.1 = 6))) = some (cntK v.1) := by
        unfold cntK
        cases decide (v.1 = 1) <;> cases decide (v.1 = 2) <;> cases decide (v.1 = 3) <;> cases decide (v.1 = 5) <;> cases decide (v.1 = 6) <;> rfl
      rw [hc, b_some]
      cases cntK v.1 with
      | true =>
        simp only [c_true]
        rw [ck_t (by simp only [inR]; omega), b_some, ck_t (inR_succ hk hl)]
        exact ⟨rfl, by omega, by omega⟩
      | false =>
        simp only [c_false]
        rw [b_some, ck_t (inR_succ hk hl)]
        exact ⟨rfl, by omega, by omega⟩)
    (fun _ => by
      unfold s66_1
      simp only [Int.toNat_natCast, getD_of hx]
      rw [decide_eq_false (by omega)]
      rfl)
  exact h.1
theorem f66 (ms : List Mo) (hl : ms.length ≤ BD) (hv : ∀ m ∈ ms, m.2.length ≤ BD) : s66 whole ms = some (degM ms) := by
  unfold s66
  have h := run_fold (step := s66_0 whole ms) ms (fun _ _ => True) (fun d m => if cnt m.2 > d then cnt m.2 else d) (fun k x => (x, (k : Int))) (x0 := 0) (b := degM ms) trivial
    (fun k m x hm _ => by
      have hk := lt_of hm
      unfold s66_0
      rw [decide_eq_true (by simp only []; omega), c_true, ck_t (by simp only []; omega), f66_1 ms x k m hm (hv m (mem_of hm))]
      simp only [b_some]
      rw [ck_t (inR_succ hk hl)]
      exact ⟨rfl, trivial⟩)
    (fun _ => by
      unfold s66_0
      rw [decide_eq_false (by simp only []; omega)]
      rfl)
  have h0 : whole.run (s66_0 whole ms) ((0 : Int), (0 : Int)) = some (degM ms) := h.1
  rw [h0]
  rfl

variable (a0 a1 a2 a3 : Int) (a4 : List (List Int)) (a5 : List Ru) (a6 : List Pm) (a7 : List Lk)

/-! ### rules -/
def edge (on : Int) : Bool := decide (on = 3) || decide (on = 4)
def varB (m p fx : Int) (e : Bool) (v : Vr) : Bool := knB m p fx v && !(e && decide (v.1 = 2))
def monB (f m p fx : Int) (e : Bool) (mo : Mo) : Bool := !decide (mo.1 ≥ ordP f) && !decide ((mo.2.length : Int) > 8) && mo.2.all (varB m p fx e)
def ruleB (f m p fx : Int) (r : Ru) : Bool :=
  !decide (r.1 < 1) && !decide (r.1 > 4) && !decide ((r.2.length : Int) > 64) && !(edge r.1 && decide (degM r.2 > 1)) && r.2.all (monB f m p fx (edge r.1))
theorem f108 (k i : Int) (e : Bool) : s108 whole k i a0 a1 a2 a3 a4 a5 a6 a7 e = some (!(varB a2 a3 a4.length e (k, i))) := by
  unfold s108 varB
  rw [f109]
  simp only [b_some, cond_some, cond_or, cond_and]
  cases knB a2 a3 a4.length (k, i) <;> cases e <;> cases decide (k = 2) <;> rfl
theorem f63 (r : Ru) (h1 : r.2.length ≤ BD) (h2 : ∀ m ∈ r.2, m.2.length ≤ BD) : s63 whole a0 a1 a2 a3 a4 a5 a6 a7 r.1 r.2 = some (ruleB a0 a2 a3 a4.length r) := by
  unfold s63 ruleB
  rw [f66 r.2 h1 h2]
  simp only [b_some, cond_some, cond_or, cond_and]
  rw [show (decide (r.1 = 3) || decide (r.1 = 4)) = edge r.1 from rfl]
  cases hA : (decide (r.1 < 1) || decide (r.1 > 4) || decide ((r.2.length : Int) > 64) || edge r.1 && decide (degM r.2 > 1)) with
  | true =>
    simp only [c_true]
    congr 1
    have : (!decide (r.1 < 1) && !decide (r.1 > 4) && !decide ((r.2.length : Int) > 64) && !(edge r.1 && decide (degM r.2 > 1))) = false := by
      rw [← Bool.not_or, ← Bool.not_or, ← Bool.not_or, hA]; rfl
    rw [this, Bool.false_and]
  | false =>
    have : (!decide (r.1 < 1) && !decide (r.1 > 4) && !decide ((r.2.length : Int) > 64) && !(edge r.1 && decide (degM r.2 > 1))) = true := by
      rw [← Bool.not_or, ← Bool.not_or, ← Bool.not_or, hA]; rfl
    rw [this, Bool.true_and]
    simp only [c_false]
    have h := run_all (step := s63_0 whole a0 a1 a2 a3 a4 a5 a6 a7 r.2 (edge r.1)) r.2 (monB a0 a2 a3 a4.length (edge r.1)) (fun i => (i : Int)) (bad := .inl false) (fin := .inr ())
      (fun i x hx => by
        have hi := lt_of hx
        unfold s63_0 monB
        rw [decide_eq_true (by omega : (i : Int) < (r.2.length : Int)), c_true, ck_t (by omega), f73, Int.toNat_natCast, getD_of hx, f110 x.2 _ _ (h2 x (mem_of hx)) (fun v _ => f108 a0 a1 a2 a3 a4 a5 a6 a7 v.1 v.2 (edge r.1))]
        simp only [b_some, cond_some, cond_or]
        rw [ck_t (inR_succ hi h1), List.all_eq_not_any_not]
        cases decide (x.1 ≥ ordP a0) <;> cases decide ((x.2.length : Int) > 8) <;> cases x.2.any (fun v => !varB a2 a3 a4.length (edge r.1) v) <;> rfl)
      (by unfold s63_0; rw [decide_eq_false (by omega)]; rfl)
    have h0 : whole.run (s63_0 whole a0 a1 a2 a3 a4 a5 a6 a7 r.2 (edge r.1)) (0 : Int) = _ := h
    rw [h0]
    generalize r.2.all _ = b
    cases b <;> rfl
theorem f51_1 (ms : List Mo) (e : Bool) (i : Nat) (m : Mo) (hx : ms[i]? = some m) (hl : m.2.length ≤ BD) : whole.run (s51_1 whole a0 a1 a2 a3 a4 a5 a6 a7 ms e (i : Int)) (0 : Int) = some (bif m.2.all (varB a2 a3 a4.length e) then .inr () else .inl false) := by
  have h := run_all (step := s51_1 whole a0 a1 a2 a3 a4 a5 a6 a7 ms e (i : Int)) m.2 (varB a2 a3 a4.length e) (fun i => (i : Int)) (bad := .inl false) (fin := .inr ())
    (fun k v hv => by
      have hk := lt_of hv
      unfold s51_1 varB
      simp only [Int.toNat_natCast, getD_of hx, getD_of hv]
      rw [decide_eq_true (by omega), c_true, ck_t (by omega), f101, ck_t (by omega)]
      simp only [b_some, cond_some, cond_or, cond_and]
      rw [ck_t (inR_succ hk hl)]
      cases knB a2 a3 a4.length v <;> cases e <;> cases decide (v.1 = 2) <;> rfl)
    (by unfold s51_1; simp only [Int.toNat_natCast, getD_of hx]; rw [decide_eq_false (by omega)]; rfl)
  exact h
theorem f51 (r : Ru) (h1 : r.2.length ≤ BD) (h2 : ∀ m ∈ r.2, m.2.length ≤ BD) : s51 whole a0 a1 a2 a3 a4 a5 a6 a7 r.1 r.2 = some (ruleB a0 a2 a3 a4.length r) := by
  unfold s51 ruleB
  simp only [b_some, cond_some, cond_or, cond_and]
  rw [show (decide (r.1 = 3) || decide (r.1 = 4)) = edge r.1 from rfl]
  cases hA : (decide (r.1 < 1) || decide (r.1 > 4) || decide ((r.2.length : Int) > 64)) with
  | true =>
    simp only [c_true]
    congr 1
    have : (!decide (r.1 < 1) && !decide (r.1 > 4) && !decide ((r.2.length : Int) > 64)) = false := by
      rw [← Bool.not_or, ← Bool.not_or, hA]; rfl
    rw [this, Bool.false_and, Bool.false_and]
  | false =>
    have : (!decide (r.1 < 1) && !decide (r.1 > 4) && !decide ((r.2.length : Int) > 64)) = true := by
      rw [← Bool.not_or, ← Bool.not_or, hA]; rfl
    rw [this, Bool.true_and]
    simp only [c_false]
    have h := run_all (step := s51_0 whole a0 a1 a2 a3 a4 a5 a6 a7 r.2 (edge r.1)) r.2 (monB a0 a2 a3 a4.length (edge r.1)) (fun i => (i : Int)) (bad := .inl false) (fin := .inr ())
      (fun i x hx => by
        have hi := lt_of hx
        unfold s51_0 monB
        rw [decide_eq_true (by omega : (i : Int) < (r.2.length : Int)), c_true, ck_t (by omega), f86, Int.toNat_natCast, getD_of hx, f51_1 _ _ _ _ _ _ _ _ r.2 _ i x hx (h2 x (mem_of hx))]
        simp only [b_some, cond_some, cond_or]
        rw [ck_t (inR_succ hi h1)]
        cases decide (x.1 ≥ ordP a0) <;> cases decide ((x.2.length : Int) > 8) <;> cases x.2.all (varB a2 a3 a4.length (edge r.1)) <;> rfl)
      (by unfold s51_0; rw [decide_eq_false (by omega)]; rfl)
    have h0 : whole.run (s51_0 whole a0 a1 a2 a3 a4 a5 a6 a7 r.2 (edge r.1)) (0 : Int) = _ := h
    rw [h0, f67 r.2 h1 h2]
    simp only [b_some, cond_some, cond_or]
    generalize r.2.all _ = b
    rw [show decide (degM r.2 ≤ 1) = !decide (degM r.2 > 1) by rw [← decide_not]; simp only [decide_eq_decide]; omega]
    cases b <;> cases edge r.1 <;> cases decide (degM r.2 > 1) <;> rfl

/-! ### systems -/
theorem run28 (n : Nat) (hn : n ≤ 61) : whole.run (s28_0 whole (n : Int)) ((1 : Int), (0 : Int)) = some ((2 : Int) ^ n) := by
  have h := run_upto (step := s28_0 whole (n : Int)) (fun i => ((2 : Int) ^ i, (i : Int))) n (fun i hi => by
    unfold s28_0
    have hp : (2 : Int) ^ i ≤ 2 ^ 60 := by
      exact_mod_cast Nat.pow_le_pow_right (by decide : 0 < 2) (by omega : i ≤ 60)
    have hp0 : (0 : Int) ≤ 2 ^ i := by exact_mod_cast Nat.zero_le (2 ^ i)
    have e60v : (2 : Int) ^ 60 = 1152921504606846976 := by decide
    rw [e60v] at hp
    rw [decide_eq_true (by simp only []; omega), c_true, ck_t (by simp only [inR]; omega), ck_t (by simp only [inR]; omega)]
    rw [Int.pow_succ, Int.mul_comm]
    rfl)
  have h1 : whole.run (s28_0 whole (n : Int)) ((1 : Int), (0 : Int)) = whole.run (s28_0 whole (n : Int)) ((2 : Int) ^ n, (n : Int)) := h
  rw [h1]
  exact run_out (by unfold s28_0; rw [decide_eq_false (by simp only []; omega)]; rfl)
theorem f28s (h0 : 0 ≤ a1) (h1 : a1 ≤ 61) : s28 whole a0 a1 a2 a3 a4 a5 a6 a7 = some ((2 : Int) ^ a1.toNat) := by
  unfold s28
  obtain ⟨n, rfl⟩ := Int.eq_ofNat_of_zero_le h0
  rw [run28 n (by omega), Int.toNat_natCast]
  rfl

def validB : Bool :=
  okF a0 && (decide (1 ≤ a1) && decide (a1 ≤ if twoF a0 < 13 then twoF a0 else 13)) && (decide (1 ≤ a2) && decide (a2 ≤ 64)) && (decide (0 ≤ a3) && decide (a3 ≤ 16)) &&
  (!decide ((a4.length : Int) > 64) && !decide ((a5.length : Int) > 64) && !decide ((a6.length : Int) > 4) && !decide ((a7.length : Int) > 8)) &&
  colsB a0 ((2 : Int) ^ a1.toNat) a4 && a5.all (ruleB a0 a2 a3 a4.length) && a6.all (permB a2 a3 a4.length) && a7.all (lookB a2 a3 a4.length)

/-- no list is longer than memory -/
structure Bd : Prop where
  b4 : a4.length ≤ BD ∧ ∀ c ∈ a4, c.length ≤ BD
  b5 : a5.length ≤ BD ∧ ∀ r ∈ a5, r.2.length ≤ BD ∧ ∀ m ∈ r.2, m.2.length ≤ BD
  b6 : a6.length ≤ BD ∧ ∀ q ∈ a6, (q.1.length ≤ BD ∧ ∀ t ∈ q.1, t.length ≤ BD) ∧ (q.2.length ≤ BD ∧ ∀ t ∈ q.2, t.length ≤ BD)
  b7 : a7.length ≤ BD ∧ ∀ l ∈ a7, l.1.length ≤ BD ∧ l.2.1.length ≤ BD

theorem pow_rows {n : Int} (h0 : 0 ≤ n) (h1 : n ≤ 13) : 0 ≤ n ∧ n < ((IntKind.bits .i64 : Nat) : Int) ∧ inR .i64 ((1 : Int) * 2 ^ n.toNat) := by
  have : n.toNat ≤ 13 := by omega
  have hp : (2 : Int) ^ n.toNat ≤ 2 ^ 13 := by exact_mod_cast Nat.pow_le_pow_right (by decide : 0 < 2) this
  have hp0 : (0 : Int) ≤ 2 ^ n.toNat := by exact_mod_cast Nat.zero_le (2 ^ n.toNat)
  have e13 : (2 : Int) ^ 13 = 8192 := by decide
  rw [e13] at hp
  refine ⟨h0, ?_, ?_⟩
  · simp [IntKind.bits]; omega
  · simp only [inR, Int.one_mul]; omega
theorem pow_pos2 (n : Nat) : (0 : Int) < 2 ^ n := by exact_mod_cast Nat.pow_pos (by decide : 0 < 2)

theorem f18 (hb : Bd a4 a5 a6 a7) : s18 whole a0 a1 a2 a3 a4 a5 a6 a7 = some (validB a0 a1 a2 a3 a4 a5 a6 a7) := by
  unfold s18 validB
  rw [f60, f61]
  simp only [b_some, f45, cond_some, cond_or]
  cases hA : (okF a0 && (decide (1 ≤ a1) && decide (a1 ≤ if twoF a0 < 13 then twoF a0 else 13)) && (decide (1 ≤ a2) && decide (a2 ≤ 64)) && (decide (0 ≤ a3) && decide (a3 ≤ 16))) with
  | false =>
    rw [show (!okF a0 || !(decide (1 ≤ a1) && decide (a1 ≤ if twoF a0 < 13 then twoF a0 else 13)) || !(decide (1 ≤ a2) && decide (a2 ≤ 64)) || !(decide (0 ≤ a3) && decide (a3 ≤ 16))) = true by rw [← Bool.not_and, ← Bool.not_and, ← Bool.not_and, hA]; rfl]
    simp only [c_true, Bool.false_and]
  | true =>
    rw [show (!okF a0 || !(decide (1 ≤ a1) && decide (a1 ≤ if twoF a0 < 13 then twoF a0 else 13)) || !(decide (1 ≤ a2) && decide (a2 ≤ 64)) || !(decide (0 ≤ a3) && decide (a3 ≤ 16))) = false by rw [← Bool.not_and, ← Bool.not_and, ← Bool.not_and, hA]; rfl]
    simp only [c_false, Bool.true_and]
    cases hB : (!decide ((a4.length : Int) > 64) && !decide ((a5.length : Int) > 64) && !decide ((a6.length : Int) > 4) && !decide ((a7.length : Int) > 8)) with
    | false =>
      rw [show (decide ((a4.length : Int) > 64) || decide ((a5.length : Int) > 64) || decide ((a6.length : Int) > 4) || decide ((a7.length : Int) > 8)) = true by
        rw [← Bool.not_or, ← Bool.not_or, ← Bool.not_or] at hB
        simpa only [Bool.not_eq_false'] using hB]
      simp only [c_true, Bool.false_and]
    | true =>
      rw [show (decide ((a4.length : Int) > 64) || decide ((a5.length : Int) > 64) || decide ((a6.length : Int) > 4) || decide ((a7.length : Int) > 8)) = false by
        rw [← Bool.not_or, ← Bool.not_or, ← Bool.not_or] at hB
        simpa only [Bool.not_eq_true'] using hB]
      simp only [c_false, Bool.true_and]
      have hr : 1 ≤ a1 ∧ a1 ≤ 13 := by
        simp only [Bool.and_eq_true, decide_eq_true_eq] at hA
        obtain ⟨⟨⟨_, h1, h2⟩, _⟩, _⟩ := hA
        split at h2 <;> omega
      rw [ck_t (pow_rows (by omega) hr.2), f62 _ _ _ hb.b4.1 hb.b4.2]
      simp only [b_some, Int.one_mul]
      cases hC : colsB a0 ((2 : Int) ^ a1.toNat) a4 with
      | false => rfl
      | true =>
        simp only [Bool.not_true, c_false, Bool.true_and]
        have h2 := run_all (step := s18_2 whole a0 a1 a2 a3 a4 a5 a6 a7) a5 (ruleB a0 a2 a3 a4.length) (fun i => (i : Int)) (bad := .inl false) (fin := .inr ())
          (fun i x hx => by
            have hi := lt_of hx
            have hm := hb.b5.2 x (mem_of hx)
            unfold s18_2
            rw [decide_eq_true (by omega : (i : Int) < (a5.length : Int)), c_true, ck_t (by omega), Int.toNat_natCast, getD_of hx, f63 _ _ _ _ _ _ _ _ x hm.1 hm.2, b_some]
            cases ruleB a0 a2 a3 a4.length x with
            | false => rfl
            | true => simp only [Bool.not_true, c_false, c_true]; rw [ck_t (inR_succ hi hb.b5.1)]; rfl)
          (by unfold s18_2; rw [decide_eq_false (by omega)]; rfl)
        have h2' : whole.run (s18_2 whole a0 a1 a2 a3 a4 a5 a6 a7) (0 : Int) = _ := h2
        rw [h2']
        have h1 := run_all (step := s18_1 whole a0 a1 a2 a3 a4 a5 a6 a7) a6 (permB a2 a3 a4.length) (fun i => (i : Int)) (bad := .inl false) (fin := .inr ())
          (fun i x hx => by
            have hi := lt_of hx
            have hm := hb.b6.2 x (mem_of hx)
            unfold s18_1
            rw [decide_eq_true (by omega : (i : Int) < (a6.length : Int)), c_true, ck_t (by omega), Int.toNat_natCast, getD_of hx, f64 _ _ _ _ _ _ _ _ x hm.1.2 hm.2.2, b_some]
            cases permB a2 a3 a4.length x with
            | false => rfl
            | true => simp only [Bool.not_true, c_false, c_true]; rw [ck_t (inR_succ hi hb.b6.1)]; rfl)
          (by unfold s18_1; rw [decide_eq_false (by omega)]; rfl)
        have h1' : whole.run (s18_1 whole a0 a1 a2 a3 a4 a5 a6 a7) (0 : Int) = _ := h1
        rw [h1']
        have h0 := run_all (step := s18_0 whole a0 a1 a2 a3 a4 a5 a6 a7) a7 (lookB a2 a3 a4.length) (fun i => (i : Int)) (bad := .inl false) (fin := .inr ())
          (fun i x hx => by
            have hi := lt_of hx
            have hm := hb.b7.2 x (mem_of hx)
            unfold s18_0
            rw [decide_eq_true (by omega : (i : Int) < (a7.length : Int)), c_true, ck_t (by omega), Int.toNat_natCast, getD_of hx, f65 _ _ _ _ _ _ _ _ x hm.1 hm.2, b_some]
            cases lookB a2 a3 a4.length x with
            | false => rfl
            | true => simp only [Bool.not_true, c_false, c_true]; rw [ck_t (inR_succ hi hb.b7.1)]; rfl)
          (by unfold s18_0; rw [decide_eq_false (by omega)]; rfl)
        have h0' : whole.run (s18_0 whole a0 a1 a2 a3 a4 a5 a6 a7) (0 : Int) = _ := h0
        rw [h0']
        generalize a5.all _ = b5
        generalize a6.all _ = b6
        generalize a7.all _ = b7
        cases b5 <;> cases b6 <;> cases b7 <;> rfl

theorem f15 (hb : Bd a4 a5 a6 a7) : s15 whole a0 a1 a2 a3 a4 a5 a6 a7 = some (validB a0 a1 a2 a3 a4 a5 a6 a7) := by
  unfold s15 validB
  rw [f48, f49]
  simp only [b_some, cond_some, cond_or]
  have hg : (!okF a0 || decide (a1 < 1) || decide (a1 > 13) || decide (a1 > twoF a0) || decide (a2 < 1) || decide (a2 > 64) || decide (a3 < 0) || decide (a3 > 16)) = !(okF a0 && (decide (1 ≤ a1) && decide (a1 ≤ if twoF a0 < 13 then twoF a0 else 13)) && (decide (1 ≤ a2) && decide (a2 ≤ 64)) && (decide (0 ≤ a3) && decide (a3 ≤ 16))) := by
    rw [show decide (a1 < 1) = !decide (1 ≤ a1) by rw [← decide_not]; simp only [decide_eq_decide]; omega, show decide (a2 < 1) = !decide (1 ≤ a2) by rw [← decide_not]; simp only [decide_eq_decide]; omega, show decide (a3 < 0) = !decide (0 ≤ a3) by rw [← decide_not]; simp only [decide_eq_decide]; omega,
      show decide (a2 > 64) = !decide (a2 ≤ 64) by rw [← decide_not]; simp only [decide_eq_decide]; omega, show decide (a3 > 16) = !decide (a3 ≤ 16) by rw [← decide_not]; simp only [decide_eq_decide]; omega]
    have hm : (decide (a1 > 13) || decide (a1 > twoF a0)) = !decide (a1 ≤ if twoF a0 < 13 then twoF a0 else 13) := by
      rw [← decide_not, ← Bool.decide_or]
      simp only [decide_eq_decide]
      split <;> omega
    rw [Bool.or_assoc (!okF a0 || !decide (1 ≤ a1)), hm]
    cases okF a0 <;> cases decide (1 ≤ a1) <;> cases decide (a1 ≤ if twoF a0 < 13 then twoF a0 else 13) <;> cases decide (1 ≤ a2) <;> cases decide (a2 ≤ 64) <;> cases decide (0 ≤ a3) <;> cases decide (a3 ≤ 16) <;> rfl
  rw [hg]
  cases hA : (okF a0 && (decide (1 ≤ a1) && decide (a1 ≤ if twoF a0 < 13 then twoF a0 else 13)) && (decide (1 ≤ a2) && decide (a2 ≤ 64)) && (decide (0 ≤ a3) && decide (a3 ≤ 16))) with
  | false => simp only [Bool.not_false, c_true, Bool.false_and]
  | true =>
    simp only [Bool.not_true, c_false, Bool.true_and]
    cases hB : (!decide ((a4.length : Int) > 64) && !decide ((a5.length : Int) > 64) && !decide ((a6.length : Int) > 4) && !decide ((a7.length : Int) > 8)) with
    | false =>
      rw [show (decide ((a4.length : Int) > 64) || decide ((a5.length : Int) > 64) || decide ((a6.length : Int) > 4) || decide ((a7.length : Int) > 8)) = true by
        rw [← Bool.not_or, ← Bool.not_or, ← Bool.not_or] at hB
        simpa only [Bool.not_eq_false'] using hB]
      simp only [c_true, Bool.false_and]
    | true =>
      rw [show (decide ((a4.length : Int) > 64) || decide ((a5.length : Int) > 64) || decide ((a6.length : Int) > 4) || decide ((a7.length : Int) > 8)) = false by
        rw [← Bool.not_or, ← Bool.not_or, ← Bool.not_or] at hB
        simpa only [Bool.not_eq_true'] using hB]
      simp only [c_false, Bool.true_and]
      have hr : 1 ≤ a1 ∧ a1 ≤ 13 := by
        simp only [Bool.and_eq_true, decide_eq_true_eq] at hA
        obtain ⟨⟨⟨_, h1, h2⟩, _⟩, _⟩ := hA
        split at h2 <;> omega
      have h3 := run_all (step := s15_3 whole a0 a1 a2 a3 a4 a5 a6 a7) a4 (fun c => decide ((c.length : Int) = (2 : Int) ^ a1.toNat) && els a0 c) (fun i => (i : Int)) (bad := .inl false) (fin := .inr ())
        (fun i x hx => by
          have hi := lt_of hx
          have hm := hb.b4.2 x (mem_of hx)
          unfold s15_3
          rw [decide_eq_true (by omega : (i : Int) < (a4.length : Int)), c_true, ck_t (by omega), ck_t (by omega), f28s _ _ _ _ _ _ _ _ (by omega) (by omega), Int.toNat_natCast, getD_of hx, f50 _ _ hm]
          simp only [b_some, cond_some, cond_or]
          rw [ck_t (inR_succ hi hb.b4.1)]
          cases decide ((x.length : Int) = (2 : Int) ^ a1.toNat) <;> cases els a0 x <;> rfl)
        (by unfold s15_3; rw [decide_eq_false (by omega)]; rfl)
      have h3' : whole.run (s15_3 whole a0 a1 a2 a3 a4 a5 a6 a7) (0 : Int) = _ := h3
      rw [h3']
      have h2 := run_all (step := s15_2 whole a0 a1 a2 a3 a4 a5 a6 a7) a5 (ruleB a0 a2 a3 a4.length) (fun i => (i : Int)) (bad := .inl false) (fin := .inr ())
        (fun i x hx => by
          have hi := lt_of hx
          have hm := hb.b5.2 x (mem_of hx)
          unfold s15_2
          rw [decide_eq_true (by omega : (i : Int) < (a5.length : Int)), c_true, ck_t (by omega), Int.toNat_natCast, getD_of hx, f51 _ _ _ _ _ _ _ _ x hm.1 hm.2, b_some]
          cases ruleB a0 a2 a3 a4.length x with
          | false => rfl
          | true => simp only [Bool.not_true, c_false, c_true]; rw [ck_t (inR_succ hi hb.b5.1)]; rfl)
        (by unfold s15_2; rw [decide_eq_false (by omega)]; rfl)
      have h2' : whole.run (s15_2 whole a0 a1 a2 a3 a4 a5 a6 a7) (0 : Int) = _ := h2
      rw [h2']
      have h1 := run_all (step := s15_1 whole a0 a1 a2 a3 a4 a5 a6 a7) a6 (permB a2 a3 a4.length) (fun i => (i : Int)) (bad := .inl false) (fin := .inr ())
        (fun i x hx => by
          have hi := lt_of hx
          have hm := hb.b6.2 x (mem_of hx)
          unfold s15_1
          rw [decide_eq_true (by omega : (i : Int) < (a6.length : Int)), c_true, ck_t (by omega), Int.toNat_natCast, getD_of hx, f52 _ _ _ _ _ _ _ _ x hm.1.2 hm.2.2, b_some]
          cases permB a2 a3 a4.length x with
          | false => rfl
          | true => simp only [Bool.not_true, c_false, c_true]; rw [ck_t (inR_succ hi hb.b6.1)]; rfl)
        (by unfold s15_1; rw [decide_eq_false (by omega)]; rfl)
      have h1' : whole.run (s15_1 whole a0 a1 a2 a3 a4 a5 a6 a7) (0 : Int) = _ := h1
      rw [h1']
      have h0 := run_all (step := s15_0 whole a0 a1 a2 a3 a4 a5 a6 a7) a7 (lookB a2 a3 a4.length) (fun i => (i : Int)) (bad := .inl false) (fin := .inr ())
        (fun i x hx => by
          have hi := lt_of hx
          have hm := hb.b7.2 x (mem_of hx)
          unfold s15_0
          rw [decide_eq_true (by omega : (i : Int) < (a7.length : Int)), c_true, ck_t (by omega), Int.toNat_natCast, getD_of hx, f53 _ _ _ _ _ _ _ _ x hm.1 hm.2, b_some]
          cases lookB a2 a3 a4.length x with
          | false => rfl
          | true => simp only [Bool.not_true, c_false, c_true]; rw [ck_t (inR_succ hi hb.b7.1)]; rfl)
        (by unfold s15_0; rw [decide_eq_false (by omega)]; rfl)
      have h0' : whole.run (s15_0 whole a0 a1 a2 a3 a4 a5 a6 a7) (0 : Int) = _ := h0
      rw [h0']
      unfold colsB
      generalize a4.all _ = b4
      generalize a5.all _ = b5
      generalize a6.all _ = b6
      generalize a7.all _ = b7
      cases b4 <;> cases b5 <;> cases b6 <;> cases b7 <;> rfl
end Go.Proofs.YtkbpafipbhaknaaDoor
