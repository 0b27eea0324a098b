/- Plain: the law of validity, degree and words. -/
import Derived.Test.YtkbpafipbhaknaaDoorQ4E5
namespace Go.Proofs.YtkbpafipbhaknaaDoor
open Go Go.Av
set_option maxRecDepth 100000
set_option linter.unusedVariables false
variable (a0 a1 a2 a3 : Int) (a4 : List (List Int)) (a5 : List Ru) (a6 : List Pm) (a7 : List Lk)

/-- the ranges of what is read -/
structure Rg : Prop where
  r5 : ∀ r ∈ a5, inR .u8 r.1 ∧ ∀ m ∈ r.2, inR .u64 m.1 ∧ ∀ v ∈ m.2, inR .u8 v.1 ∧ inR .i64 v.2
  r6 : ∀ q ∈ a6, ∀ t ∈ q.1 ++ q.2, ∀ v ∈ t, inR .u8 v.1 ∧ inR .i64 v.2
  r7 : ∀ l ∈ a7, (∀ v ∈ l.1, inR .u8 v.1 ∧ inR .i64 v.2) ∧ (∀ v ∈ l.2.1, inR .u8 v.1 ∧ inR .i64 v.2) ∧ inR .u8 l.2.2.1 ∧ inR .i64 l.2.2.2

theorem knB_pos {m p fx : Int} {v : Vr} (h : knB m p fx v = true) : 0 ≤ v.2 := by
  unfold knB at h
  simp only [Bool.and_eq_true, decide_eq_true_eq] at h
  exact h.1
theorem vOK_of {m p fx : Int} {v : Vr} (h : knB m p fx v = true) (hr : inR .u8 v.1 ∧ inR .i64 v.2) : vOK v :=
  ⟨hr.1, knB_pos h, hr.2.2⟩
theorem tup_vars {m p fx n : Int} {ks : List Int} {l : List Vr} (h : tupB m p fx n ks l = true) : (l.length : Int) = n ∧ ∀ v ∈ l, knB m p fx v = true ∧ (ks.any fun x => decide (v.1 = x)) = true := by
  unfold tupB at h
  rw [Bool.and_eq_true, decide_eq_true_eq] at h
  refine ⟨h.1, fun v hv => ?_⟩
  have := List.all_eq_true.1 h.2 v hv
  rwa [Bool.and_eq_true] at this
theorem valid_parts (h : validB a0 a1 a2 a3 a4 a5 a6 a7 = true) : okF a0 = true ∧ (1 ≤ a1 ∧ a1 ≤ 13) ∧ (1 ≤ a2 ∧ a2 ≤ 64) ∧ (0 ≤ a3 ∧ a3 ≤ 16) ∧ (a4.length ≤ 64 ∧ a5.length ≤ 64 ∧ a6.length ≤ 4 ∧ a7.length ≤ 8) ∧ (∀ r ∈ a5, ruleB a0 a2 a3 a4.length r = true) ∧ (∀ q ∈ a6, permB a2 a3 a4.length q = true) ∧ ∀ l ∈ a7, lookB a2 a3 a4.length l = true := by
  have hr := valid_rows _ _ _ _ _ _ _ _ h
  unfold validB at h
  simp only [Bool.and_eq_true, decide_eq_true_eq, Bool.not_eq_true', decide_eq_false_iff_not] at h
  obtain ⟨⟨⟨⟨⟨⟨⟨⟨h1, _⟩, h2⟩, h3⟩, ⟨⟨h4, h5⟩, h6⟩, h7⟩, _⟩, h8⟩, h9⟩, h10⟩ := h
  exact ⟨h1, hr, h2, h3, ⟨by omega, by omega, by omega, by omega⟩, List.all_eq_true.1 h8, List.all_eq_true.1 h9, List.all_eq_true.1 h10⟩
theorem rule_parts {f m p fx : Int} {r : Ru} (h : ruleB f m p fx r = true) : (1 ≤ r.1 ∧ r.1 ≤ 4) ∧ r.2.length ≤ 64 ∧ ∀ mo ∈ r.2, mo.1 < ordP f ∧ mo.2.length ≤ 8 ∧ ∀ v ∈ mo.2, varB m p fx (edge r.1) v = true := by
  unfold ruleB at h
  simp only [Bool.and_eq_true, Bool.not_eq_true', decide_eq_false_iff_not] at h
  obtain ⟨⟨⟨⟨h1, h2⟩, h3⟩, _⟩, h4⟩ := h
  refine ⟨by omega, by omega, fun mo hm => ?_⟩
  have h5 := List.all_eq_true.1 h4 mo hm
  unfold monB at h5
  simp only [Bool.and_eq_true, Bool.not_eq_true', decide_eq_false_iff_not] at h5
  exact ⟨by omega, by omega, List.all_eq_true.1 h5.2⟩
theorem perm_parts {m p fx : Int} {q : Pm} (h : permB m p fx q = true) : (1 ≤ q.1.length ∧ q.1.length ≤ 4 ∧ q.2.length = q.1.length) ∧ (1 ≤ (q.1.getD 0 []).length ∧ (q.1.getD 0 []).length ≤ 4) ∧ ∀ t ∈ q.1 ++ q.2, tupB m p fx (q.1.getD 0 []).length [1, 3] t = true := by
  unfold permB at h
  simp only [Bool.and_eq_true, decide_eq_true_eq] at h
  obtain ⟨⟨⟨⟨h1, h2⟩, h3⟩, h4, h5⟩, h6⟩ := h
  exact ⟨by omega, by omega, List.all_eq_true.1 h6⟩
theorem look_parts {m p fx : Int} {l : Lk} (h : lookB m p fx l = true) : (1 ≤ l.1.length ∧ l.1.length ≤ 4) ∧ l.2.2.1 = 1 ∧ knB m p fx l.2.2 = true ∧ tupB m p fx l.1.length [1, 3] l.1 = true ∧ tupB m p fx l.1.length [3] l.2.1 = true := by
  unfold lookB at h
  simp only [Bool.and_eq_true, decide_eq_true_eq] at h
  obtain ⟨⟨⟨⟨⟨h1, h2⟩, h3⟩, h4⟩, h5⟩, h6⟩ := h
  exact ⟨by omega, h3, h4, h5, h6⟩
theorem wo_of (h : validB a0 a1 a2 a3 a4 a5 a6 a7 = true) (hg : Rg a5 a6 a7) : Wo a5 a6 a7 := by
  obtain ⟨_, _, _, _, ⟨_, h5, h6, h7⟩, g5, g6, g7⟩ := valid_parts _ _ _ _ _ _ _ _ h
  refine ⟨⟨h5, fun r hr => ?_⟩, ⟨h6, fun q hq => ?_⟩, ⟨h7, fun l hl => ?_⟩⟩
  · obtain ⟨_, r1, r2⟩ := rule_parts (g5 r hr)
    obtain ⟨s1, s2⟩ := hg.r5 r hr
    refine ⟨s1, r1, fun m hm => ⟨(s2 m hm).1, (r2 m hm).2.1, fun v hv => ?_⟩⟩
    have h9 := (r2 m hm).2.2 v hv
    unfold varB at h9
    rw [Bool.and_eq_true] at h9
    exact vOK_of h9.1 ((s2 m hm).2 v hv)
  · obtain ⟨q1, q2, q3⟩ := perm_parts (g6 q hq)
    refine ⟨q1, q2.2, fun t ht => ?_⟩
    obtain ⟨t1, t2⟩ := tup_vars (q3 t ht)
    exact ⟨by omega, fun v hv => vOK_of (t2 v hv).1 (hg.r6 q hq t ht v hv)⟩
  · obtain ⟨l1, l2, l3, l4, l5⟩ := look_parts (g7 l hl)
    obtain ⟨t1, t2⟩ := tup_vars l4
    obtain ⟨u1, u2⟩ := tup_vars l5
    obtain ⟨s1, s2, s3⟩ := hg.r7 l hl
    exact ⟨⟨by omega, fun v hv => vOK_of (t2 v hv).1 (s1 v hv)⟩, ⟨by omega, fun v hv => vOK_of (u2 v hv).1 (s2 v hv)⟩, vOK_of l3 s3⟩

def wordsOr : List Int := bif validB a0 a1 a2 a3 a4 a5 a6 a7 then wordsV a0 a1 a2 a3 a4 a5 a6 a7 else []
theorem ints_ok (h : validB a0 a1 a2 a3 a4 a5 a6 a7 = true) : inR .u64 a0 ∧ inR .u64 a1 ∧ inR .u64 a2 ∧ inR .u64 a3 ∧ inR .u64 (a4.length : Int) ∧ inR .u64 (a5.length : Int) ∧ inR .u64 (a6.length : Int) ∧ inR .u64 (a7.length : Int) := by
  obtain ⟨h0, h1, h2, h3, ⟨h4, h5, h6, h7⟩, _⟩ := valid_parts _ _ _ _ _ _ _ _ h
  have := okF_cases h0
  simp only [inR]
  omega
theorem ruW_all (hw : Wo a5 a6 a7) : (a5.flatMap ruW).length ≤ 73856 := by
  have := length_flatMap_le ruW 1154 a5 (fun r hr => ruW_len (hw.w5.2 r hr).2.1 (fun m hm => ((hw.w5.2 r hr).2.2 m hm).2.1))
  have := hw.w5.1
  omega
theorem pmW_all (hw : Wo a5 a6 a7) : (a6.flatMap pmW).length ≤ 264 := by
  have := length_flatMap_le pmW 66 a6 (fun q hq => pmW_len ⟨(hw.w6.2 q hq).1.2.1, (hw.w6.2 q hq).1.2.2⟩ (fun t ht => ((hw.w6.2 q hq).2.2 t ht).1))
  have := hw.w6.1
  omega
theorem lkW_all (hw : Wo a5 a6 a7) : (a7.flatMap lkW).length ≤ 152 := by
  have := length_flatMap_le lkW 19 a7 (fun l hl => lkW_len (hw.w7.2 l hl).1.1 (hw.w7.2 l hl).2.1.1)
  have := hw.w7.1
  omega
theorem f16 (hb : Bd a4 a5 a6 a7) (hg : Rg a5 a6 a7) : s16 whole a0 a1 a2 a3 a4 a5 a6 a7 = some (wordsOr a0 a1 a2 a3 a4 a5 a6 a7) := by
  unfold s16 wordsOr
  rw [f18 _ _ _ _ _ _ _ _ hb, b_some]
  cases hv : validB a0 a1 a2 a3 a4 a5 a6 a7 with
  | false => rfl
  | true =>
    have hw := wo_of _ _ _ _ _ _ _ _ hv hg
    have hi := ints_ok _ _ _ _ _ _ _ _ hv
    have h5 := ruW_all _ _ _ hw
    have h6 := pmW_all _ _ _ hw
    rw [Bool.not_true, c_false, c_true, f54 _ _ (fun y hy => by
      simp only [List.mem_cons, List.not_mem_nil, or_false] at hy
      rcases hy with rfl | rfl | rfl | rfl | rfl | rfl | rfl | rfl
      · exact hi.1
      · exact hi.2.1
      · exact hi.2.2.1
      · exact hi.2.2.2.1
      · exact hi.2.2.2.2.1
      · exact hi.2.2.2.2.2.1
      · exact hi.2.2.2.2.2.2.1
      · exact hi.2.2.2.2.2.2.2) (by simp only [List.length_cons, List.length_nil]; omega), b_some, run16_3 _ _ _ hw _ (by simp only [List.length_append, List.length_cons, List.length_nil]; omega)]
    simp only [b_some]
    rw [run16_1 _ _ _ hw _ (by simp only [List.length_append, List.length_cons, List.length_nil]; omega)]
    simp only [b_some]
    rw [run16_0 _ _ _ hw _ (by simp only [List.length_append, List.length_cons, List.length_nil]; omega)]
    rfl
theorem f21 (hb : Bd a4 a5 a6 a7) (hg : Rg a5 a6 a7) : s21 whole a0 a1 a2 a3 a4 a5 a6 a7 = some (wordsOr a0 a1 a2 a3 a4 a5 a6 a7) := by
  unfold s21 wordsOr
  rw [f15 _ _ _ _ _ _ _ _ hb, b_some]
  cases hv : validB a0 a1 a2 a3 a4 a5 a6 a7 with
  | false => rfl
  | true =>
    have hw := wo_of _ _ _ _ _ _ _ _ hv hg
    have hi := ints_ok _ _ _ _ _ _ _ _ hv
    have h5 := ruW_all _ _ _ hw
    have h6 := pmW_all _ _ _ hw
    rw [Bool.not_true, c_false, c_true, ck_t hi.1, ck_t hi.2.1, ck_t hi.2.2.1, ck_t hi.2.2.2.1, ck_t hi.2.2.2.2.1, ck_t hi.2.2.2.2.2.1, ck_t hi.2.2.2.2.2.2.1, ck_t hi.2.2.2.2.2.2.2, run21_4 _ _ _ hw _ (by simp only [List.length_cons, List.length_nil]; omega)]
    simp only [b_some]
    rw [run21_1 _ _ _ hw _ (by simp only [List.length_append, List.length_cons, List.length_nil]; omega)]
    simp only [b_some]
    rw [run21_0 _ _ _ hw _ (by simp only [List.length_append, List.length_cons, List.length_nil]; omega)]
    rfl
theorem words_len (hg : Rg a5 a6 a7) : (wordsOr a0 a1 a2 a3 a4 a5 a6 a7).length ≤ BD := by
  have := BD_ge
  unfold wordsOr
  cases hv : validB a0 a1 a2 a3 a4 a5 a6 a7 with
  | false => exact Nat.zero_le _
  | true =>
    have hw := wo_of _ _ _ _ _ _ _ _ hv hg
    have h5 := ruW_all _ _ _ hw
    have h6 := pmW_all _ _ _ hw
    have h7 := lkW_all _ _ _ hw
    unfold wordsV
    simp only [c_true, List.length_append, List.length_cons, List.length_nil]
    omega

/-! ### degrees -/
def stR (d : Int) (r : Ru) : Int := if degM r.2 > d then degM r.2 else d
def stP (d : Int) (q : Pm) : Int := if (q.1.length : Int) + 1 > d then (q.1.length : Int) + 1 else d
def degR (l : List Ru) : Int := l.foldl stR 1
def degP (l : List Pm) (d : Int) : Int := l.foldl stP d
def degV : Int := bif decide ((a7.length : Int) > 0) then (if (3 : Int) > degP a6 (degR a5) then 3 else degP a6 (degR a5)) else degP a6 (degR a5)
def degOr : Int := bif validB a0 a1 a2 a3 a4 a5 a6 a7 then degV a5 a6 a7 else 0
theorem f19 (hb : Bd a4 a5 a6 a7) : s19 whole a0 a1 a2 a3 a4 a5 a6 a7 = some (degOr a0 a1 a2 a3 a4 a5 a6 a7) := by
  unfold s19 degOr
  rw [f18 _ _ _ _ _ _ _ _ hb, b_some]
  cases hv : validB a0 a1 a2 a3 a4 a5 a6 a7 with
  | false => rfl
  | true =>
    rw [Bool.not_true, c_false, c_true]
    have h1 := run_fold (step := s19_1 whole a5) a5 (fun _ _ => True) stR (fun k x => (x, (k : Int))) (x0 := 1) (b := degR a5) trivial
      (fun k r x hr _ => by
        have hk := lt_of hr
        have hrr := hb.b5.2 r (mem_of hr)
        unfold s19_1
        rw [decide_eq_true (by first | omega | (simp only []; omega)), c_true, ck_t (by first | omega | (simp only []; omega))]
        simp only [Int.toNat_natCast, getD_of hr]
        rw [f66 r.2 hrr.1 hrr.2, b_some, ck_t (inR_succ hk hb.b5.1)]
        exact ⟨rfl, trivial⟩)
      (fun _ => by unfold s19_1; rw [decide_eq_false (by first | omega | (simp only []; omega))]; rfl)
    have h1' : whole.run (s19_1 whole a5) ((1 : Int), (0 : Int)) = _ := h1.1
    rw [h1']
    simp only [b_some]
    have h2 := run_fold (step := s19_0 whole a6) a6 (fun _ _ => True) stP (fun k x => (x, (k : Int))) (x0 := degR a5) (b := degP a6 (degR a5)) trivial
      (fun k q x hq _ => by
        have hk := lt_of hq
        have hqq' : q.1.length ≤ 140737488355328 := (hb.b6.2 q (mem_of hq)).1.1
        unfold s19_0
        rw [decide_eq_true (by first | omega | (simp only []; omega)), c_true, ck_t (by first | omega | (simp only []; omega))]
        simp only [Int.toNat_natCast, getD_of hq]
        rw [ck_t (by simp only [inR]; omega), ck_t (inR_succ hk hb.b6.1)]
        exact ⟨rfl, trivial⟩)
      (fun _ => by unfold s19_0; rw [decide_eq_false (by first | omega | (simp only []; omega))]; rfl)
    have h2' : whole.run (s19_0 whole a6) (degR a5, (0 : Int)) = _ := h2.1
    rw [h2']
    unfold degV
    simp only [b_some, cond_some]
theorem f20 (hb : Bd a4 a5 a6 a7) : s20 whole a0 a1 a2 a3 a4 a5 a6 a7 = some (degOr a0 a1 a2 a3 a4 a5 a6 a7) := by
  unfold s20 degOr
  rw [f15 _ _ _ _ _ _ _ _ hb, b_some]
  cases hv : validB a0 a1 a2 a3 a4 a5 a6 a7 with
  | false => rfl
  | true =>
    rw [Bool.not_true, c_false, c_true]
    have h1 := run_fold (step := s20_1 whole a5) a5 (fun _ _ => True) stR (fun k x => (x, (k : Int))) (x0 := 1) (b := degR a5) trivial
      (fun k r x hr _ => by
        have hk := lt_of hr
        have hrr := hb.b5.2 r (mem_of hr)
        unfold s20_1
        rw [decide_eq_true (by first | omega | (simp only []; omega)), c_true, ck_t (by first | omega | (simp only []; omega))]
        simp only [Int.toNat_natCast, getD_of hr]
        rw [f67 r.2 hrr.1 hrr.2, b_some, ck_t (inR_succ hk hb.b5.1)]
        exact ⟨rfl, trivial⟩)
      (fun _ => by unfold s20_1; rw [decide_eq_false (by first | omega | (simp only []; omega))]; rfl)
    have h1' : whole.run (s20_1 whole a5) ((1 : Int), (0 : Int)) = _ := h1.1
    rw [h1']
    simp only [b_some]
    have h2 := run_fold (step := s20_0 whole a6) a6 (fun _ _ => True) stP (fun k x => (x, (k : Int))) (x0 := degR a5) (b := degP a6 (degR a5)) trivial
      (fun k q x hq _ => by
        have hk := lt_of hq
        have hqq' : q.1.length ≤ 140737488355328 := (hb.b6.2 q (mem_of hq)).1.1
        unfold s20_0
        rw [decide_eq_true (by first | omega | (simp only []; omega)), c_true, ck_t (by first | omega | (simp only []; omega))]
        simp only [Int.toNat_natCast, getD_of hq]
        rw [ck_t (by simp only [inR]; omega), ck_t (inR_succ hk hb.b6.1)]
        rw [Int.add_comm (1 : Int)]
        exact ⟨rfl, trivial⟩)
      (fun _ => by unfold s20_0; rw [decide_eq_false (by first | omega | (simp only []; omega))]; rfl)
    have h2' : whole.run (s20_0 whole a6) (degR a5, (0 : Int)) = _ := h2.1
    rw [h2']
    unfold degV
    simp only [b_some, cond_some]

theorem lawValid (hb : Bd a4 a5 a6 a7) (hg : Rg a5 a6 a7) : s5 whole a0 a1 a2 a3 a4 a5 a6 a7 = some true := by
  unfold s5
  obtain ⟨v9, h9⟩ := f9 a0 a1 a2 a3 a4 a5 a6 a7 hb
  rw [h9, live13, f18 _ _ _ _ _ _ _ _ hb, f15 _ _ _ _ _ _ _ _ hb, f19 _ _ _ _ _ _ _ _ hb, f20 _ _ _ _ _ _ _ _ hb, f16 _ _ _ _ _ _ _ _ hb hg, f21 _ _ _ _ _ _ _ _ hb hg]
  simp only [b_some, f14 _ (words_len _ _ _ _ _ _ _ _ hg), decide_true, beq_self_eq_true, c_true, cond_some]
  cases v9 <;> rfl
end Go.Proofs.YtkbpafipbhaknaaDoor
