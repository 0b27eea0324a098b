/- Plain: two valid systems have the same words exactly if they are the same but for the fixed columns' values. -/
import Derived.Test.YtkbpafipbhaknaaDoorQ4E7
namespace Go.Proofs.YtkbpafipbhaknaaDoor
open Go Go.Av
set_option maxRecDepth 100000
set_option linter.unusedVariables false

/-! ### lists compared -/
theorem zip_all {α : Type} [DecidableEq α] : ∀ (a b : List α), a.length = b.length → (a.zip b).all (fun x => decide (x.1 = x.2)) = decide (a = b)
  | [], [], _ => by simp
  | [], _ :: _, h => by cases h
  | _ :: _, [], h => by cases h
  | x :: a, y :: b, h => by
    rw [List.zip_cons_cons, List.all_cons, zip_all a b (by simpa using h)]
    by_cases h1 : x = y <;> by_cases h2 : a = b <;> simp [h1, h2]
theorem run_eqs {α : Type} [DecidableEq α] {step : Int → Option (Int ⊕ (Bool ⊕ Unit))} (a b : List α) (hl : a.length = b.length)
    (h : ∀ (i : Nat) x y, a[i]? = some x → b[i]? = some y → step (i : Int) = some (bif decide (x = y) then .inl ((i + 1 : Nat) : Int) else .inr (.inl false))) (he : step (a.length : Int) = some (.inr (.inr ()))) :
    whole.run step (0 : Int) = some (bif decide (a = b) then .inr () else .inl false) := by
  have hz : (a.zip b).length = a.length := by rw [List.length_zip]; omega
  have h1 := run_all (step := step) (a.zip b) (fun x => decide (x.1 = x.2)) (fun i => (i : Int)) (bad := .inl false) (fin := .inr ())
    (fun i x hx => by
      rw [List.getElem?_zip_eq_some] at hx
      exact h i x.1 x.2 hx.1 hx.2) (by rw [hz]; exact he)
  rw [zip_all a b hl] at h1
  exact h1
theorem len_ne {α : Type} {a b : List α} (h : ¬ (a.length : Int) = (b.length : Int)) : a ≠ b := fun e => h (by rw [e])

theorem f14' (a b : List Int) (ha : a.length ≤ BD) : s14 whole a b = some (decide (a = b)) := by
  unfold s14
  by_cases hl : (a.length : Int) = (b.length : Int)
  · have hl' : a.length = b.length := by omega
    rw [decide_eq_true hl, Bool.not_true, c_false, run_eqs (step := s14_0 whole a b) a b hl' (fun i x y hx hy => by
      have hi := lt_of hx
      unfold s14_0
      rw [decide_eq_true (by omega : (i : Int) < (a.length : Int)), c_true, ck_t (by omega), ck_t (by omega), Int.toNat_natCast, getD_of hx, getD_of hy]
      cases decide (x = y) with
      | false => rfl
      | true => rw [Bool.not_true, c_false, ck_t (inR_succ hi ha)]; rfl) (by unfold s14_0; rw [decide_eq_false (by omega)]; rfl)]
    cases decide (a = b) <;> rfl
  · rw [decide_eq_false hl, decide_eq_false (len_ne hl)]; rfl
theorem pair_dec (x y : Vr) : (decide (x.1 = y.1) && (decide (x.2 = y.2) && true)) = decide (x = y) := by
  rw [Bool.and_true]
  by_cases h1 : x.1 = y.1 <;> by_cases h2 : x.2 = y.2 <;> simp [Prod.ext_iff, h1, h2]
theorem f59 (a b : List Vr) (ha : a.length ≤ BD) : s59 whole a b = some (decide (a = b)) := by
  unfold s59
  by_cases hl : (a.length : Int) = (b.length : Int)
  · have hl' : a.length = b.length := by omega
    rw [decide_eq_true hl, Bool.not_true, c_false, run_eqs (step := s59_0 whole a b) a b hl' (fun i x y hx hy => by
      have hi := lt_of hx
      unfold s59_0
      rw [decide_eq_true (by omega : (i : Int) < (a.length : Int)), c_true, ck_t (by omega), ck_t (by omega), Int.toNat_natCast, getD_of hx, getD_of hy, pair_dec]
      cases decide (x = y) with
      | false => rfl
      | true => rw [Bool.not_true, c_false, ck_t (inR_succ hi ha)]; rfl) (by unfold s59_0; rw [decide_eq_false (by omega)]; rfl)]
    cases decide (a = b) <;> rfl
  · rw [decide_eq_false hl, decide_eq_false (len_ne hl)]; rfl
theorem f104 (a b : List Vr) (ha : a.length ≤ BD) : s104 whole a b = some (decide (a = b)) := by
  unfold s104
  by_cases hl : (a.length : Int) = (b.length : Int)
  · have hl' : a.length = b.length := by omega
    rw [decide_eq_true hl, Bool.not_true, c_false, run_eqs (step := s104_0 whole a b) a b hl' (fun i x y hx hy => by
      have hi := lt_of hx
      unfold s104_0
      rw [decide_eq_true (by omega : (i : Int) < (a.length : Int)), c_true, ck_t (by omega), ck_t (by omega), Int.toNat_natCast, getD_of hx, getD_of hy, pair_dec]
      cases decide (x = y) with
      | false => rfl
      | true => rw [Bool.not_true, c_false, ck_t (inR_succ hi ha)]; rfl) (by unfold s104_0; rw [decide_eq_false (by omega)]; rfl)]
    cases decide (a = b) <;> rfl
  · rw [decide_eq_false hl, decide_eq_false (len_ne hl)]; rfl
theorem f58 (a b : List (List Vr)) (ha : a.length ≤ BD) (hv : ∀ t ∈ a, t.length ≤ BD) : s58 whole a b = some (decide (a = b)) := by
  unfold s58
  by_cases hl : (a.length : Int) = (b.length : Int)
  · have hl' : a.length = b.length := by omega
    rw [decide_eq_true hl, Bool.not_true, c_false, run_eqs (step := s58_0 whole a b) a b hl' (fun i x y hx hy => by
      have hi := lt_of hx
      unfold s58_0
      rw [decide_eq_true (by omega : (i : Int) < (a.length : Int)), c_true, ck_t (by omega), ck_t (by omega), Int.toNat_natCast, getD_of hx, getD_of hy, f59 x y (hv x (mem_of hx)), b_some]
      cases decide (x = y) with
      | false => rfl
      | true => rw [Bool.not_true, c_false, ck_t (inR_succ hi ha)]; rfl) (by unfold s58_0; rw [decide_eq_false (by omega)]; rfl)]
    cases decide (a = b) <;> rfl
  · rw [decide_eq_false hl, decide_eq_false (len_ne hl)]; rfl
theorem pair_or {α β : Type} [DecidableEq α] [DecidableEq β] (x y : α × β) : (bif (!(decide (x.1 = y.1))) then some true else some (!(decide (x.2 = y.2)))) = some (!(decide (x = y))) := by
  by_cases h1 : x.1 = y.1 <;> by_cases h2 : x.2 = y.2 <;> simp [Prod.ext_iff, h1, h2]
theorem f57 (a b : List Mo) (ha : a.length ≤ BD) (hv : ∀ t ∈ a, t.2.length ≤ BD) : s57 whole a b = some (decide (a = b)) := by
  unfold s57
  by_cases hl : (a.length : Int) = (b.length : Int)
  · have hl' : a.length = b.length := by omega
    rw [decide_eq_true hl, Bool.not_true, c_false, run_eqs (step := s57_0 whole a b) a b hl' (fun i x y hx hy => by
      have hi := lt_of hx
      unfold s57_0
      rw [decide_eq_true (by omega : (i : Int) < (a.length : Int)), c_true, ck_t (by omega), ck_t (by omega), ck_t (by omega), ck_t (by omega), Int.toNat_natCast, getD_of hx, getD_of hy, f104 x.2 y.2 (hv x (mem_of hx)), b_some, pair_or, b_some]
      cases decide (x = y) with
      | false => rfl
      | true => rw [Bool.not_true, c_false, ck_t (inR_succ hi ha)]; rfl) (by unfold s57_0; rw [decide_eq_false (by omega)]; rfl)]
    cases decide (a = b) <;> rfl
  · rw [decide_eq_false hl, decide_eq_false (len_ne hl)]; rfl

/-! ### the same shape -/
variable (a0 a1 a2 a3 : Int) (a4 : List (List Int)) (a5 : List Ru) (a6 : List Pm) (a7 : List Lk) (b0 b1 b2 b3 : Int) (b4 : List (List Int)) (b5 : List Ru) (b6 : List Pm) (b7 : List Lk)

theorem run17_2 (hb : Bd a4 a5 a6 a7) (hl : a5.length = b5.length) : whole.run (s17_2 whole a5 b5) (0 : Int) = some (bif decide (a5 = b5) then .inr () else .inl false) :=
  run_eqs a5 b5 hl (fun i x y hx hy => by
    have hi := lt_of hx
    have hxx := hb.b5.2 x (mem_of hx)
    unfold s17_2
    rw [decide_eq_true (by omega : (i : Int) < (a5.length : Int)), c_true, ck_t (by omega), ck_t (by omega), ck_t (by omega), ck_t (by omega), Int.toNat_natCast, getD_of hx, getD_of hy, f57 x.2 y.2 hxx.1 hxx.2, b_some, pair_or, b_some]
    cases decide (x = y) with
    | false => rfl
    | true => rw [Bool.not_true, c_false, ck_t (inR_succ hi hb.b5.1)]; rfl) (by unfold s17_2; rw [decide_eq_false (by omega)]; rfl)
theorem run17_1 (hb : Bd a4 a5 a6 a7) (hl : a6.length = b6.length) : whole.run (s17_1 whole a6 b6) (0 : Int) = some (bif decide (a6 = b6) then .inr () else .inl false) :=
  run_eqs a6 b6 hl (fun i x y hx hy => by
    have hi := lt_of hx
    have hxx := hb.b6.2 x (mem_of hx)
    unfold s17_1
    rw [decide_eq_true (by omega : (i : Int) < (a6.length : Int)), c_true, ck_t (by omega), ck_t (by omega), Int.toNat_natCast, getD_of hx, getD_of hy, f58 x.1 y.1 hxx.1.1 hxx.1.2, b_some, ck_t (by omega), ck_t (by omega), f58 x.2 y.2 hxx.2.1 hxx.2.2, b_some, pair_or, b_some]
    cases decide (x = y) with
    | false => rfl
    | true => rw [Bool.not_true, c_false, ck_t (inR_succ hi hb.b6.1)]; rfl) (by unfold s17_1; rw [decide_eq_false (by omega)]; rfl)
theorem look_or (x y : Lk) : (((bif !(decide (x.1 = y.1)) then some true else some (!(decide (x.2.1 = y.2.1)))).bind fun y19 => bif y19 then some true else some (!(decide (x.2.2.1 = y.2.2.1) && (decide (x.2.2.2 = y.2.2.2) && true))))) = some (!(decide (x = y))) := by
  by_cases h1 : x.1 = y.1 <;> by_cases h2 : x.2.1 = y.2.1 <;> by_cases h3 : x.2.2.1 = y.2.2.1 <;> by_cases h4 : x.2.2.2 = y.2.2.2 <;> simp [Prod.ext_iff, h1, h2, h3, h4]
theorem run17_0 (hb : Bd a4 a5 a6 a7) (hl : a7.length = b7.length) : whole.run (s17_0 whole a7 b7) (0 : Int) = some (bif decide (a7 = b7) then .inr () else .inl false) :=
  run_eqs a7 b7 hl (fun i x y hx hy => by
    have hi := lt_of hx
    have hxx := hb.b7.2 x (mem_of hx)
    unfold s17_0
    rw [decide_eq_true (by omega : (i : Int) < (a7.length : Int)), c_true, ck_t (by omega), ck_t (by omega), Int.toNat_natCast, getD_of hx, getD_of hy, f59 x.1 y.1 hxx.1, b_some, f59 x.2.1 y.2.1 hxx.2, b_some]
    have e := look_or x y
    generalize hq : (bif !(decide (x.1 = y.1)) then some true else some (!(decide (x.2.1 = y.2.1)))) = q at e ⊢
    cases q with
    | none => cases e
    | some q =>
      rw [b_some] at e ⊢
      rw [e, b_some]
      cases decide (x = y) with
      | false => rfl
      | true => rw [Bool.not_true, c_false, ck_t (inR_succ hi hb.b7.1)]; rfl) (by unfold s17_0; rw [decide_eq_false (by omega)]; rfl)

def shape : Prop := (a0 = b0 ∧ a1 = b1 ∧ a2 = b2 ∧ a3 = b3 ∧ a4.length = b4.length) ∧ a5 = b5 ∧ a6 = b6 ∧ a7 = b7
theorem or_step (p q : Bool) : (bif p then some true else some q) = some (p || q) := by cases p <;> rfl
theorem f17 (hb : Bd a4 a5 a6 a7) : ∃ r, s17 whole a0 a1 a2 a3 a4 a5 a6 a7 b0 b1 b2 b3 b4 b5 b6 b7 = some r ∧ (r = true ↔ shape a0 a1 a2 a3 a4 a5 a6 a7 b0 b1 b2 b3 b4 b5 b6 b7) := by
  unfold s17
  simp only [or_step, b_some]
  generalize hc : (!(decide (a0 = b0)) || !(decide (a1 = b1)) || !(decide (a2 = b2)) || !(decide (a3 = b3)) || !(decide ((a4.length : Int) = (b4.length : Int))) || !(decide ((a5.length : Int) = (b5.length : Int))) || !(decide ((a6.length : Int) = (b6.length : Int))) || !(decide ((a7.length : Int) = (b7.length : Int)))) = c
  cases c with
  | true =>
    refine ⟨false, rfl, by simp, fun h => ?_⟩
    obtain ⟨⟨h0, h1, h2, h3, h4⟩, h5, h6, h7⟩ := h
    subst h5 h6 h7 h0 h1 h2 h3
    rw [h4] at hc
    simp at hc
  | false =>
    simp only [Bool.or_eq_false_iff, Bool.not_eq_false', decide_eq_true_eq] at hc
    obtain ⟨⟨⟨⟨⟨⟨⟨h0, h1⟩, h2⟩, h3⟩, h4⟩, h5⟩, h6⟩, h7⟩ := hc
    have h4 : a4.length = b4.length := by omega
    rw [c_false, run17_2 _ _ _ _ _ hb (by omega), run17_1 _ _ _ _ _ hb (by omega), run17_0 _ _ _ _ _ hb (by omega)]
    by_cases e5 : a5 = b5
    · rw [decide_eq_true e5]
      by_cases e6 : a6 = b6
      · rw [decide_eq_true e6]
        by_cases e7 : a7 = b7
        · rw [decide_eq_true e7]
          exact ⟨true, rfl, fun _ => ⟨⟨h0, h1, h2, h3, h4⟩, e5, e6, e7⟩, fun _ => rfl⟩
        · rw [decide_eq_false e7]
          exact ⟨false, rfl, by simp, fun h => (e7 h.2.2.2).elim⟩
      · rw [decide_eq_false e6]
        exact ⟨false, rfl, by simp, fun h => (e6 h.2.2.1).elim⟩
    · rw [decide_eq_false e5]
      exact ⟨false, rfl, by simp, fun h => (e5 h.2.1).elim⟩

/-! ### words are told apart -/
def PC {α : Type} (enc : α → List Int) (P : α → Prop) : Prop := ∀ x y, P x → P y → ∀ l l', enc x ++ l = enc y ++ l' → x = y ∧ l = l'
theorem PC.flat {α : Type} {enc : α → List Int} {P : α → Prop} (h : PC enc P) : ∀ (xs ys : List α), xs.length = ys.length → (∀ x ∈ xs, P x) → (∀ y ∈ ys, P y) → ∀ l l', xs.flatMap enc ++ l = ys.flatMap enc ++ l' → xs = ys ∧ l = l'
  | [], [], _, _, _, l, l', he => ⟨rfl, he⟩
  | [], _ :: _, hl, _, _, _, _, _ => by cases hl
  | _ :: _, [], hl, _, _, _, _, _ => by cases hl
  | x :: xs, y :: ys, hl, hx, hy, l, l', he => by
    rw [List.flatMap_cons, List.flatMap_cons, List.append_assoc, List.append_assoc] at he
    obtain ⟨rfl, h2⟩ := h x y (hx x (by simp)) (hy y (by simp)) _ _ he
    obtain ⟨rfl, h4⟩ := h.flat xs ys (by simpa using hl) (fun z hz => hx z (by simp [hz])) (fun z hz => hy z (by simp [hz])) _ _ h2
    exact ⟨rfl, h4⟩
theorem pc_v : PC (fun v : Vr => [v.1, v.2]) (fun _ => True) := by
  intro x y _ _ l l' h
  simp only [List.cons_append, List.nil_append, List.cons.injEq] at h
  exact ⟨Prod.ext h.1 h.2.1, h.2.2⟩
theorem vw_inj {x y l l' : List _} (hl : x.length = y.length) (h : vw x ++ l = vw y ++ l') : x = y ∧ l = l' :=
  pc_v.flat x y hl (fun _ _ => trivial) (fun _ _ => trivial) l l' h
theorem pc_mo : PC moW (fun _ => True) := by
  intro x y _ _ l l' h
  unfold moW at h
  simp only [List.cons_append, List.nil_append, List.cons.injEq] at h
  obtain ⟨h1, h2, h3⟩ := h
  obtain ⟨h4, h5⟩ := vw_inj (by omega) h3
  exact ⟨Prod.ext h1 h4, h5⟩
theorem pc_ru : PC ruW (fun _ => True) := by
  intro x y _ _ l l' h
  unfold ruW at h
  simp only [List.cons_append, List.nil_append, List.cons.injEq] at h
  obtain ⟨h1, h2, h3⟩ := h
  obtain ⟨h4, h5⟩ := pc_mo.flat _ _ (by omega) (fun _ _ => trivial) (fun _ _ => trivial) _ _ h3
  exact ⟨Prod.ext h1 h4, h5⟩
theorem pc_vw (n : Nat) : PC vw (fun t => t.length = n) := fun x y hx hy l l' h => vw_inj (hx.trans hy.symm) h
def pmK (q : Pm) : Prop := q.2.length = q.1.length ∧ ∀ t ∈ q.1 ++ q.2, t.length = (q.1.getD 0 []).length
theorem pc_pm : PC pmW pmK := by
  intro x y hx hy l l' h
  unfold pmW at h
  simp only [List.cons_append, List.nil_append, List.cons.injEq] at h
  obtain ⟨h1, h2, h3⟩ := h
  have h2 : (x.1.getD 0 []).length = (y.1.getD 0 []).length := by omega
  have h1 : x.1.length = y.1.length := by omega
  have hx1 := hx.1
  have hy1 := hy.1
  obtain ⟨h4, h5⟩ := (pc_vw (x.1.getD 0 []).length).flat (x.1 ++ x.2) (y.1 ++ y.2) (by rw [List.length_append, List.length_append]; omega) hx.2 (fun t ht => (hy.2 t ht).trans h2.symm) _ _ h3
  obtain ⟨h6, h7⟩ := List.append_inj h4 h1
  exact ⟨Prod.ext h6 h7, h5⟩
def lkK (l : Lk) : Prop := l.2.1.length = l.1.length
theorem pc_lk : PC lkW lkK := by
  intro x y hx hy l l' h
  unfold lkW at h
  simp only [List.append_assoc, List.cons_append, List.nil_append, List.cons.injEq] at h
  obtain ⟨h1, h2⟩ := h
  have hx1 : x.2.1.length = x.1.length := hx
  have hy1 : y.2.1.length = y.1.length := hy
  obtain ⟨h3, h4⟩ := vw_inj (by omega) h2
  obtain ⟨h5, h6⟩ := vw_inj (by omega) h4
  obtain ⟨h7, h8⟩ := vw_inj (x := [x.2.2]) (y := [y.2.2]) rfl h6
  exact ⟨Prod.ext h3 (Prod.ext h5 (List.cons.inj h7).1), h8⟩
theorem kept (h : validB a0 a1 a2 a3 a4 a5 a6 a7 = true) : (∀ q ∈ a6, pmK q) ∧ ∀ l ∈ a7, lkK l := by
  obtain ⟨_, _, _, _, _, _, g6, g7⟩ := valid_parts _ _ _ _ _ _ _ _ h
  refine ⟨fun q hq => ?_, fun l hl => ?_⟩
  · obtain ⟨q1, q2, q3⟩ := perm_parts (g6 q hq)
    exact ⟨q1.2.2, fun t ht => by have := (tup_vars (q3 t ht)).1; omega⟩
  · obtain ⟨l1, l2, l3, l4, l5⟩ := look_parts (g7 l hl)
    have h1 := (tup_vars l4).1
    have h2 := (tup_vars l5).1
    show l.2.1.length = l.1.length
    omega
theorem words_iff (ha : validB a0 a1 a2 a3 a4 a5 a6 a7 = true) (hb : validB b0 b1 b2 b3 b4 b5 b6 b7 = true) : wordsV a0 a1 a2 a3 a4 a5 a6 a7 = wordsV b0 b1 b2 b3 b4 b5 b6 b7 ↔ shape a0 a1 a2 a3 a4 a5 a6 a7 b0 b1 b2 b3 b4 b5 b6 b7 := by
  obtain ⟨ka, la⟩ := kept _ _ _ _ _ _ _ _ ha
  obtain ⟨kb, lb⟩ := kept _ _ _ _ _ _ _ _ hb
  constructor
  · intro h
    unfold wordsV at h
    simp only [List.append_assoc, List.cons_append, List.nil_append, List.cons.injEq] at h
    obtain ⟨h0, h1, h2, h3, h4, h5, h6, h7, h8⟩ := h
    obtain ⟨e5, h9⟩ := pc_ru.flat a5 b5 (by omega) (fun _ _ => trivial) (fun _ _ => trivial) _ _ h8
    obtain ⟨e6, h10⟩ := pc_pm.flat a6 b6 (by omega) ka kb _ _ h9
    rw [← List.append_nil (a7.flatMap lkW), ← List.append_nil (b7.flatMap lkW)] at h10
    obtain ⟨e7, _⟩ := pc_lk.flat a7 b7 (by omega) la lb _ _ h10
    exact ⟨⟨h0, h1, h2, h3, by omega⟩, e5, e6, e7⟩
  · rintro ⟨⟨rfl, rfl, rfl, rfl, h4⟩, rfl, rfl, rfl⟩
    unfold wordsV
    rw [h4]

theorem lawWords (ba : Bd a4 a5 a6 a7) (ga : Rg a5 a6 a7) (bb : Bd b4 b5 b6 b7) (gb : Rg b5 b6 b7) : s4 whole a0 a1 a2 a3 a4 a5 a6 a7 b0 b1 b2 b3 b4 b5 b6 b7 = some true := by
  unfold s4
  obtain ⟨v, hv⟩ := f9 a0 a1 a2 a3 a4 a5 a6 a7 ba
  obtain ⟨u, hu⟩ := f9 b0 b1 b2 b3 b4 b5 b6 b7 bb
  obtain ⟨r, hr, hs⟩ := f17 a0 a1 a2 a3 a4 a5 a6 a7 b0 b1 b2 b3 b4 b5 b6 b7 ba
  rw [hv, hu, hr, live13, f15 _ _ _ _ _ _ _ _ ba, f15 _ _ _ _ _ _ _ _ bb, f16 _ _ _ _ _ _ _ _ ba ga, f16 _ _ _ _ _ _ _ _ bb gb]
  simp only [b_some, or_step, f14' _ _ (words_len _ _ _ _ _ _ _ _ ga)]
  generalize hc : (!v || !u || !(validB a0 a1 a2 a3 a4 a5 a6 a7) || !(validB b0 b1 b2 b3 b4 b5 b6 b7)) = c
  cases c with
  | true => rfl
  | false =>
    simp only [Bool.or_eq_false_iff, Bool.not_eq_false'] at hc
    obtain ⟨⟨_, ha⟩, hb⟩ := hc
    have hw := words_iff _ _ _ _ _ _ _ _ _ _ _ _ _ _ _ _ ha hb
    unfold wordsOr
    rw [ha, hb, c_true, c_true]
    have : decide (wordsV a0 a1 a2 a3 a4 a5 a6 a7 = wordsV b0 b1 b2 b3 b4 b5 b6 b7) = r := by
      cases r with
      | true => exact decide_eq_true (hw.2 (hs.1 rfl))
      | false => exact decide_eq_false fun h => by have := hs.2 (hw.1 h); cases this
    rw [this, beq_self_eq_true]
    rfl
end Go.Proofs.YtkbpafipbhaknaaDoor
