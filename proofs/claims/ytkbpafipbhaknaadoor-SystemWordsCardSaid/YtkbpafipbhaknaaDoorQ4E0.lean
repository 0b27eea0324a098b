/- Plain: field orders, elements, columns, variables, tuples. -/
import Derived.Test.YtkbpafipbhaknaaDoorQ4S3
import Derived.Test.YtkbpafipbhaknaaDoorQ4A6
namespace Go.Proofs.YtkbpafipbhaknaaDoor
open Go Go.Av
set_option maxRecDepth 100000
set_option linter.unusedVariables false

def BD : Nat := 140737488355328
theorem BD_ge : 1000000 ≤ BD := by unfold BD; decide
abbrev Vr := Int × Int
abbrev Mo := Int × List Vr
abbrev Ru := Int × List Mo
abbrev Pm := List (List Vr) × List (List Vr)
abbrev Lk := List Vr × List Vr × Int × Int

def okF (f : Int) : Bool := decide (0 ≤ f) && decide (f < 4)
def ordP (f : Int) : Int := if f = 0 then 97 else if f = 1 then 257 else if f = 2 then 12289 else if f = 3 then 998244353 else 0
def twoF (f : Int) : Int := if f = 0 then 5 else if f = 1 then 8 else if f = 2 then 12 else if f = 3 then 23 else 0
def els (f : Int) (l : List Int) : Bool := l.all fun x => !decide (x ≥ ordP f)
def colsB (f n : Int) (l : List (List Int)) : Bool := l.all fun c => decide ((c.length : Int) = n) && els f c

theorem okF_cases {f : Int} (h : okF f = true) : f = 0 ∨ f = 1 ∨ f = 2 ∨ f = 3 := by
  unfold okF at h; simp at h; omega
theorem okF_not {f : Int} (h : okF f = false) : ¬ (f = 0 ∨ f = 1 ∨ f = 2 ∨ f = 3) := by
  unfold okF at h; simp at h; omega

theorem f86 (f : Int) : s86 whole f = some (ordP f) := by
  unfold s86 ordP
  by_cases h0 : f = 0
  · simp [h0]
  · by_cases h1 : f = 1
    · simp [h1]
    · by_cases h2 : f = 2
      · simp [h2]
      · by_cases h3 : f = 3
        · simp [h3]
        · simp [h0, h1, h2, h3]
theorem f49 (f : Int) : s49 whole f = some (twoF f) := by
  unfold s49 twoF
  by_cases h0 : f = 0
  · simp [h0]
  · by_cases h1 : f = 1
    · simp [h1]
    · by_cases h2 : f = 2
      · simp [h2]
      · by_cases h3 : f = 3
        · simp [h3]
        · simp [h0, h1, h2, h3]
theorem f60 (f : Int) : s60 whole f = some (okF f) := by
  unfold s60 okF
  simp only [cond_some, b_some, cond_and, ge_iff_le]
theorem f48 (f : Int) : s48 whole f = some (okF f) := by
  unfold s48 okF
  simp only [cond_some, b_some, cond_and, ge_iff_le]
  congr 2
  simp only [decide_eq_decide]; omega
theorem f105 (f : Int) : ∃ r, s105 whole f = some r ∧ r.1 = ordP f ∧ r.2.2.1 = twoF f := by
  unfold s105
  rw [f60]
  cases hv : okF f with
  | true =>
    rcases okF_cases hv with rfl | rfl | rfl | rfl <;> exact ⟨_, rfl, rfl, rfl⟩
  | false =>
    have := okF_not hv
    refine ⟨_, rfl, ?_, ?_⟩
    · unfold ordP; repeat' split
      all_goals first | rfl | omega
    · unfold twoF; repeat' split
      all_goals first | rfl | omega
theorem f73 (f : Int) : s73 whole f = some (ordP f) := by
  unfold s73
  obtain ⟨r, hr, h1, h2⟩ := f105 f
  rw [hr, b_some, h1]
theorem f61 (f : Int) : s61 whole f = some (twoF f) := by
  unfold s61
  obtain ⟨r, hr, h1, h2⟩ := f105 f
  rw [hr, b_some, h2]

theorem inR_succ {i : Nat} {n : Nat} (h : i < n) (hn : n ≤ BD) : inR .i64 ((i : Int) + 1) := by
  have : n ≤ 140737488355328 := hn
  simp only [inR]; omega

theorem f50 (f : Int) (l : List Int) (hl : l.length ≤ BD) : s50 whole f l = some (els f l) := by
  unfold s50
  have h := run_all (step := s50_0 whole f l) l (fun x => !decide (x ≥ ordP f)) (fun i => (i : Int)) (bad := .inl false) (fin := .inr ())
    (fun i x hx => by
      have hi := lt_of hx
      unfold s50_0
      rw [decide_eq_true (by omega : (i : Int) < (l.length : Int)), c_true, ck_t (by omega), f86, b_some, Int.toNat_natCast, getD_of hx]
      cases hp : decide (x ≥ ordP f) with
      | true => rfl
      | false => simp only [c_false]; rw [ck_t (inR_succ hi hl)]; rfl)
    (by unfold s50_0; simp)
  have h0 : whole.run (s50_0 whole f l) (0 : Int) = _ := h
  rw [h0]
  unfold els
  cases l.all (fun x => !decide (x ≥ ordP f)) <;> rfl

theorem f138 (l : List Int) (g : Int → Option Bool) (p : Int → Bool) (hl : l.length ≤ BD) (hg : ∀ x ∈ l, g x = some (p x)) : s138 whole l g = some (match l.findIdx? p with | some i => (i : Int) | none => -1) := by
  unfold s138
  have h := run_find (step := s138_0 whole l g) l p (fun i => (i : Int)) (fun i => .inl (i : Int)) (fin := .inr ())
    (fun i x hx => by
      have hi := lt_of hx
      unfold s138_0
      rw [decide_eq_true (by omega : (i : Int) < (l.length : Int)), c_true, ck_t (by omega), Int.toNat_natCast, getD_of hx, hg x (mem_of hx), b_some]
      cases p x with
      | true => rfl
      | false => simp only [c_false]; rw [ck_t (inR_succ hi hl)]; rfl)
    (by unfold s138_0; simp)
  have h0 : whole.run (s138_0 whole l g) (0 : Int) = _ := h
  rw [h0]
  cases l.findIdx? p <;> rfl
theorem f127 (l : List Int) (g : Int → Option Bool) (p : Int → Bool) (hl : l.length ≤ BD) (hg : ∀ x ∈ l, g x = some (p x)) : s127 whole l g = some (l.any p) := by
  unfold s127
  rw [f138 l g p hl hg, any_findIdx, b_some]
  cases l.findIdx? p with
  | none => rfl
  | some i => simp
theorem f129 (l : List (List Int)) (g : List Int → Option Bool) (p : List Int → Bool) (hl : l.length ≤ BD) (hg : ∀ x ∈ l, g x = some (p x)) : s129 whole l g = some (match l.findIdx? p with | some i => (i : Int) | none => -1) := by
  unfold s129
  have h := run_find (step := s129_0 whole l g) l p (fun i => (i : Int)) (fun i => .inl (i : Int)) (fin := .inr ())
    (fun i x hx => by
      have hi := lt_of hx
      unfold s129_0
      rw [decide_eq_true (by omega : (i : Int) < (l.length : Int)), c_true, ck_t (by omega), Int.toNat_natCast, getD_of hx, hg x (mem_of hx), b_some]
      cases p x with
      | true => rfl
      | false => simp only [c_false]; rw [ck_t (inR_succ hi hl)]; rfl)
    (by unfold s129_0; simp)
  have h0 : whole.run (s129_0 whole l g) (0 : Int) = _ := h
  rw [h0]
  cases l.findIdx? p <;> rfl
theorem f106 (l : List (List Int)) (g : List Int → Option Bool) (p : List Int → Bool) (hl : l.length ≤ BD) (hg : ∀ x ∈ l, g x = some (p x)) : s106 whole l g = some (l.any p) := by
  unfold s106
  rw [f129 l g p hl hg, any_findIdx, b_some]
  cases l.findIdx? p with
  | none => rfl
  | some i => simp
theorem f130 (l : List Vr) (g : Int → Int → Option Bool) (p : Vr → Bool) (hl : l.length ≤ BD) (hg : ∀ x ∈ l, g x.1 x.2 = some (p x)) : s130 whole l g = some (match l.findIdx? p with | some i => (i : Int) | none => -1) := by
  unfold s130
  have h := run_find (step := s130_0 whole l g) l p (fun i => (i : Int)) (fun i => .inl (i : Int)) (fin := .inr ())
    (fun i x hx => by
      have hi := lt_of hx
      unfold s130_0
      rw [decide_eq_true (by omega : (i : Int) < (l.length : Int)), c_true, ck_t (by omega), Int.toNat_natCast, getD_of hx, hg x (mem_of hx), b_some]
      cases p x with
      | true => rfl
      | false => simp only [c_false]; rw [ck_t (inR_succ hi hl)]; rfl)
    (by unfold s130_0; simp)
  have h0 : whole.run (s130_0 whole l g) (0 : Int) = _ := h
  rw [h0]
  cases l.findIdx? p <;> rfl
theorem f110 (l : List Vr) (g : Int → Int → Option Bool) (p : Vr → Bool) (hl : l.length ≤ BD) (hg : ∀ x ∈ l, g x.1 x.2 = some (p x)) : s110 whole l g = some (l.any p) := by
  unfold s110
  rw [f130 l g p hl hg, any_findIdx, b_some]
  cases l.findIdx? p with
  | none => rfl
  | some i => simp
theorem f139 (l : List Int) (a : Int) (hl : l.length ≤ BD) : s139 whole l a = some (match l.findIdx? (fun x => decide (a = x)) with | some i => (i : Int) | none => -1) := by
  unfold s139
  have h := run_find (step := s139_0 whole l a) l (fun x => decide (a = x)) (fun i => (i : Int)) (fun i => .inl (i : Int)) (fin := .inr ())
    (fun i x hx => by
      have hi := lt_of hx
      unfold s139_0
      rw [decide_eq_true (by omega : (i : Int) < (l.length : Int)), c_true, ck_t (by omega), Int.toNat_natCast, getD_of hx]
      cases decide (a = x) with
      | true => rfl
      | false => simp only [c_false]; rw [ck_t (inR_succ hi hl)]; rfl)
    (by unfold s139_0; simp)
  have h0 : whole.run (s139_0 whole l a) (0 : Int) = _ := h
  rw [h0]
  cases l.findIdx? (fun x => decide (a = x)) <;> rfl
theorem f132 (l : List Int) (a : Int) (hl : l.length ≤ BD) : s132 whole l a = some (l.any fun x => decide (a = x)) := by
  unfold s132
  rw [f139 l a hl, any_findIdx, b_some]
  cases l.findIdx? (fun x => decide (a = x)) with
  | none => rfl
  | some i => simp

theorem f97 (f : Int) (l : List Int) (hl : l.length ≤ BD) : s97 whole f l = some (els f l) := by
  unfold s97
  rw [f73, b_some, f127 l (fun x0 => s128 whole x0 (ordP f)) (fun x => decide (x ≥ ordP f)) hl (fun x _ => rfl), b_some]
  unfold els
  rw [List.all_eq_not_any_not]
  simp
theorem f107 (c : List Int) (n f : Int) (hl : c.length ≤ BD) : s107 whole c n f = some (!(decide ((c.length : Int) = n) && els f c)) := by
  unfold s107
  rw [f97 f c hl]
  simp only [b_some, cond_some, cond_or, Bool.not_and]
theorem f62 (f n : Int) (l : List (List Int)) (hl : l.length ≤ BD) (hc : ∀ c ∈ l, c.length ≤ BD) : s62 whole f n l = some (colsB f n l) := by
  unfold s62
  rw [f106 l _ _ hl (fun c h => f107 c n f (hc c h)), b_some]
  unfold colsB
  rw [List.all_eq_not_any_not]

/-! ### variables -/
def knB (m p fx : Int) (v : Vr) : Bool :=
  decide (0 ≤ v.2) && decide (v.2 < if v.1 = 1 ∨ v.1 = 2 then m else if v.1 = 3 then fx else if v.1 = 4 then p else 0)
variable (a0 a1 a2 a3 : Int) (a4 : List (List Int)) (a5 : List Ru) (a6 : List Pm) (a7 : List Lk)
theorem f109 (k i : Int) : s109 whole a0 a1 a2 a3 a4 a5 a6 a7 k i = some (knB a2 a3 a4.length (k, i)) := by
  unfold s109 knB
  by_cases h1 : k = 1
  · subst h1; simp [cond_some, cond_and]
  · by_cases h2 : k = 2
    · subst h2; simp [cond_some, cond_and]
    · by_cases h3 : k = 3
      · subst h3; simp [cond_some, cond_and]
      · by_cases h4 : k = 4
        · subst h4; simp [cond_some, cond_and]
        · simp [cond_some, cond_and, h1, h2, h3, h4]
theorem f101 (k i : Int) : s101 whole a0 a1 a2 a3 a4 a5 a6 a7 k i = some (knB a2 a3 a4.length (k, i)) := by
  unfold s101 knB
  by_cases hi : i < 0
  · simp [hi]
    intro h; omega
  · have hi' : 0 ≤ i := by omega
    by_cases h1 : k = 1
    · subst h1; simp [cond_some, cond_and, hi, hi']
    · by_cases h2 : k = 2
      · subst h2; simp [cond_some, cond_and, hi, hi']
      · by_cases h3 : k = 3
        · subst h3; simp [cond_some, cond_and, hi, hi']
        · by_cases h4 : k = 4
          · subst h4; simp [cond_some, cond_and, hi, hi']
          · simp [cond_some, cond_and, h1, h2, h3, h4, hi, hi']

def tupB (m p fx n : Int) (ks : List Int) (l : List Vr) : Bool := decide ((l.length : Int) = n) && l.all fun v => knB m p fx v && ks.any fun x => decide (v.1 = x)
theorem f131 (k i : Int) (ks : List Int) (hk : ks.length ≤ BD) : s131 whole k i a0 a1 a2 a3 a4 a5 a6 a7 ks = some (!(knB a2 a3 a4.length (k, i) && ks.any fun x => decide (k = x))) := by
  unfold s131
  rw [f109, b_some, f132 ks k hk]
  simp only [b_some, cond_some, cond_or, Bool.not_and]
theorem f111 (l : List Vr) (n : Int) (ks : List Int) (hl : l.length ≤ BD) (hk : ks.length ≤ BD) : s111 whole a0 a1 a2 a3 a4 a5 a6 a7 l n ks = some (tupB a2 a3 a4.length n ks l) := by
  unfold s111 tupB
  rw [f110 l _ _ hl (fun v _ => f131 a0 a1 a2 a3 a4 a5 a6 a7 v.1 v.2 ks hk)]
  simp only [b_some, cond_some, cond_and]
  rw [List.all_eq_not_any_not]
theorem f102 (l : List Vr) (n : Int) (fx : Bool) (hl : l.length ≤ BD) : s102 whole a0 a1 a2 a3 a4 a5 a6 a7 l n fx = some (tupB a2 a3 a4.length n (bif fx then [3] else [1, 3]) l) := by
  unfold s102 tupB
  by_cases hn : (l.length : Int) = n
  · have h := run_all (step := s102_0 whole a0 a1 a2 a3 a4 a5 a6 a7 l fx) l (fun v => knB a2 a3 a4.length v && (bif fx then [3] else [1, 3]).any fun x => decide (v.1 = x)) (fun i => (i : Int)) (bad := .inl false) (fin := .inr ())
      (fun i x hx => by
        have hi := lt_of hx
        unfold s102_0
        rw [decide_eq_true (by omega : (i : Int) < (l.length : Int)), c_true, ck_t (by omega), f101, b_some, ck_t (by omega), ck_t (by omega), Int.toNat_natCast, getD_of hx, ck_t (inR_succ hi hl)]
        simp only [b_some, cond_some]
        cases knB a2 a3 a4.length x with
        | false => rfl
        | true =>
          cases fx with
          | true => by_cases h3 : x.1 = 3 <;> simp [h3]
          | false => by_cases h3 : x.1 = 3 <;> by_cases h1 : x.1 = 1 <;> simp [h1, h3])
      (by unfold s102_0; simp)
    have h0 : whole.run (s102_0 whole a0 a1 a2 a3 a4 a5 a6 a7 l fx) (0 : Int) = _ := h
    rw [decide_eq_true hn, h0]
    simp only [Bool.not_true, c_false, Bool.true_and]
    generalize l.all _ = b
    cases b <;> rfl
  · rw [decide_eq_false hn]; rfl
end Go.Proofs.YtkbpafipbhaknaaDoor
