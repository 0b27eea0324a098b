/- Plain: traces that fit; the environment of a row, by both texts. -/
import Derived.Test.YtkbpafipbhaknaaDoorQ3E2
namespace Go.Proofs.YtkbpafipbhaknaaDoor
open Go Go.Av
set_option maxRecDepth 100000
set_option linter.unusedVariables false

variable (a0 a1 a2 a3 : Int) (a4 : List (List Int)) (a5 : List Ru) (a6 : List Pm) (a7 : List Lk) (pub : List Int) (main : List (List Int))

def fitsB : Bool := validB a0 a1 a2 a3 a4 a5 a6 a7 && decide ((pub.length : Int) = a3) && decide ((main.length : Int) = a2) && els a0 pub && colsB a0 ((2 : Int) ^ a1.toNat) main
theorem valid_rows (h : validB a0 a1 a2 a3 a4 a5 a6 a7 = true) : 1 ≤ a1 ∧ a1 ≤ 13 := by
  unfold validB at h
  simp only [Bool.and_eq_true, decide_eq_true_eq] at h
  obtain ⟨⟨⟨⟨⟨⟨⟨⟨_, h1, h2⟩, _⟩, _⟩, _⟩, _⟩, _⟩, _⟩, _⟩ := h
  split at h2 <;> omega
theorem valid_main (h : validB a0 a1 a2 a3 a4 a5 a6 a7 = true) : a2 ≤ 64 ∧ a3 ≤ 16 ∧ a4.length ≤ 64 := by
  unfold validB at h
  simp only [Bool.and_eq_true, decide_eq_true_eq, Bool.not_eq_true', decide_eq_false_iff_not] at h
  obtain ⟨⟨⟨⟨⟨⟨⟨_, _, h1⟩, _, h2⟩, ⟨⟨h3, _⟩, _⟩, _⟩, _⟩, _⟩, _⟩, _⟩ := h
  omega
theorem valid_cols (h : validB a0 a1 a2 a3 a4 a5 a6 a7 = true) : colsB a0 ((2 : Int) ^ a1.toNat) a4 = true := by
  unfold validB at h
  simp only [Bool.and_eq_true] at h
  exact h.1.1.1.2
theorem cols_len {f n : Int} {l : List (List Int)} (h : colsB f n l = true) : ∀ c ∈ l, (c.length : Int) = n := by
  intro c hc
  unfold colsB at h
  have := List.all_eq_true.1 h c hc
  simp only [Bool.and_eq_true, decide_eq_true_eq] at this
  exact this.1

structure Bt : Prop where
  p : pub.length ≤ BD
  m : main.length ≤ BD ∧ ∀ c ∈ main, c.length ≤ BD

theorem f44 (hb : Bd a4 a5 a6 a7) (ht : Bt pub main) : s44 whole a0 a1 a2 a3 a4 a5 a6 a7 pub main = some (fitsB a0 a1 a2 a3 a4 a5 a6 a7 pub main) := by
  unfold s44 fitsB
  rw [f18 _ _ _ _ _ _ _ _ hb]
  simp only [b_some, cond_some, cond_and]
  cases hv : validB a0 a1 a2 a3 a4 a5 a6 a7 with
  | false => rfl
  | true =>
    have hr := valid_rows _ _ _ _ _ _ _ _ hv
    rw [f97 _ _ ht.p, f62 _ _ _ ht.m.1 ht.m.2, ck_t (pow_rows (by omega) hr.2)]
    simp only [b_some, cond_some, cond_and, Int.one_mul]
theorem f23 (hb : Bd a4 a5 a6 a7) (ht : Bt pub main) : s23 whole a0 a1 a2 a3 a4 a5 a6 a7 pub main = some (fitsB a0 a1 a2 a3 a4 a5 a6 a7 pub main) := by
  unfold s23 fitsB
  rw [f15 _ _ _ _ _ _ _ _ hb]
  cases hv : validB a0 a1 a2 a3 a4 a5 a6 a7 with
  | false => rfl
  | true =>
    have hr := valid_rows _ _ _ _ _ _ _ _ hv
    rw [f50 _ _ ht.p]
    simp only [b_some, cond_some, cond_or, Bool.true_and, Bool.not_true, Bool.false_or]
    have h := run_all (step := s23_0 whole a0 a1 a2 a3 a4 a5 a6 a7 main) main (fun c => decide ((c.length : Int) = (2 : Int) ^ a1.toNat) && els a0 c) (fun i => (i : Int)) (bad := .inl false) (fin := .inr ())
      (fun i x hx => by
        have hi := lt_of hx
        have hm := ht.m.2 x (mem_of hx)
        unfold s23_0
        rw [decide_eq_true (by omega : (i : Int) < (main.length : Int)), c_true, ck_t (by omega), ck_t (by omega), f28s _ _ _ _ _ _ _ _ (by omega) (by omega), Int.toNat_natCast, getD_of hx, f50 _ _ hm]
        simp only [b_some, cond_some, cond_or]
        rw [ck_t (inR_succ hi ht.m.1)]
        cases decide ((x.length : Int) = (2 : Int) ^ a1.toNat) <;> cases els a0 x <;> rfl)
      (by unfold s23_0; rw [decide_eq_false (by omega)]; rfl)
    have h0 : whole.run (s23_0 whole a0 a1 a2 a3 a4 a5 a6 a7 main) (0 : Int) = _ := h
    rw [h0]
    unfold colsB
    generalize main.all _ = b
    cases decide ((pub.length : Int) = a3) <;> cases decide ((main.length : Int) = a2) <;> cases els a0 pub <;> cases b <;> rfl

/-! ### a row of columns -/
def colF (l : List (List Int)) (i : Int) : List Int := l.map fun c => c.getD i.toNat e44.d
theorem f98 (l : List (List Int)) (i : Int) (hl : l.length ≤ 64) (h0 : 0 ≤ i) (hi : ∀ c ∈ l, i < c.length) : s98 whole l i = some (colF l i) := by
  unfold s98
  rw [ck_t (by omega)]
  have h := run_upto (step := s98_0 whole l i) (fun k => ((k : Int), (colF l i).take k ++ List.replicate (l.length - k) e44.d)) l.length (fun k hk => by
    have hx : l[k]? = some l[k] := List.getElem?_eq_getElem hk
    have hlen : ((colF l i).take k ++ List.replicate (l.length - k) e44.d).length = l.length := by simp [colF]; omega
    unfold s98_0
    rw [decide_eq_true (by simp only []; omega), c_true, ck_t (by simp only []; omega)]
    simp only [Int.toNat_natCast, getD_of hx]
    rw [ck_t ⟨h0, hi _ (mem_of hx)⟩, ck_t (by rw [hlen]; omega), ck_t (by rw [hlen]; omega), ck_t (by simp only [inR]; omega)]
    congr 3
    have hc : (colF l i)[k]? = some (l[k].getD i.toNat e44.d) := by unfold colF; rw [List.getElem?_map, hx]; rfl
    rw [List.take_add_one, hc, List.set_append_right _ _ (by simp [colF]; omega)]
    rw [show k - ((colF l i).take k).length = 0 by simp [colF]; omega, show l.length - k = (l.length - (k + 1)) + 1 by omega, List.replicate_succ, List.set_cons_zero]
    simp)
  simp only [Int.toNat_natCast] at h ⊢
  have h1 : whole.run (s98_0 whole l i) ((0 : Int), List.replicate l.length e44.d) = whole.run (s98_0 whole l i) ((l.length : Int), (colF l i).take l.length ++ List.replicate (l.length - l.length) e44.d) := h
  rw [h1, Nat.sub_self, List.replicate_zero, List.append_nil, List.take_of_length_le (by simp [colF])]
  rw [run_out (b := colF l i) (by unfold s98_0; rw [decide_eq_false (by simp only []; omega)]; rfl)]
  rfl
theorem f100 (l : List (List Int)) (i : Int) (hl : l.length ≤ 64) (h0 : 0 ≤ i) (hi : ∀ c ∈ l, i < c.length) : s100 whole l i = some (colF l i) := by
  unfold s100
  have h := run_upto (step := s100_0 whole l i) (fun k => ((k : Int), (colF l i).take k)) l.length (fun k hk => by
    have hx : l[k]? = some l[k] := List.getElem?_eq_getElem hk
    have hlen : ((colF l i).take k).length = k := by simp [colF]; omega
    unfold s100_0
    rw [decide_eq_true (by simp only []; omega), c_true, ck_t (by simp only []; omega)]
    simp only [Int.toNat_natCast, getD_of hx]
    rw [ck_t ⟨h0, hi _ (mem_of hx)⟩, ck_t (by rw [hlen]; simp only [List.length_singleton]; omega), ck_t (by simp only [inR]; omega)]
    congr 3
    have hc : (colF l i)[k]? = some (l[k].getD i.toNat e44.d) := by unfold colF; rw [List.getElem?_map, hx]; rfl
    rw [List.take_add_one, hc]
    rfl)
  have h1 : whole.run (s100_0 whole l i) ((0 : Int), ([] : List Int)) = whole.run (s100_0 whole l i) ((l.length : Int), (colF l i).take l.length) := h
  rw [h1, List.take_of_length_le (by simp [colF])]
  rw [run_out (b := colF l i) (by unfold s100_0; rw [decide_eq_false (by simp only []; omega)]; rfl)]
  rfl

theorem f99 (l : List Int) (hl : l.length ≤ 64) : s99 whole l = some l := by
  unfold s99
  rw [ck_t (by simp only [List.length_nil]; omega)]

abbrev Ev := List Int × List Int × List Int × List Int × List Int × List Int × List Int
def atV (i : Int) : Ev := (colF main i, colF main ((i + 1) % (2 : Int) ^ a1.toNat), colF a4 i, pub, [], [], [])
theorem f46 (hf : fitsB a0 a1 a2 a3 a4 a5 a6 a7 pub main = true) (i : Int) (h0 : 0 ≤ i) (h1 : i < (2 : Int) ^ a1.toNat) : s46 whole a0 a1 a2 a3 a4 a5 a6 a7 pub main i = some (atV a1 a4 pub main i) ∧ s47 whole a0 a1 a2 a3 a4 a5 a6 a7 pub main i = some (atV a1 a4 pub main i) := by
  unfold fitsB at hf
  simp only [Bool.and_eq_true, decide_eq_true_eq] at hf
  obtain ⟨⟨⟨⟨hv, hp⟩, hm⟩, _⟩, hc⟩ := hf
  have hr := valid_rows _ _ _ _ _ _ _ _ hv
  have hw := valid_main _ _ _ _ _ _ _ _ hv
  have hc4 := cols_len (valid_cols _ _ _ _ _ _ _ _ hv)
  have hcm := cols_len hc
  have hpow := pow_rows (by omega : 0 ≤ a1) hr.2
  have hpow2 := hpow.2.2
  rw [Int.one_mul] at hpow2
  have hpos := pow_pos2 a1.toNat
  have hml : main.length ≤ 64 := by omega
  have hn0 : 0 ≤ (i + 1) % (2 : Int) ^ a1.toNat := Int.emod_nonneg _ (by omega)
  have hn1 : (i + 1) % (2 : Int) ^ a1.toNat < (2 : Int) ^ a1.toNat := Int.emod_lt_of_pos _ hpos
  have hi1 : inR .i64 (i + 1) := by simp only [inR] at hpow2 ⊢; omega
  constructor
  · unfold s46
    rw [f98 main i hml h0 (fun c hc => by rw [hcm c hc]; exact h1), b_some, ck_t hi1, ck_t hpow, Int.one_mul, ck_t ⟨by omega, hpos⟩, f98 main _ hml hn0 (fun c hc => by rw [hcm c hc]; exact hn1), b_some,
      f98 a4 i (by omega) h0 (fun c hc => by rw [hc4 c hc]; exact h1), b_some, f99 pub (by omega), b_some]
    rfl
  · unfold s47
    rw [ck_t (by simp only [List.length_nil]; omega), f100 main i hml h0 (fun c hc => by rw [hcm c hc]; exact h1), b_some, ck_t hi1, f28s _ _ _ _ _ _ _ _ (by omega) (by omega), b_some, ck_t ⟨by omega, hpos⟩, f100 main _ hml hn0 (fun c hc => by rw [hcm c hc]; exact hn1), b_some,
      f100 a4 i (by omega) h0 (fun c hc => by rw [hc4 c hc]; exact h1), b_some, List.nil_append]
    rfl
def envV (i : Int) : List Int × List Int × List Int × List Int × List Int × List Int × List Int × Int :=
  bif fitsB a0 a1 a2 a3 a4 a5 a6 a7 pub main then bif decide (0 ≤ i) && decide (i < (2 : Int) ^ a1.toNat) then (colF main i, colF main ((i + 1) % (2 : Int) ^ a1.toNat), colF a4 i, pub, [], [], [], 0) else ([], [], [], [], [], [], [], 2) else ([], [], [], [], [], [], [], 1)
theorem f12 (hb : Bd a4 a5 a6 a7) (ht : Bt pub main) (i : Int) : s12 whole a0 a1 a2 a3 a4 a5 a6 a7 pub main i = some (envV a0 a1 a2 a3 a4 a5 a6 a7 pub main i) := by
  unfold s12 envV
  rw [f44 _ _ _ _ _ _ _ _ _ _ hb ht, b_some]
  cases hf : fitsB a0 a1 a2 a3 a4 a5 a6 a7 pub main with
  | false => rfl
  | true =>
    have hv : validB a0 a1 a2 a3 a4 a5 a6 a7 = true := by
      have := hf
      unfold fitsB at this
      simp only [Bool.and_eq_true] at this
      exact this.1.1.1.1
    have hr := valid_rows _ _ _ _ _ _ _ _ hv
    have hpow := pow_rows (by omega : 0 ≤ a1) hr.2
    have hpos := pow_pos2 a1.toNat
    rw [Bool.not_true, c_false, c_true, ck_t hpow, Int.one_mul, ck_t (by have := hpow.2.2; simp only [inR] at this ⊢; omega), f45, b_some]
    rw [show decide (i ≤ (2 : Int) ^ a1.toNat - 1) = decide (i < (2 : Int) ^ a1.toNat) by simp only [decide_eq_decide]; omega]
    cases hg : (decide (0 ≤ i) && decide (i < (2 : Int) ^ a1.toNat)) with
    | false => rfl
    | true =>
      simp only [Bool.and_eq_true, decide_eq_true_eq] at hg
      rw [Bool.not_true, c_false, c_true, (f46 _ _ _ _ _ _ _ _ _ _ hf i hg.1 hg.2).1, b_some]
      rfl
theorem f13 (hb : Bd a4 a5 a6 a7) (ht : Bt pub main) (i : Int) : s13 whole a0 a1 a2 a3 a4 a5 a6 a7 pub main i = some (envV a0 a1 a2 a3 a4 a5 a6 a7 pub main i) := by
  unfold s13 envV
  rw [f23 _ _ _ _ _ _ _ _ _ _ hb ht, b_some]
  cases hf : fitsB a0 a1 a2 a3 a4 a5 a6 a7 pub main with
  | false => rfl
  | true =>
    have hv : validB a0 a1 a2 a3 a4 a5 a6 a7 = true := by
      have := hf
      unfold fitsB at this
      simp only [Bool.and_eq_true] at this
      exact this.1.1.1.1
    have hr := valid_rows _ _ _ _ _ _ _ _ hv
    rw [Bool.not_true, c_false, c_true, f28s _ _ _ _ _ _ _ _ (by omega) (by omega), b_some, cond_some, cond_or, b_some]
    rw [show (decide (i < 0) || decide (i ≥ (2 : Int) ^ a1.toNat)) = !(decide (0 ≤ i) && decide (i < (2 : Int) ^ a1.toNat)) by
      rw [Bool.not_and, ← decide_not, ← decide_not]; congr 1 <;> simp only [decide_eq_decide] <;> omega]
    cases hg : (decide (0 ≤ i) && decide (i < (2 : Int) ^ a1.toNat)) with
    | false => rfl
    | true =>
      simp only [Bool.and_eq_true, decide_eq_true_eq] at hg
      rw [Bool.not_true, c_false, c_true, (f46 _ _ _ _ _ _ _ _ _ _ hf i hg.1 hg.2).2, b_some]
      rfl

/-! ### equal lists -/
theorem f14 (l : List Int) (hl : l.length ≤ BD) : s14 whole l l = some true := by
  unfold s14
  rw [decide_eq_true rfl, Bool.not_true, c_false]
  have h := run_all (step := s14_0 whole l l) l (fun _ => true) (fun i => (i : Int)) (bad := .inl false) (fin := .inr ())
    (fun i x hx => by
      have hi := lt_of hx
      unfold s14_0
      rw [decide_eq_true (by omega : (i : Int) < (l.length : Int)), c_true, ck_t (by omega), ck_t (by omega), decide_eq_true rfl, Bool.not_true, c_false, ck_t (inR_succ hi hl)]
      rfl)
    (by unfold s14_0; rw [decide_eq_false (by omega)]; rfl)
  have h0 : whole.run (s14_0 whole l l) (0 : Int) = _ := h
  rw [h0, show (l.all fun _ => true) = true from List.all_eq_true.2 fun _ _ => rfl]
  rfl

/-! ### the size is looked at, and something comes of it -/
theorem wrap_succ {i n : Nat} (h : i < n) (hn : n ≤ BD) : IntKind.wrap .i64 ((i : Int) + 1) = ((i + 1 : Nat) : Int) := wrap_inR (inR_succ h hn)
theorem f38 (l : List (List Vr)) (hl : l.length ≤ BD) : ∃ v, s38 whole l = some v := by
  unfold s38
  have h := run_fold (step := s38_0 whole l) l (fun _ _ => True) (fun x t => IntKind.wrap .i64 (x + (t.length : Int))) (fun k x => (x, (k : Int))) (x0 := (l.length : Int)) (b := l.foldl (fun x t => IntKind.wrap .i64 (x + (t.length : Int))) (l.length : Int)) trivial
    (fun k c x hc _ => by
      have hk := lt_of hc
      unfold s38_0
      rw [decide_eq_true (by simp only []; omega), c_true, ck_t (by simp only []; omega)]
      simp only [Int.toNat_natCast, getD_of hc, wrap_succ hk hl]
      first | exact ⟨rfl, trivial⟩ | exact ⟨trivial, trivial⟩)
    (fun _ => by unfold s38_0; rw [decide_eq_false (by simp only []; omega)]; rfl)
  have h0 : whole.run (s38_0 whole l) ((l.length : Int), (0 : Int)) = _ := h.1
  rw [h0]
  exact ⟨_, rfl⟩
theorem f10 (ht : Bt pub main) : ∃ v, s10 whole pub main = some v := by
  unfold s10
  have h := run_fold (step := s10_0 whole main) main (fun _ _ => True) (fun x t => IntKind.wrap .i64 (IntKind.wrap .i64 (x + (t.length : Int)) + 1)) (fun k x => (x, (k : Int))) (x0 := (pub.length : Int)) (b := main.foldl (fun x t => IntKind.wrap .i64 (IntKind.wrap .i64 (x + (t.length : Int)) + 1)) (pub.length : Int)) trivial
    (fun k c x hc _ => by
      have hk := lt_of hc
      unfold s10_0
      rw [decide_eq_true (by simp only []; omega), c_true, ck_t (by simp only []; omega)]
      simp only [Int.toNat_natCast, getD_of hc, wrap_succ hk ht.m.1]
      first | exact ⟨rfl, trivial⟩ | exact ⟨trivial, trivial⟩)
    (fun _ => by unfold s10_0; rw [decide_eq_false (by simp only []; omega)]; rfl)
  have h0 : whole.run (s10_0 whole main) ((pub.length : Int), (0 : Int)) = _ := h.1
  rw [h0]
  exact ⟨_, rfl⟩
theorem f9_4 (hb : Bd a4 a5 a6 a7) (x0 : Int) : ∃ v, whole.run (s9_4 whole a4) (x0, (0 : Int)) = some v := by
  have h := run_fold (step := s9_4 whole a4) a4 (fun _ _ => True) (fun x t => IntKind.wrap .i64 (x + (t.length : Int))) (fun k x => (x, (k : Int))) (x0 := x0) (b := a4.foldl (fun x t => IntKind.wrap .i64 (x + (t.length : Int))) x0) trivial
    (fun k c x hc _ => by
      have hk := lt_of hc
      unfold s9_4
      rw [decide_eq_true (by simp only []; omega), c_true, ck_t (by simp only []; omega)]
      simp only [Int.toNat_natCast, getD_of hc, wrap_succ hk hb.b4.1]
      first | exact ⟨rfl, trivial⟩ | exact ⟨trivial, trivial⟩)
    (fun _ => by unfold s9_4; rw [decide_eq_false (by simp only []; omega)]; rfl)
  exact ⟨_, h.1⟩
theorem f9_3 (hb : Bd a4 a5 a6 a7) (i : Nat) (r : Ru) (hr : a5[i]? = some r) (y x0 : Int) : whole.run (s9_3 whole a5 (y, (i : Int))) (x0, (0 : Int)) = some (r.2.foldl (fun x m => IntKind.wrap .i64 (x + (m.2.length : Int))) x0) := by
  have hi := lt_of hr
  have h := run_fold (step := s9_3 whole a5 (y, (i : Int))) r.2 (fun _ _ => True) (fun x m => IntKind.wrap .i64 (x + (m.2.length : Int))) (fun k x => (x, (k : Int))) (x0 := x0) (b := r.2.foldl (fun x m => IntKind.wrap .i64 (x + (m.2.length : Int))) x0) trivial
    (fun k c x hc _ => by
      have hk := lt_of hc
      unfold s9_3
      rw [ck_t (by simp only []; omega)]
      simp only [Int.toNat_natCast, getD_of hr]
      rw [decide_eq_true (by omega), c_true, ck_t (by omega), ck_t (by omega)]
      simp only [getD_of hc, wrap_succ hk (hb.b5.2 r (mem_of hr)).1]
      first | exact ⟨rfl, trivial⟩ | exact ⟨trivial, trivial⟩)
    (fun _ => by
      unfold s9_3
      rw [ck_t (by simp only []; omega)]
      simp only [Int.toNat_natCast, getD_of hr]
      rw [decide_eq_false (by omega)]; rfl)
  exact h.1
theorem f9_2 (hb : Bd a4 a5 a6 a7) (x0 : Int) : ∃ v, whole.run (s9_2 whole a5) (x0, (0 : Int)) = some v := by
  have h := run_fold (step := s9_2 whole a5) a5 (fun _ _ => True) (fun x (r : Ru) => r.2.foldl (fun x m => IntKind.wrap .i64 (x + (m.2.length : Int))) (IntKind.wrap .i64 (x + (r.2.length : Int)))) (fun k x => (x, (k : Int))) (x0 := x0)
    (b := a5.foldl (fun x (r : Ru) => r.2.foldl (fun x m => IntKind.wrap .i64 (x + (m.2.length : Int))) (IntKind.wrap .i64 (x + (r.2.length : Int)))) x0) trivial
    (fun k c x hc _ => by
      have hk := lt_of hc
      unfold s9_2
      rw [decide_eq_true (by simp only []; omega), c_true, ck_t (by simp only []; omega)]
      simp only [Int.toNat_natCast, getD_of hc, wrap_succ hk hb.b5.1]
      rw [f9_3 _ _ _ _ hb k c hc]
      first | exact ⟨rfl, trivial⟩ | exact ⟨trivial, trivial⟩)
    (fun _ => by unfold s9_2; rw [decide_eq_false (by simp only []; omega)]; rfl)
  exact ⟨_, h.1⟩
theorem f9_1 (hb : Bd a4 a5 a6 a7) (x0 : Int) : ∃ v, whole.run (s9_1 whole a6) (x0, (0 : Int)) = some v := by
  have h := run_fold (step := s9_1 whole a6) a6 (fun _ _ => True) (fun x q => IntKind.wrap .i64 (IntKind.wrap .i64 (x + (s38 whole q.1).getD 0) + (s38 whole q.2).getD 0)) (fun k x => (x, (k : Int))) (x0 := x0)
    (b := a6.foldl (fun x q => IntKind.wrap .i64 (IntKind.wrap .i64 (x + (s38 whole q.1).getD 0) + (s38 whole q.2).getD 0)) x0) trivial
    (fun k c x hc _ => by
      have hk := lt_of hc
      have hq := hb.b6.2 c (mem_of hc)
      obtain ⟨v, hv⟩ := f38 c.1 hq.1.1
      obtain ⟨u, hu⟩ := f38 c.2 hq.2.1
      unfold s9_1
      rw [decide_eq_true (by simp only []; omega), c_true, ck_t (by simp only []; omega)]
      simp only [Int.toNat_natCast, getD_of hc, wrap_succ hk hb.b6.1, hv, hu, b_some]
      rw [ck_t (by omega)]
      first | exact ⟨rfl, trivial⟩ | exact ⟨trivial, trivial⟩)
    (fun _ => by unfold s9_1; rw [decide_eq_false (by simp only []; omega)]; rfl)
  exact ⟨_, h.1⟩
theorem f9_0 (hb : Bd a4 a5 a6 a7) (x0 : Int) : ∃ v, whole.run (s9_0 whole a7) (x0, (0 : Int)) = some v := by
  have h := run_fold (step := s9_0 whole a7) a7 (fun _ _ => True) (fun x (q : Lk) => IntKind.wrap .i64 (IntKind.wrap .i64 (x + (q.1.length : Int)) + (q.2.1.length : Int))) (fun k x => (x, (k : Int))) (x0 := x0)
    (b := a7.foldl (fun x (q : Lk) => IntKind.wrap .i64 (IntKind.wrap .i64 (x + (q.1.length : Int)) + (q.2.1.length : Int))) x0) trivial
    (fun k c x hc _ => by
      have hk := lt_of hc
      unfold s9_0
      rw [decide_eq_true (by simp only []; omega), c_true, ck_t (by simp only []; omega)]
      simp only [Int.toNat_natCast, getD_of hc, wrap_succ hk hb.b7.1]
      rw [ck_t (by omega)]
      first | exact ⟨rfl, trivial⟩ | exact ⟨trivial, trivial⟩)
    (fun _ => by unfold s9_0; rw [decide_eq_false (by simp only []; omega)]; rfl)
  exact ⟨_, h.1⟩
theorem f9 (hb : Bd a4 a5 a6 a7) : ∃ v, s9 whole a0 a1 a2 a3 a4 a5 a6 a7 = some v := by
  unfold s9
  obtain ⟨v4, h4⟩ := f9_4 a4 a5 a6 a7 hb 0
  obtain ⟨v2, h2⟩ := f9_2 a4 a5 a6 a7 hb v4
  obtain ⟨v1, h1⟩ := f9_1 a4 a5 a6 a7 hb v2
  obtain ⟨v0, h0⟩ := f9_0 a4 a5 a6 a7 hb v1
  simp only [b_some, cond_some, cond_or, h4, h2, h1, h0]
  exact ⟨_, rfl⟩
end Go.Proofs.YtkbpafipbhaknaaDoor
