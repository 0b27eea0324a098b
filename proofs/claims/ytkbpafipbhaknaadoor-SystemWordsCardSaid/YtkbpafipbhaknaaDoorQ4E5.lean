/- Plain: the words of a system, and its degree, by both texts. -/
import Derived.Test.YtkbpafipbhaknaaDoorQ4E6
import Derived.Test.YtkbpafipbhaknaaDoorQ4L0
import Derived.Test.YtkbpafipbhaknaaDoorQ4A6
namespace Go.Proofs.YtkbpafipbhaknaaDoor
open Go Go.Av
set_option maxRecDepth 100000
set_option linter.unusedVariables false
variable (a0 a1 a2 a3 : Int) (a4 : List (List Int)) (a5 : List Ru) (a6 : List Pm) (a7 : List Lk)

def vw (l : List Vr) : List Int := l.flatMap fun v => [v.1, v.2]
def moW (m : Mo) : List Int := [m.1, (m.2.length : Int)] ++ vw m.2
def ruW (r : Ru) : List Int := [r.1, (r.2.length : Int)] ++ r.2.flatMap moW
def pmW (q : Pm) : List Int := [(q.1.length : Int), ((q.1.getD 0 []).length : Int)] ++ (q.1 ++ q.2).flatMap vw
def lkW (l : Lk) : List Int := [(l.1.length : Int)] ++ vw l.1 ++ vw l.2.1 ++ vw [l.2.2]
def wordsV : List Int := [a0, a1, a2, a3, (a4.length : Int), (a5.length : Int), (a6.length : Int), (a7.length : Int)] ++ a5.flatMap ruW ++ a6.flatMap pmW ++ a7.flatMap lkW

/-- a variable as words -/
def vOK (v : Vr) : Prop := inR .u8 v.1 ∧ 0 ≤ v.2 ∧ v.2 ≤ 9223372036854775807
theorem vOK.u {v : Vr} (h : vOK v) : inR .u64 v.1 ∧ inR .i64 v.1 ∧ inR .u64 v.2 := by
  obtain ⟨h1, h2, h3⟩ := h
  simp only [inR] at *
  omega
theorem vw_len (l : List Vr) : (vw l).length ≤ l.length * 2 := length_flatMap_le _ 2 l (fun _ _ => Nat.le_refl _)

theorem f54 (l z : List Int) (hl : ∀ x ∈ l, inR .u64 x) (hb : z.length + l.length ≤ 1000000) : s54 whole l z = some (z ++ l) := by
  unfold s54
  have h := run_app (step := s54_0 whole l) l (fun x => [x]) 1 (fun _ _ => Nat.le_refl _) z (out := fun x => x)
    (fun i a x ha hx => by
      have hi := lt_of ha
      unfold s54_0
      rw [decide_eq_true (by first | omega | (simp only []; omega)), c_true, ck_t (by first | omega | (simp only []; omega))]
      simp only [Int.toNat_natCast, getD_of ha]
      rw [ck_t (hl a (mem_of ha)), ck_t (by simp only [List.length_singleton]; omega), ck_t (by simp only [inR]; omega)]
      rfl)
    (fun x => by unfold s54_0; rw [decide_eq_false (by first | omega | (simp only []; omega))]; rfl)
  rw [h]
  simp
theorem f55 (l : List Vr) (z : List Int) (hl : ∀ v ∈ l, vOK v) (hb : z.length + l.length * 2 ≤ 1000000) : s55 whole l z = some (z ++ vw l) := by
  unfold s55
  have h := run_app (step := s55_0 whole l) l (fun v => [v.1, v.2]) 2 (fun _ _ => Nat.le_refl _) z (out := fun x => x)
    (fun i a x ha hx => by
      have hi := lt_of ha
      have hv := (hl a (mem_of ha)).u
      unfold s55_0
      rw [decide_eq_true (by first | omega | (simp only []; omega)), c_true, ck_t (by first | omega | (simp only []; omega))]
      simp only [Int.toNat_natCast, getD_of ha]
      rw [ck_t hv.2.1, f54 _ _ (fun y hy => by
        simp only [List.mem_cons, List.not_mem_nil, or_false] at hy
        rcases hy with rfl | rfl
        · exact hv.1
        · exact hv.2.2) (by simp only [List.length_cons, List.length_nil]; omega), b_some, ck_t (by simp only [inR]; omega)]
      rfl)
    (fun x => by unfold s55_0; rw [decide_eq_false (by first | omega | (simp only []; omega))]; rfl)
  rw [h]
  rfl
theorem f68 (l : List Vr) (z : List Int) (hl : ∀ v ∈ l, vOK v) (hb : z.length + l.length * 2 ≤ 1000000) : s68 whole l z = some (z ++ vw l) := by
  unfold s68
  have h := run_app (step := s68_0 whole l) l (fun v => [v.1, v.2]) 2 (fun _ _ => Nat.le_refl _) z (out := fun x => x)
    (fun i a x ha hx => by
      have hi := lt_of ha
      have hv := (hl a (mem_of ha)).u
      unfold s68_0
      rw [decide_eq_true (by first | omega | (simp only []; omega)), c_true, ck_t (by first | omega | (simp only []; omega))]
      simp only [Int.toNat_natCast, getD_of ha]
      rw [ck_t hv.1, ck_t (by omega), ck_t hv.2.2, ck_t (by simp only [List.length_cons, List.length_nil]; omega), ck_t (by simp only [inR]; omega)]
      rfl)
    (fun x => by unfold s68_0; rw [decide_eq_false (by first | omega | (simp only []; omega))]; rfl)
  rw [h]
  rfl

/-- what is asked of the parts of a system that is told in words -/
structure Wo : Prop where
  w5 : a5.length ≤ 64 ∧ ∀ r ∈ a5, inR .u8 r.1 ∧ r.2.length ≤ 64 ∧ ∀ m ∈ r.2, inR .u64 m.1 ∧ m.2.length ≤ 8 ∧ ∀ v ∈ m.2, vOK v
  w6 : a6.length ≤ 4 ∧ ∀ q ∈ a6, (1 ≤ q.1.length ∧ q.1.length ≤ 4 ∧ q.2.length = q.1.length) ∧ (q.1.getD 0 []).length ≤ 4 ∧ ∀ t ∈ q.1 ++ q.2, t.length ≤ 4 ∧ ∀ v ∈ t, vOK v
  w7 : a7.length ≤ 8 ∧ ∀ l ∈ a7, (l.1.length ≤ 4 ∧ ∀ v ∈ l.1, vOK v) ∧ (l.2.1.length ≤ 4 ∧ ∀ v ∈ l.2.1, vOK v) ∧ vOK l.2.2

theorem moW_len {m : Mo} (h : m.2.length ≤ 8) : (moW m).length ≤ 18 := by
  have := vw_len m.2
  unfold moW
  simp only [List.length_append, List.length_cons, List.length_nil]
  omega
theorem ruW_len {r : Ru} (h : r.2.length ≤ 64) (hm : ∀ m ∈ r.2, m.2.length ≤ 8) : (ruW r).length ≤ 1154 := by
  have := length_flatMap_le moW 18 r.2 (fun m hm' => moW_len (hm m hm'))
  unfold ruW
  simp only [List.length_append, List.length_cons, List.length_nil]
  omega
theorem vws_len {l : List (List Vr)} (h : ∀ t ∈ l, t.length ≤ 4) : (l.flatMap vw).length ≤ l.length * 8 :=
  length_flatMap_le vw 8 l (fun t ht => by have := vw_len t; have := h t ht; omega)
theorem pmW_len {q : Pm} (h : q.1.length ≤ 4 ∧ q.2.length = q.1.length) (ht : ∀ t ∈ q.1 ++ q.2, t.length ≤ 4) : (pmW q).length ≤ 66 := by
  have := vws_len ht
  unfold pmW
  simp only [List.length_append, List.length_cons, List.length_nil] at *
  omega
theorem lkW_len {l : Lk} (h : l.1.length ≤ 4) (h' : l.2.1.length ≤ 4) : (lkW l).length ≤ 19 := by
  have := vw_len l.1
  have := vw_len l.2.1
  have := vw_len [l.2.2]
  unfold lkW
  simp only [List.length_append, List.length_cons, List.length_nil] at *
  omega
theorem small_u {n : Nat} (h : n ≤ 1000000) : inR .u64 (n : Int) := by simp only [inR]; omega
theorem u8_u64 {x : Int} (h : inR .u8 x) : inR .u64 x ∧ inR .i64 x := by simp only [inR] at *; omega

/-! ### the program's -/
theorem run16_4 (i : Nat) (r : Ru) (hr : a5[i]? = some r) (z0 : List Int) (z : List Int) (h1 : r.2.length ≤ 64) (h2 : ∀ m ∈ r.2, inR .u64 m.1 ∧ m.2.length ≤ 8 ∧ ∀ v ∈ m.2, vOK v) (hz : z.length ≤ 900000) :
    whole.run (s16_4 whole a5 ((i : Int), z0)) ((0 : Int), z) = some (z ++ r.2.flatMap moW) := by
  have h := run_app (step := s16_4 whole a5 ((i : Int), z0)) r.2 moW 18 (fun m hm => moW_len (h2 m hm).2.1) z (out := fun x => x)
    (fun k m x hm hx => by
      have hk := lt_of hm
      have hmm := h2 m (mem_of hm)
      unfold s16_4
      simp only [Int.toNat_natCast, getD_of hr]
      rw [decide_eq_true (by first | omega | (simp only []; omega)), c_true, ck_t (by first | omega | (simp only []; omega))]
      simp only [getD_of hm]
      rw [ck_t (by simp only [List.length_cons, List.length_nil]; omega), f54 _ _ (fun y hy => by
        simp only [List.mem_cons, List.not_mem_nil, or_false] at hy
        rw [hy]; exact small_u (by omega)) (by simp only [List.length_append, List.length_cons, List.length_nil]; omega), b_some,
        f55 _ _ hmm.2.2 (by simp only [List.length_append, List.length_cons, List.length_nil]; omega), b_some, ck_t (by simp only [inR]; omega)]
      unfold moW
      simp only [List.append_assoc, List.cons_append, List.nil_append]
      rfl)
    (fun x => by
      unfold s16_4
      simp only [Int.toNat_natCast, getD_of hr]
      rw [decide_eq_false (by first | omega | (simp only []; omega))]; rfl)
  exact h
theorem run16_3 (hw : Wo a5 a6 a7) (z : List Int) (hz : z.length ≤ 100) : whole.run (s16_3 whole a5) ((0 : Int), z) = some (z ++ a5.flatMap ruW) := by
  have h := run_app (step := s16_3 whole a5) a5 ruW 1154 (fun r hr => ruW_len (hw.w5.2 r hr).2.1 (fun m hm => ((hw.w5.2 r hr).2.2 m hm).2.1)) z (out := fun x => x)
    (fun i r x hr hx => by
      have hi := lt_of hr
      have h1 := hw.w5.1
      have hrr := hw.w5.2 r (mem_of hr)
      have hu := u8_u64 hrr.1
      unfold s16_3
      rw [decide_eq_true (by first | omega | (simp only []; omega)), c_true, ck_t (by first | omega | (simp only []; omega))]
      simp only [Int.toNat_natCast, getD_of hr]
      rw [ck_t hu.2, f54 _ _ (fun y hy => by
        simp only [List.mem_cons, List.not_mem_nil, or_false] at hy
        rcases hy with rfl | rfl
        · exact hu.1
        · exact small_u (by omega)) (by simp only [List.length_cons, List.length_nil]; omega), b_some,
        run16_4 _ i r hr _ _ hrr.2.1 hrr.2.2 (by simp only [List.length_append, List.length_cons, List.length_nil]; omega)]
      simp only [b_some]
      rw [ck_t (by simp only [inR]; omega)]
      unfold ruW
      simp only [List.append_assoc]
      rfl)
    (fun x => by unfold s16_3; rw [decide_eq_false (by first | omega | (simp only []; omega))]; rfl)
  exact h
theorem run16_2 (l : List (List Vr)) (z : List Int) (hl : l.length ≤ 8) (ht : ∀ t ∈ l, t.length ≤ 4 ∧ ∀ v ∈ t, vOK v) (hz : z.length ≤ 900000) : whole.run (s16_2 whole l) ((0 : Int), z) = some (z ++ l.flatMap vw) := by
  have h := run_app (step := s16_2 whole l) l vw 8 (fun t h => by have := vw_len t; have := (ht t h).1; omega) z (out := fun x => x)
    (fun i t x ht' hx => by
      have hi := lt_of ht'
      have htt := ht t (mem_of ht')
      unfold s16_2
      rw [decide_eq_true (by first | omega | (simp only []; omega)), c_true, ck_t (by first | omega | (simp only []; omega))]
      simp only [Int.toNat_natCast, getD_of ht']
      rw [f55 _ _ htt.2 (by omega), b_some, ck_t (by simp only [inR]; omega)]
      rfl)
    (fun x => by unfold s16_2; rw [decide_eq_false (by first | omega | (simp only []; omega))]; rfl)
  exact h
theorem run16_1 (hw : Wo a5 a6 a7) (z : List Int) (hz : z.length ≤ 100000) : whole.run (s16_1 whole a6) ((0 : Int), z) = some (z ++ a6.flatMap pmW) := by
  have h := run_app (step := s16_1 whole a6) a6 pmW 66 (fun q hq => pmW_len ⟨(hw.w6.2 q hq).1.2.1, (hw.w6.2 q hq).1.2.2⟩ (fun t ht => ((hw.w6.2 q hq).2.2 t ht).1)) z (out := fun x => x)
    (fun i q x hq hx => by
      have hi := lt_of hq
      have h1 := hw.w6.1
      obtain ⟨⟨q1, q2, q3⟩, q4, q5⟩ := hw.w6.2 q (mem_of hq)
      unfold s16_1
      rw [decide_eq_true (by first | omega | (simp only []; omega)), c_true, ck_t (by first | omega | (simp only []; omega))]
      simp only [Int.toNat_natCast, getD_of hq]
      rw [show (q.1.getD (0 : Int).toNat e62.d) = q.1.getD 0 [] from rfl]
      rw [ck_t (by omega), f54 _ _ (fun y hy => by
        simp only [List.mem_cons, List.not_mem_nil, or_false] at hy
        rcases hy with rfl | rfl
        · exact small_u (by omega)
        · exact small_u (by omega)) (by simp only [List.length_cons, List.length_nil]; omega), b_some, f56 q.1 q.2 (by have := BD_ge; omega), b_some,
        run16_2 _ _ (by rw [List.length_append]; omega) q5 (by simp only [List.length_append, List.length_cons, List.length_nil]; omega)]
      simp only [b_some]
      rw [ck_t (by simp only [inR]; omega)]
      unfold pmW
      simp only [List.append_assoc]
      rfl)
    (fun x => by unfold s16_1; rw [decide_eq_false (by first | omega | (simp only []; omega))]; rfl)
  exact h
theorem run16_0 (hw : Wo a5 a6 a7) (z : List Int) (hz : z.length ≤ 200000) : whole.run (s16_0 whole a7) ((0 : Int), z) = some (z ++ a7.flatMap lkW) := by
  have h := run_app (step := s16_0 whole a7) a7 lkW 19 (fun l hl => lkW_len (hw.w7.2 l hl).1.1 (hw.w7.2 l hl).2.1.1) z (out := fun x => x)
    (fun i l x hl hx => by
      have hi := lt_of hl
      have h1 := hw.w7.1
      obtain ⟨⟨l1, l2⟩, ⟨l3, l4⟩, l5⟩ := hw.w7.2 l (mem_of hl)
      have v1 := vw_len l.1
      have v2 := vw_len l.2.1
      unfold s16_0
      rw [decide_eq_true (by first | omega | (simp only []; omega)), c_true, ck_t (by first | omega | (simp only []; omega))]
      simp only [Int.toNat_natCast, getD_of hl]
      rw [f54 _ _ (fun y hy => by
        simp only [List.mem_cons, List.not_mem_nil, or_false] at hy
        rw [hy]; exact small_u (by omega)) (by simp only [List.length_cons, List.length_nil]; omega), b_some,
        f55 _ _ l2 (by simp only [List.length_append, List.length_cons, List.length_nil]; omega), b_some,
        f55 _ _ l4 (by simp only [List.length_append, List.length_cons, List.length_nil]; omega), b_some,
        f55 _ _ (fun v hv => by
          simp only [List.mem_cons, List.not_mem_nil, or_false] at hv
          rw [hv]; exact l5) (by simp only [List.length_append, List.length_cons, List.length_nil]; omega), b_some, ck_t (by simp only [inR]; omega)]
      unfold lkW
      simp only [List.append_assoc]
      rfl)
    (fun x => by unfold s16_0; rw [decide_eq_false (by first | omega | (simp only []; omega))]; rfl)
  exact h

/-! ### the reference's -/
theorem run21_5 (i : Nat) (r : Ru) (hr : a5[i]? = some r) (z0 : List Int) (z : List Int) (h1 : r.2.length ≤ 64) (h2 : ∀ m ∈ r.2, inR .u64 m.1 ∧ m.2.length ≤ 8 ∧ ∀ v ∈ m.2, vOK v) (hz : z.length ≤ 900000) :
    whole.run (s21_5 whole a5 ((i : Int), z0)) ((0 : Int), z) = some (z ++ r.2.flatMap moW) := by
  have h := run_app (step := s21_5 whole a5 ((i : Int), z0)) r.2 moW 18 (fun m hm => moW_len (h2 m hm).2.1) z (out := fun x => x)
    (fun k m x hm hx => by
      have hk := lt_of hm
      have hmm := h2 m (mem_of hm)
      unfold s21_5
      simp only [Int.toNat_natCast, getD_of hr]
      rw [decide_eq_true (by first | omega | (simp only []; omega)), c_true, ck_t (by first | omega | (simp only []; omega)), ck_t (by first | omega | (simp only []; omega))]
      simp only [getD_of hm]
      rw [ck_t (small_u (by omega)), ck_t (by simp only [List.length_cons, List.length_nil]; omega), ck_t (by omega), 
        f68 _ _ hmm.2.2 (by simp only [List.length_append, List.length_cons, List.length_nil]; omega), b_some, ck_t (by simp only [inR]; omega)]
      unfold moW
      simp only [List.append_assoc]
      rfl)
    (fun x => by
      unfold s21_5
      simp only [Int.toNat_natCast, getD_of hr]
      rw [decide_eq_false (by first | omega | (simp only []; omega))]; rfl)
  exact h
theorem run21_4 (hw : Wo a5 a6 a7) (z : List Int) (hz : z.length ≤ 100) : whole.run (s21_4 whole a5) ((0 : Int), z) = some (z ++ a5.flatMap ruW) := by
  have h := run_app (step := s21_4 whole a5) a5 ruW 1154 (fun r hr => ruW_len (hw.w5.2 r hr).2.1 (fun m hm => ((hw.w5.2 r hr).2.2 m hm).2.1)) z (out := fun x => x)
    (fun i r x hr hx => by
      have hi := lt_of hr
      have h1 := hw.w5.1
      have hrr := hw.w5.2 r (mem_of hr)
      have hu := u8_u64 hrr.1
      unfold s21_4
      rw [decide_eq_true (by first | omega | (simp only []; omega)), c_true, ck_t (by first | omega | (simp only []; omega))]
      simp only [Int.toNat_natCast, getD_of hr]
      rw [ck_t hu.1, ck_t (small_u (by omega)), ck_t (by simp only [List.length_cons, List.length_nil]; omega),
        run21_5 _ i r hr _ _ hrr.2.1 hrr.2.2 (by simp only [List.length_append, List.length_cons, List.length_nil]; omega)]
      simp only [b_some]
      rw [ck_t (by simp only [inR]; omega)]
      unfold ruW
      simp only [List.append_assoc]
      rfl)
    (fun x => by unfold s21_4; rw [decide_eq_false (by first | omega | (simp only []; omega))]; rfl)
  exact h
theorem run21_3 (i : Nat) (q : Pm) (hq : a6[i]? = some q) (z0 z : List Int) (hl : q.1.length ≤ 8) (ht : ∀ t ∈ q.1, t.length ≤ 4 ∧ ∀ v ∈ t, vOK v) (hz : z.length ≤ 900000) : whole.run (s21_3 whole a6 ((i : Int), z0)) ((0 : Int), z) = some (z ++ q.1.flatMap vw) := by
  have h := run_app (step := s21_3 whole a6 ((i : Int), z0)) q.1 vw 8 (fun t h => by have := vw_len t; have := (ht t h).1; omega) z (out := fun x => x)
    (fun k t x ht' hx => by
      have hk := lt_of ht'
      have htt := ht t (mem_of ht')
      unfold s21_3
      simp only [Int.toNat_natCast, getD_of hq]
      rw [decide_eq_true (by first | omega | (simp only []; omega)), c_true, ck_t (by first | omega | (simp only []; omega))]
      simp only [getD_of ht']
      rw [f68 _ _ htt.2 (by omega), b_some, ck_t (by simp only [inR]; omega)]
      rfl)
    (fun x => by
      unfold s21_3
      simp only [Int.toNat_natCast, getD_of hq]
      rw [decide_eq_false (by first | omega | (simp only []; omega))]; rfl)
  exact h
theorem run21_2 (i : Nat) (q : Pm) (hq : a6[i]? = some q) (z0 z : List Int) (hl : q.2.length ≤ 8) (ht : ∀ t ∈ q.2, t.length ≤ 4 ∧ ∀ v ∈ t, vOK v) (hz : z.length ≤ 900000) : whole.run (s21_2 whole a6 ((i : Int), z0)) ((0 : Int), z) = some (z ++ q.2.flatMap vw) := by
  have h := run_app (step := s21_2 whole a6 ((i : Int), z0)) q.2 vw 8 (fun t h => by have := vw_len t; have := (ht t h).1; omega) z (out := fun x => x)
    (fun k t x ht' hx => by
      have hk := lt_of ht'
      have htt := ht t (mem_of ht')
      unfold s21_2
      simp only [Int.toNat_natCast, getD_of hq]
      rw [decide_eq_true (by first | omega | (simp only []; omega)), c_true, ck_t (by first | omega | (simp only []; omega))]
      simp only [getD_of ht']
      rw [f68 _ _ htt.2 (by omega), b_some, ck_t (by simp only [inR]; omega)]
      rfl)
    (fun x => by
      unfold s21_2
      simp only [Int.toNat_natCast, getD_of hq]
      rw [decide_eq_false (by first | omega | (simp only []; omega))]; rfl)
  exact h
theorem run21_1 (hw : Wo a5 a6 a7) (z : List Int) (hz : z.length ≤ 100000) : whole.run (s21_1 whole a6) ((0 : Int), z) = some (z ++ a6.flatMap pmW) := by
  have h := run_app (step := s21_1 whole a6) a6 pmW 66 (fun q hq => pmW_len ⟨(hw.w6.2 q hq).1.2.1, (hw.w6.2 q hq).1.2.2⟩ (fun t ht => ((hw.w6.2 q hq).2.2 t ht).1)) z (out := fun x => x)
    (fun i q x hq hx => by
      have hi := lt_of hq
      have h1 := hw.w6.1
      obtain ⟨⟨q1, q2, q3⟩, q4, q5⟩ := hw.w6.2 q (mem_of hq)
      have hv1 := vws_len (l := q.1) (fun t ht => (q5 t (List.mem_append_left _ ht)).1)
      unfold s21_1
      rw [decide_eq_true (by first | omega | (simp only []; omega)), c_true, ck_t (by first | omega | (simp only []; omega))]
      simp only [Int.toNat_natCast, getD_of hq]
      rw [show (q.1.getD (0 : Int).toNat e62.d) = q.1.getD 0 [] from rfl]
      rw [ck_t (small_u (by omega)), ck_t (by omega), ck_t (small_u (by omega)), ck_t (by simp only [List.length_cons, List.length_nil]; omega),
        run21_3 _ i q hq _ _ (by omega) (fun t ht => q5 t (List.mem_append_left _ ht)) (by simp only [List.length_append, List.length_cons, List.length_nil]; omega)]
      simp only [b_some]
      rw [run21_2 _ i q hq _ _ (by omega) (fun t ht => q5 t (List.mem_append_right _ ht)) (by simp only [List.length_append, List.length_cons, List.length_nil]; omega)]
      simp only [b_some]
      rw [ck_t (by simp only [inR]; omega)]
      unfold pmW
      simp only [List.append_assoc, List.flatMap_append]
      rfl)
    (fun x => by unfold s21_1; rw [decide_eq_false (by first | omega | (simp only []; omega))]; rfl)
  exact h
theorem run21_0 (hw : Wo a5 a6 a7) (z : List Int) (hz : z.length ≤ 200000) : whole.run (s21_0 whole a7) ((0 : Int), z) = some (z ++ a7.flatMap lkW) := by
  have h := run_app (step := s21_0 whole a7) a7 lkW 19 (fun l hl => lkW_len (hw.w7.2 l hl).1.1 (hw.w7.2 l hl).2.1.1) z (out := fun x => x)
    (fun i l x hl hx => by
      have hi := lt_of hl
      have h1 := hw.w7.1
      obtain ⟨⟨l1, l2⟩, ⟨l3, l4⟩, l5⟩ := hw.w7.2 l (mem_of hl)
      have v1 := vw_len l.1
      have v2 := vw_len l.2.1
      unfold s21_0
      rw [decide_eq_true (by first | omega | (simp only []; omega)), c_true, ck_t (by first | omega | (simp only []; omega))]
      simp only [Int.toNat_natCast, getD_of hl]
      rw [ck_t (small_u (by omega)), ck_t (by simp only [List.length_cons, List.length_nil]; omega),
        f68 _ _ l2 (by simp only [List.length_append, List.length_cons, List.length_nil]; omega), b_some,
        f68 _ _ l4 (by simp only [List.length_append, List.length_cons, List.length_nil]; omega), b_some,
        f68 _ _ (fun v hv => by
          simp only [List.mem_cons, List.not_mem_nil, or_false] at hv
          rw [hv]; exact l5) (by simp only [List.length_append, List.length_cons, List.length_nil]; omega), b_some, ck_t (by simp only [inR]; omega)]
      unfold lkW
      simp only [List.append_assoc]
      rfl)
    (fun x => by unfold s21_0; rw [decide_eq_false (by first | omega | (simp only []; omega))]; rfl)
  exact h
end Go.Proofs.YtkbpafipbhaknaaDoor
