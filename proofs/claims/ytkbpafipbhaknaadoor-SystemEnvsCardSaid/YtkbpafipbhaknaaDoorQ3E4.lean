/- Plain: the law of the environments. -/
import Derived.Test.YtkbpafipbhaknaaDoorQ3E3
import Derived.Test.YtkbpafipbhaknaaDoorQ3L0
namespace Go.Proofs.YtkbpafipbhaknaaDoor
open Go Go.Av
set_option maxRecDepth 100000
set_option linter.unusedVariables false
variable (a0 a1 a2 a3 : Int) (a4 : List (List Int)) (a5 : List Ru) (a6 : List Pm) (a7 : List Lk) (pub : List Int) (main : List (List Int))
theorem lawEnvs (hb : Bd a4 a5 a6 a7) (ht : Bt pub main) (i : Int) : s3 whole a0 a1 a2 a3 a4 a5 a6 a7 pub main i = some true := by
  unfold s3
  obtain ⟨v9, h9⟩ := f9 a0 a1 a2 a3 a4 a5 a6 a7 hb
  obtain ⟨v10, h10⟩ := f10 pub main ht
  rw [h9, h10, live13, f12 _ _ _ _ _ _ _ _ _ _ hb ht, f13 _ _ _ _ _ _ _ _ _ _ hb ht]
  have hb4 : (colF main i).length ≤ BD := by simpa [colF] using ht.m.1
  have hb5 : (colF main ((i + 1) % (2 : Int) ^ a1.toNat)).length ≤ BD := by simpa [colF] using ht.m.1
  have hb6 : (colF a4 i).length ≤ BD := by simpa [colF] using hb.b4.1
  have hn : ([] : List Int).length ≤ BD := Nat.zero_le _
  simp only [b_some, cond_some]
  unfold envV
  cases (bif !v9 then true else !v10) with
  | true => rfl
  | false =>
    cases fitsB a0 a1 a2 a3 a4 a5 a6 a7 pub main with
    | false => simp only [c_false, f14 _ hn, b_some, decide_true, c_true]; rfl
    | true =>
      cases (decide (0 ≤ i) && decide (i < (2 : Int) ^ a1.toNat)) with
      | false => simp only [c_false, c_true, f14 _ hn, b_some, decide_true]; rfl
      | true => simp only [c_false, c_true, f14 _ hb4, f14 _ hb5, f14 _ hb6, f14 _ ht.p, b_some, decide_true]; rfl
end Go.Proofs.YtkbpafipbhaknaaDoor
