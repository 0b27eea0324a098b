/- What functions compute. -/
import Derived.Test.YtkbpafipbhaknaaDoorQ4S1
namespace Go.Proofs.YtkbpafipbhaknaaDoor
open Go Go.Av
set_option maxRecDepth 100000
set_option linter.unusedVariables false
/- system.Faults -/
def s42_0 (L : LP) (a0_0 : Int) (a0_1 : Int) (a0_2 : Int) (a0_3 : Int) (a0_4 : (List (List Int))) (a0_5 : (List (Int × (List (Int × (List (Int × Int))))))) (a0_6 : (List ((List (List (Int × Int))) × (List (List (Int × Int)))))) (a0_7 : (List ((List (Int × Int)) × (List (Int × Int)) × Int × Int))) (a1_0 : (List Int)) (a1_1 : (List (List Int))) (y5 : (Int × (List (Int × Int)))) : Option ((Int × (List (Int × Int))) ⊕ (List (Int × Int))) :=
  (bif (decide (y5.1 < (a0_7.length : Int))) then
  ((ck (0 ≤ y5.1 ∧ y5.1 < (a0_7.length : Int))).bind fun _ =>
  (s96 L a0_0 a0_1 a0_2 a0_3 a0_4 a0_5 a0_6 a0_7 a1_0 a1_1 ((a0_7.getD y5.1.toNat e77.d).1) ((a0_7.getD y5.1.toNat e77.d).2.1) ((a0_7.getD y5.1.toNat e77.d).2.2.1) ((a0_7.getD y5.1.toNat e77.d).2.2.2)).bind fun r10 =>
  (bif (!r10) then
  (ck (inR .i64 ((a0_5.length : Int) + (a0_6.length : Int)))).bind fun _ =>
  (ck (inR .i64 (((a0_5.length : Int) + (a0_6.length : Int)) + y5.1))).bind fun _ =>
  (ck ((y5.2.length + [((((a0_5.length : Int) + (a0_6.length : Int)) + y5.1), (-1 : Int))].length) * 16 ≤ 140737488355328 ∧ y5.2.length + [((((a0_5.length : Int) + (a0_6.length : Int)) + y5.1), (-1 : Int))].length ≤ 140737488355328)).bind fun _ =>
  some (y5.2 ++ [((((a0_5.length : Int) + (a0_6.length : Int)) + y5.1), (-1 : Int))])
  else some y5.2)).bind fun (y7 : (List (Int × Int))) =>
  (ck (inR .i64 (y5.1 + (1 : Int)))).bind fun _ =>
  some (.inl ((y5.1 + (1 : Int)), y7))
  else some (.inr y5.2))
def s42_1 (L : LP) (a0_0 : Int) (a0_1 : Int) (a0_2 : Int) (a0_3 : Int) (a0_4 : (List (List Int))) (a0_5 : (List (Int × (List (Int × (List (Int × Int))))))) (a0_6 : (List ((List (List (Int × Int))) × (List (List (Int × Int)))))) (a0_7 : (List ((List (Int × Int)) × (List (Int × Int)) × Int × Int))) (a1_0 : (List Int)) (a1_1 : (List (List Int))) (y14 : (Int × (List (Int × Int)))) : Option ((Int × (List (Int × Int))) ⊕ (List (Int × Int))) :=
  (bif (decide (y14.1 < (a0_6.length : Int))) then
  ((ck (0 ≤ y14.1 ∧ y14.1 < (a0_6.length : Int))).bind fun _ =>
  (s95 L a0_0 a0_1 a0_2 a0_3 a0_4 a0_5 a0_6 a0_7 a1_0 a1_1 ((a0_6.getD y14.1.toNat e65.d).1) ((a0_6.getD y14.1.toNat e65.d).2)).bind fun r19 =>
  (bif (!r19) then
  (ck (inR .i64 ((a0_5.length : Int) + y14.1))).bind fun _ =>
  (ck ((y14.2.length + [(((a0_5.length : Int) + y14.1), (-1 : Int))].length) * 16 ≤ 140737488355328 ∧ y14.2.length + [(((a0_5.length : Int) + y14.1), (-1 : Int))].length ≤ 140737488355328)).bind fun _ =>
  some (y14.2 ++ [(((a0_5.length : Int) + y14.1), (-1 : Int))])
  else some y14.2)).bind fun (y16 : (List (Int × Int))) =>
  (ck (inR .i64 (y14.1 + (1 : Int)))).bind fun _ =>
  some (.inl ((y14.1 + (1 : Int)), y16))
  else some (.inr y14.2))
def s42_3 (L : LP) (a0_0 : Int) (a0_1 : Int) (a0_2 : Int) (a0_3 : Int) (a0_4 : (List (List Int))) (a0_5 : (List (Int × (List (Int × (List (Int × Int))))))) (a0_6 : (List ((List (List (Int × Int))) × (List (List (Int × Int)))))) (a0_7 : (List ((List (Int × Int)) × (List (Int × Int)) × Int × Int))) (a1_0 : (List Int)) (a1_1 : (List (List Int))) (y22 : (Int × (List (Int × Int)))) (r28 : (Int × Int)) (y29 : (Int × (List (Int × Int)))) : Option ((Int × (List (Int × Int))) ⊕ (List (Int × Int))) :=
  (bif (decide (y29.1 < r28.2)) then
  ((s46 L a0_0 a0_1 a0_2 a0_3 a0_4 a0_5 a0_6 a0_7 a1_0 a1_1 y29.1).bind fun r33 =>
  (s94 L a0_0 ((a0_5.getD y22.1.toNat e72.d).2) r33.1 r33.2.1 r33.2.2.1 r33.2.2.2.1 r33.2.2.2.2.1 r33.2.2.2.2.2.1 r33.2.2.2.2.2.2).bind fun r34 =>
  (bif (!(decide (r34.1 = (0 : Int)))) then
  (ck ((y29.2.length + [(y22.1, y29.1)].length) * 16 ≤ 140737488355328 ∧ y29.2.length + [(y22.1, y29.1)].length ≤ 140737488355328)).bind fun _ =>
  some (y29.2 ++ [(y22.1, y29.1)])
  else some y29.2)).bind fun (y31 : (List (Int × Int))) =>
  (ck (inR .i64 (y29.1 + (1 : Int)))).bind fun _ =>
  some (.inl ((y29.1 + (1 : Int)), y31))
  else some (.inr y29.2))
def s42_2 (L : LP) (a0_0 : Int) (a0_1 : Int) (a0_2 : Int) (a0_3 : Int) (a0_4 : (List (List Int))) (a0_5 : (List (Int × (List (Int × (List (Int × Int))))))) (a0_6 : (List ((List (List (Int × Int))) × (List (List (Int × Int)))))) (a0_7 : (List ((List (Int × Int)) × (List (Int × Int)) × Int × Int))) (a1_0 : (List Int)) (a1_1 : (List (List Int))) (y22 : (Int × (List (Int × Int)))) : Option ((Int × (List (Int × Int))) ⊕ (List (Int × Int))) :=
  (bif (decide (y22.1 < (a0_5.length : Int))) then
  ((ck (0 ≤ y22.1 ∧ y22.1 < (a0_5.length : Int))).bind fun _ =>
  (ck (0 ≤ a0_1 ∧ a0_1 < ((IntKind.bits .i64 : Nat) : Int) ∧ inR .i64 ((1 : Int) * 2 ^ a0_1.toNat))).bind fun _ =>
  (s93 L ((a0_5.getD y22.1.toNat e72.d).1) ((1 : Int) * 2 ^ a0_1.toNat)).bind fun r28 =>
  (L.run (s42_3 L a0_0 a0_1 a0_2 a0_3 a0_4 a0_5 a0_6 a0_7 a1_0 a1_1 y22 r28) (r28.1, y22.2)).bind (fun (v : (List (Int × Int))) => some v)).bind fun (y24 : (List (Int × Int))) =>
  (ck (inR .i64 (y22.1 + (1 : Int)))).bind fun _ =>
  some (.inl ((y22.1 + (1 : Int)), y24))
  else some (.inr y22.2))
def s42 (L : LP) (a0_0 : Int) (a0_1 : Int) (a0_2 : Int) (a0_3 : Int) (a0_4 : (List (List Int))) (a0_5 : (List (Int × (List (Int × (List (Int × Int))))))) (a0_6 : (List ((List (List (Int × Int))) × (List (List (Int × Int)))))) (a0_7 : (List ((List (Int × Int)) × (List (Int × Int)) × Int × Int))) (a1_0 : (List Int)) (a1_1 : (List (List Int))) : Option ((List (Int × Int)) × Int) :=
  (s44 L a0_0 a0_1 a0_2 a0_3 a0_4 a0_5 a0_6 a0_7 a1_0 a1_1).bind fun r1 =>
  (bif (!r1) then
  some ([], (1 : Int))
  else ((L.run (s42_2 L a0_0 a0_1 a0_2 a0_3 a0_4 a0_5 a0_6 a0_7 a1_0 a1_1) ((0 : Int), ([] : List (Int × Int)))).bind (fun (v : (List (Int × Int))) => some v)).bind fun (y2 : (List (Int × Int))) =>
  ((L.run (s42_1 L a0_0 a0_1 a0_2 a0_3 a0_4 a0_5 a0_6 a0_7 a1_0 a1_1) ((0 : Int), y2)).bind (fun (v : (List (Int × Int))) => some v)).bind fun (y3 : (List (Int × Int))) =>
  ((L.run (s42_0 L a0_0 a0_1 a0_2 a0_3 a0_4 a0_5 a0_6 a0_7 a1_0 a1_1) ((0 : Int), y3)).bind (fun (v : (List (Int × Int))) => some v)).bind fun (y4 : (List (Int × Int))) =>
  some (y4, (0 : Int)))
theorem p42 (L : LP) (a0_0 : Int) (a0_1 : Int) (a0_2 : Int) (a0_3 : Int) (a0_4 : (List (List Int))) (a0_5 : (List (Int × (List (Int × (List (Int × Int))))))) (a0_6 : (List ((List (List (Int × Int))) × (List (List (Int × Int)))))) (a0_7 : (List ((List (Int × Int)) × (List (Int × Int)) × Int × Int))) (a1_0 : (List Int)) (a1_1 : (List (List Int))) (r : ((List (Int × Int)) × Int)) (h : s42 L a0_0 a0_1 a0_2 a0_3 a0_4 a0_5 a0_6 a0_7 a1_0 a1_1 = some r) : Pure X 42 [.agg [aI a0_0, aI a0_1, aI a0_2, aI a0_3, aS e28 a0_4, aS e72 a0_5, aS e65 a0_6, aS e77 a0_7], .agg [aS e44 a1_0, aS e28 a1_1]] (tupV [vS e85 r.1, vI r.2]) := by
 refine Pure_of_W (c := cd Tryd.f42 []) Tryd.func42 (by kernel_rfl) (N := 117) (by kernel_rfl) (Nat.le_of_ble_eq_true (by kernel_rfl)) ?_
 unfold s42 at h
 refine js ?_
 refine jr ?_
 refine jf [bL 27 [aI a0_0, aI a0_1, aI a0_2, aI a0_3, aS e28 a0_4, aS e72 a0_5, aS e65 a0_6, aS e77 a0_7], bL 30 [aS e44 a1_0, aS e28 a1_1]] [(2, vO 0 0 8 0 0), (3, vO 1 0 2 0 0)] 4 [2, 3] ?_
 refine thenQ_n ?_
 refine js ?_
 refine js ?_
 refine jr ?_
 refine jh [(2, vO 0 0 8 0 0), (3, vO 1 0 2 0 0), (18, .agg [aI a0_0, aI a0_1, aI a0_2, aI a0_3, aS e28 a0_4, aS e72 a0_5, aS e65 a0_6, aS e77 a0_7]), (19, .agg [aS e44 a1_0, aS e28 a1_1])] 2 [2, 3, 18, 19] ?_
 obtain ⟨r1, gr1, h⟩ := bind_some h
 refine jl 20 Tryd.call44 (p44 L _ _ _ _ _ _ _ _ _ _ _ gr1) ?_
 refine jg [(2, vO 0 0 8 0 0), (3, vO 1 0 2 0 0), (21, vB (!r1))] 1 [2, 3, 21] ?_
 refine thenQ_n ?_
 refine jc (!r1) (fun hb => ?_) (fun hb => ?_)
 · have h := cond_t hb h
   refine js ?_
   refine jr ?_
   refine jg [(4, .cell (.c (.nsl))), (5, vI 1)] 2 [4, 5] ?_
   refine thenQ_n ?_
   refine jt ?_
   refine thenQ_r ?_
   obtain rfl := si h
   exact jQ [.cell (.c (.nsl)), vI 1] ([.sl 2 (fun i j => (e85.row (([] : List (Int × Int)).getD i e85.d)).getD j .jk), .no])
 · have h := cond_f hb h
   refine jk ?_
   refine thenQ_n ?_
   refine js ?_
   refine jr ?_
   refine jg [(2, vO 0 0 8 0 0), (3, vO 1 0 2 0 0), (6, .cell (.c (.nsl)))] 1 [2, 3, 6] ?_
   refine thenQ_n ?_
   obtain ⟨y2, gy2, ky2⟩ := bind_some h
   refine W_cut (by kernel_rfl) [bL 27 [aI a0_0, aI a0_1, aI a0_2, aI a0_3, aS e28 a0_4, aS e72 a0_5, aS e65 a0_6, aS e77 a0_7], bL 30 [aS e44 a1_0, aS e28 a1_1], some (rwB e85 0 85 y2)] [(2, vO 0 0 8 0 0), (3, vO 1 0 2 0 0), (6, vW 2 0 y2.length)] ?_ ?_
   · have h := ky2; clear gy2 ky2
     obtain ⟨y3, gy3, ky3⟩ := bind_some h
     refine W_cut (by kernel_rfl) [bL 27 [aI a0_0, aI a0_1, aI a0_2, aI a0_3, aS e28 a0_4, aS e72 a0_5, aS e65 a0_6, aS e77 a0_7], bL 30 [aS e44 a1_0, aS e28 a1_1], some (rwB e85 0 85 y3)] [(2, vO 0 0 8 0 0), (3, vO 1 0 2 0 0), (6, vW 2 0 y3.length)] ?_ ?_
     · have h := ky3; clear gy3 ky3
       obtain ⟨y4, gy4, ky4⟩ := bind_some h
       refine W_cut (by kernel_rfl) [bL 27 [aI a0_0, aI a0_1, aI a0_2, aI a0_3, aS e28 a0_4, aS e72 a0_5, aS e65 a0_6, aS e77 a0_7], bL 30 [aS e44 a1_0, aS e28 a1_1], some (rwB e85 0 85 y4)] [(6, vW 2 0 y4.length)] ?_ ?_
       · have h := ky4; clear gy4 ky4
         refine js ?_
         refine jr ?_
         refine jg [(4, vW 2 0 y4.length), (5, vI 0)] 3 [4, 5] ?_
         refine thenQ_n ?_
         refine jt ?_
         obtain rfl := si h
         exact jq [vW 2 0 y4.length, vI 0]
       · have h := gy4; clear gy4 ky4
         refine js ?_
         refine jr ?_
         refine jg [(2, vO 0 0 8 0 0), (3, vO 1 0 2 0 0), (6, vW 2 0 y3.length), (90, vS e77 a0_7), (91, vI (a0_7.length : Int)), (92, vI 0)] 4 [2, 3, 6, 90, 91, 92] ?_
         refine thenQ_n ?_
         refine jb 6 ?_
         obtain ⟨b6, gb6, kb6⟩ := bind_some h
         refine W_loop_at (S := fun (y5 : (Int × (List (Int × Int)))) => ([bL 27 [aI a0_0, aI a0_1, aI a0_2, aI a0_3, aS e28 a0_4, aS e72 a0_5, aS e65 a0_6, aS e77 a0_7], bL 30 [aS e44 a1_0, aS e28 a1_1], some (rwB e85 0 85 y5.2)], [(2, vO 0 0 8 0 0), (3, vO 1 0 2 0 0), (6, vW 2 0 y5.2.length), (90, vS e77 a0_7), (91, vI (a0_7.length : Int)), (92, vI y5.1)])) (step := _) (x0 := ((0 : Int), y3)) (b := b6) (L.ok _ _ _ gb6) (by kernel_rfl) (jE [.keep [2, 3, 6, 90, 91, 92], .take 3, .ver0 2]) ?_
         clear gb6 h; intro y5 o h; unfold s42_0 at h
         refine js ?_
         refine jr ?_
         refine jg [(2, vO 0 0 8 0 0), (3, vO 1 0 2 0 0), (6, vW 2 0 y5.2.length), (90, vS e77 a0_7), (91, vI (a0_7.length : Int)), (92, vI y5.1), (93, vB (decide (y5.1 < (a0_7.length : Int))))] 1 [2, 3, 6, 90, 91, 92, 93] ?_
         refine thenQ_n ?_
         refine js ?_
         refine jc (decide (y5.1 < (a0_7.length : Int))) (fun hb => ?_) (fun hb => ?_)
         · have h := cond_t hb h
           refine jk ?_
           refine thenQ_n ?_
           obtain ⟨y7, gy7, ky7⟩ := bind_some h
           refine W_cut (by kernel_rfl) [bL 27 [aI a0_0, aI a0_1, aI a0_2, aI a0_3, aS e28 a0_4, aS e72 a0_5, aS e65 a0_6, aS e77 a0_7], bL 30 [aS e44 a1_0, aS e28 a1_1], some (rwB e85 0 85 y7)] [(2, vO 0 0 8 0 0), (3, vO 1 0 2 0 0), (6, vW 2 0 y7.length), (90, vS e77 a0_7), (91, vI (a0_7.length : Int)), (92, vI y5.1)] ?_ ?_
           · have h := ky7; clear gy7 ky7
             refine jr ?_
             obtain ⟨c8, h⟩ := ck_bind h
             refine jG [(2, vO 0 0 8 0 0), (3, vO 1 0 2 0 0), (6, vW 2 0 y7.length), (90, vS e77 a0_7), (91, vI (a0_7.length : Int)), (92, vI (y5.1 + (1 : Int)))] ((inR .i64 (y5.1 + (1 : Int))) ∧ (True)) 2 [2, 3, 6, 90, 91, 92] ⟨c8, trivial⟩ ?_
             obtain rfl := si h
             exact round_n _ rfl (jE [.keep [2, 3, 6, 90, 91, 92], .take 3, .ver0 2])
           · have h := gy7; clear gy7 ky7
             refine jb 7 ?_
             refine js ?_
             refine jr ?_
             obtain ⟨c9, h⟩ := ck_bind h
             refine jF [bL 27 [aI a0_0, aI a0_1, aI a0_2, aI a0_3, aS e28 a0_4, aS e72 a0_5, aS e65 a0_6, aS e77 a0_7], bL 30 [aS e44 a1_0, aS e28 a1_1], some (rwB e85 0 85 y5.2), bL 77 [aS e61 ((a0_7.getD y5.1.toNat e77.d).1), aS e61 ((a0_7.getD y5.1.toNat e77.d).2.1), aY ((a0_7.getD y5.1.toNat e77.d).2.2.1), aI ((a0_7.getD y5.1.toNat e77.d).2.2.2)]] [(2, vO 0 0 8 0 0), (3, vO 1 0 2 0 0), (6, vW 2 0 y5.2.length), (16, vI y5.1), (17, vO 3 0 4 0 0), (90, vS e77 a0_7), (91, vI (a0_7.length : Int)), (92, vI y5.1)] ((0 ≤ y5.1 ∧ y5.1 < (a0_7.length : Int)) ∧ (True)) 6 [2, 3, 6, 16, 17, 90, 91, 92] ⟨c9, trivial⟩ ?_
             refine thenQ_n ?_
             refine js ?_
             refine jr ?_
             refine jh [(2, vO 0 0 8 0 0), (3, vO 1 0 2 0 0), (6, vW 2 0 y5.2.length), (16, vI y5.1), (90, vS e77 a0_7), (91, vI (a0_7.length : Int)), (92, vI y5.1), (97, .agg [aI a0_0, aI a0_1, aI a0_2, aI a0_3, aS e28 a0_4, aS e72 a0_5, aS e65 a0_6, aS e77 a0_7]), (98, .agg [aS e44 a1_0, aS e28 a1_1]), (99, .agg [aS e61 ((a0_7.getD y5.1.toNat e77.d).1), aS e61 ((a0_7.getD y5.1.toNat e77.d).2.1), aY ((a0_7.getD y5.1.toNat e77.d).2.2.1), aI ((a0_7.getD y5.1.toNat e77.d).2.2.2)])] 3 [2, 3, 6, 16, 90, 91, 92, 97, 98, 99] ?_
             obtain ⟨r10, gr10, h⟩ := bind_some h
             refine jl 100 Tryd.call96 (p96 L _ _ _ _ _ _ _ _ _ _ _ _ _ _ _ gr10) ?_
             refine jg [(2, vO 0 0 8 0 0), (3, vO 1 0 2 0 0), (6, vW 2 0 y5.2.length), (16, vI y5.1), (90, vS e77 a0_7), (91, vI (a0_7.length : Int)), (92, vI y5.1), (101, vB (!r10))] 1 [2, 3, 6, 16, 90, 91, 92, 101] ?_
             refine thenQ_n ?_
             refine jc (!r10) (fun hb => ?_) (fun hb => ?_)
             · have h := cond_t hb h
               refine jr ?_
               obtain ⟨c11, h⟩ := ck_bind h
               obtain ⟨c12, h⟩ := ck_bind h
               refine jH [(2, vO 0 0 8 0 0), (3, vO 1 0 2 0 0), (90, vS e77 a0_7), (91, vI (a0_7.length : Int)), (92, vI y5.1), (102, vW 2 0 y5.2.length), (112, .agg [aI (((a0_5.length : Int) + (a0_6.length : Int)) + y5.1), aI (-1)])] ((inR .i64 ((a0_5.length : Int) + (a0_6.length : Int))) ∧ (inR .i64 (((a0_5.length : Int) + (a0_6.length : Int)) + y5.1)) ∧ (True)) 11 [2, 3, 90, 91, 92, 102, 112] ⟨c11, c12, trivial⟩ ?_
               refine WO_q1 (r := .cell (.c (rawC 1 2 [.int .i64 (((a0_5.length : Int) + (a0_6.length : Int)) + y5.1), .int .i64 (-1)]))) (r' := vS e85 [((((a0_5.length : Int) + (a0_6.length : Int)) + y5.1), (-1 : Int))]) (d := some 113) (φ := True) (raw_weak e85 (xs := [((((a0_5.length : Int) + (a0_6.length : Int)) + y5.1), (-1 : Int))]) rfl rfl (by kernel_rfl) (by kernel_rfl)) (by kernel_rfl) trivial ?_
               obtain ⟨c13, h⟩ := ck_bind h
               refine WO_app e85 y5.2 [((((a0_5.length : Int) + (a0_6.length : Int)) + y5.1), (-1 : Int))] (b := 2) (ver := 0) (e := 85) (d := 114) (row2 := fun i j => (e85.row ([((((a0_5.length : Int) + (a0_6.length : Int)) + y5.1), (-1 : Int))].getD i e85.d)).getD j .jk) (Φ := (0 = 0 ∧ (y5.2.length + [((((a0_5.length : Int) + (a0_6.length : Int)) + y5.1), (-1 : Int))].length) * 16 ≤ 140737488355328 ∧ y5.2.length + [((((a0_5.length : Int) + (a0_6.length : Int)) + y5.1), (-1 : Int))].length ≤ 140737488355328) ∧ True) (σ' := [bL 27 [aI a0_0, aI a0_1, aI a0_2, aI a0_3, aS e28 a0_4, aS e72 a0_5, aS e65 a0_6, aS e77 a0_7], bL 30 [aS e44 a1_0, aS e28 a1_1], some (rwB e85 1 85 (y5.2 ++ [((((a0_5.length : Int) + (a0_6.length : Int)) + y5.1), (-1 : Int))])), bL 77 [aS e61 ((a0_7.getD y5.1.toNat e77.d).1), aS e61 ((a0_7.getD y5.1.toNat e77.d).2.1), aY ((a0_7.getD y5.1.toNat e77.d).2.2.1), aI ((a0_7.getD y5.1.toNat e77.d).2.2.2)]]) (T' := [(114, vW 2 1 ((y5.2 ++ [((((a0_5.length : Int) + (a0_6.length : Int)) + y5.1), (-1 : Int))]).length)), (113, vS e85 [((((a0_5.length : Int) + (a0_6.length : Int)) + y5.1), (-1 : Int))]), (2, vO 0 0 8 0 0), (3, vO 1 0 2 0 0), (90, vS e77 a0_7), (91, vI (a0_7.length : Int)), (92, vI y5.1), (102, vW 2 0 y5.2.length), (112, .agg [aI (((a0_5.length : Int) + (a0_6.length : Int)) + y5.1), aI (-1)])]) (by kernel_rfl) ⟨⟨rfl, c13⟩, trivial⟩ (Nat.le_of_ble_eq_true (by kernel_rfl)) (fun _ _ _ _ => rfl) (by kernel_rfl) (by kernel_rfl) ?_
               refine jg [(2, vO 0 0 8 0 0), (3, vO 1 0 2 0 0), (6, vW 2 1 ((y5.2 ++ [((((a0_5.length : Int) + (a0_6.length : Int)) + y5.1), (-1 : Int))]).length)), (90, vS e77 a0_7), (91, vI (a0_7.length : Int)), (92, vI y5.1)] 1 [2, 3, 6, 90, 91, 92] ?_
               refine blockQ_n ?_
               obtain rfl := si h
               exact thenQ_n (jE [.keep [2, 3, 6, 90, 91, 92], .take 3, .ver0 2])
             · have h := cond_f hb h
               refine jk ?_
               refine blockQ_n ?_
               obtain rfl := si h
               exact thenQ_n (jE [.keep [2, 3, 6, 90, 91, 92], .take 3, .ver0 2])
         · have h := cond_f hb h
           refine je 6 ?_
           refine thenQ_e ?_
           obtain rfl := si h; refine round_e rfl (fun hb => ?_); subst hb; have h := kb6
           refine blockQ_hit ?_
           obtain rfl := si h
           exact thenQ_n (jE [.keep [6], .take 3, .ver0 2])
     · have h := gy3; clear gy3 ky3
       refine js ?_
       refine jr ?_
       refine jg [(2, vO 0 0 8 0 0), (3, vO 1 0 2 0 0), (6, vW 2 0 y2.length), (67, vS e65 a0_6), (68, vI (a0_6.length : Int)), (69, vI 0)] 4 [2, 3, 6, 67, 68, 69] ?_
       refine thenQ_n ?_
       refine jb 4 ?_
       obtain ⟨b15, gb15, kb15⟩ := bind_some h
       refine W_loop_at (S := fun (y14 : (Int × (List (Int × Int)))) => ([bL 27 [aI a0_0, aI a0_1, aI a0_2, aI a0_3, aS e28 a0_4, aS e72 a0_5, aS e65 a0_6, aS e77 a0_7], bL 30 [aS e44 a1_0, aS e28 a1_1], some (rwB e85 0 85 y14.2)], [(2, vO 0 0 8 0 0), (3, vO 1 0 2 0 0), (6, vW 2 0 y14.2.length), (67, vS e65 a0_6), (68, vI (a0_6.length : Int)), (69, vI y14.1)])) (step := _) (x0 := ((0 : Int), y2)) (b := b15) (L.ok _ _ _ gb15) (by kernel_rfl) (jE [.keep [2, 3, 6, 67, 68, 69], .take 3, .ver0 2]) ?_
       clear gb15 h; intro y14 o h; unfold s42_1 at h
       refine js ?_
       refine jr ?_
       refine jg [(2, vO 0 0 8 0 0), (3, vO 1 0 2 0 0), (6, vW 2 0 y14.2.length), (67, vS e65 a0_6), (68, vI (a0_6.length : Int)), (69, vI y14.1), (70, vB (decide (y14.1 < (a0_6.length : Int))))] 1 [2, 3, 6, 67, 68, 69, 70] ?_
       refine thenQ_n ?_
       refine js ?_
       refine jc (decide (y14.1 < (a0_6.length : Int))) (fun hb => ?_) (fun hb => ?_)
       · have h := cond_t hb h
         refine jk ?_
         refine thenQ_n ?_
         obtain ⟨y16, gy16, ky16⟩ := bind_some h
         refine W_cut (by kernel_rfl) [bL 27 [aI a0_0, aI a0_1, aI a0_2, aI a0_3, aS e28 a0_4, aS e72 a0_5, aS e65 a0_6, aS e77 a0_7], bL 30 [aS e44 a1_0, aS e28 a1_1], some (rwB e85 0 85 y16)] [(2, vO 0 0 8 0 0), (3, vO 1 0 2 0 0), (6, vW 2 0 y16.length), (67, vS e65 a0_6), (68, vI (a0_6.length : Int)), (69, vI y14.1)] ?_ ?_
         · have h := ky16; clear gy16 ky16
           refine jr ?_
           obtain ⟨c17, h⟩ := ck_bind h
           refine jG [(2, vO 0 0 8 0 0), (3, vO 1 0 2 0 0), (6, vW 2 0 y16.length), (67, vS e65 a0_6), (68, vI (a0_6.length : Int)), (69, vI (y14.1 + (1 : Int)))] ((inR .i64 (y14.1 + (1 : Int))) ∧ (True)) 2 [2, 3, 6, 67, 68, 69] ⟨c17, trivial⟩ ?_
           obtain rfl := si h
           exact round_n _ rfl (jE [.keep [2, 3, 6, 67, 68, 69], .take 3, .ver0 2])
         · have h := gy16; clear gy16 ky16
           refine jb 5 ?_
           refine js ?_
           refine jr ?_
           obtain ⟨c18, h⟩ := ck_bind h
           refine jF [bL 27 [aI a0_0, aI a0_1, aI a0_2, aI a0_3, aS e28 a0_4, aS e72 a0_5, aS e65 a0_6, aS e77 a0_7], bL 30 [aS e44 a1_0, aS e28 a1_1], some (rwB e85 0 85 y14.2), bL 65 [aS e62 ((a0_6.getD y14.1.toNat e65.d).1), aS e62 ((a0_6.getD y14.1.toNat e65.d).2)]] [(2, vO 0 0 8 0 0), (3, vO 1 0 2 0 0), (6, vW 2 0 y14.2.length), (14, vI y14.1), (15, vO 3 0 2 0 0), (67, vS e65 a0_6), (68, vI (a0_6.length : Int)), (69, vI y14.1)] ((0 ≤ y14.1 ∧ y14.1 < (a0_6.length : Int)) ∧ (True)) 6 [2, 3, 6, 14, 15, 67, 68, 69] ⟨c18, trivial⟩ ?_
           refine thenQ_n ?_
           refine js ?_
           refine jr ?_
           refine jh [(2, vO 0 0 8 0 0), (3, vO 1 0 2 0 0), (6, vW 2 0 y14.2.length), (14, vI y14.1), (67, vS e65 a0_6), (68, vI (a0_6.length : Int)), (69, vI y14.1), (74, .agg [aI a0_0, aI a0_1, aI a0_2, aI a0_3, aS e28 a0_4, aS e72 a0_5, aS e65 a0_6, aS e77 a0_7]), (75, .agg [aS e44 a1_0, aS e28 a1_1]), (76, .agg [aS e62 ((a0_6.getD y14.1.toNat e65.d).1), aS e62 ((a0_6.getD y14.1.toNat e65.d).2)])] 3 [2, 3, 6, 14, 67, 68, 69, 74, 75, 76] ?_
           obtain ⟨r19, gr19, h⟩ := bind_some h
           refine jl 77 Tryd.call95 (p95 L _ _ _ _ _ _ _ _ _ _ _ _ _ gr19) ?_
           refine jg [(2, vO 0 0 8 0 0), (3, vO 1 0 2 0 0), (6, vW 2 0 y14.2.length), (14, vI y14.1), (67, vS e65 a0_6), (68, vI (a0_6.length : Int)), (69, vI y14.1), (78, vB (!r19))] 1 [2, 3, 6, 14, 67, 68, 69, 78] ?_
           refine thenQ_n ?_
           refine jc (!r19) (fun hb => ?_) (fun hb => ?_)
           · have h := cond_t hb h
             refine jr ?_
             obtain ⟨c20, h⟩ := ck_bind h
             refine jH [(2, vO 0 0 8 0 0), (3, vO 1 0 2 0 0), (67, vS e65 a0_6), (68, vI (a0_6.length : Int)), (69, vI y14.1), (79, vW 2 0 y14.2.length), (85, .agg [aI ((a0_5.length : Int) + y14.1), aI (-1)])] ((inR .i64 ((a0_5.length : Int) + y14.1)) ∧ (True)) 7 [2, 3, 67, 68, 69, 79, 85] ⟨c20, trivial⟩ ?_
             refine WO_q1 (r := .cell (.c (rawC 1 2 [.int .i64 ((a0_5.length : Int) + y14.1), .int .i64 (-1)]))) (r' := vS e85 [(((a0_5.length : Int) + y14.1), (-1 : Int))]) (d := some 86) (φ := True) (raw_weak e85 (xs := [(((a0_5.length : Int) + y14.1), (-1 : Int))]) rfl rfl (by kernel_rfl) (by kernel_rfl)) (by kernel_rfl) trivial ?_
             obtain ⟨c21, h⟩ := ck_bind h
             refine WO_app e85 y14.2 [(((a0_5.length : Int) + y14.1), (-1 : Int))] (b := 2) (ver := 0) (e := 85) (d := 87) (row2 := fun i j => (e85.row ([(((a0_5.length : Int) + y14.1), (-1 : Int))].getD i e85.d)).getD j .jk) (Φ := (0 = 0 ∧ (y14.2.length + [(((a0_5.length : Int) + y14.1), (-1 : Int))].length) * 16 ≤ 140737488355328 ∧ y14.2.length + [(((a0_5.length : Int) + y14.1), (-1 : Int))].length ≤ 140737488355328) ∧ True) (σ' := [bL 27 [aI a0_0, aI a0_1, aI a0_2, aI a0_3, aS e28 a0_4, aS e72 a0_5, aS e65 a0_6, aS e77 a0_7], bL 30 [aS e44 a1_0, aS e28 a1_1], some (rwB e85 1 85 (y14.2 ++ [(((a0_5.length : Int) + y14.1), (-1 : Int))])), bL 65 [aS e62 ((a0_6.getD y14.1.toNat e65.d).1), aS e62 ((a0_6.getD y14.1.toNat e65.d).2)]]) (T' := [(87, vW 2 1 ((y14.2 ++ [(((a0_5.length : Int) + y14.1), (-1 : Int))]).length)), (86, vS e85 [(((a0_5.length : Int) + y14.1), (-1 : Int))]), (2, vO 0 0 8 0 0), (3, vO 1 0 2 0 0), (67, vS e65 a0_6), (68, vI (a0_6.length : Int)), (69, vI y14.1), (79, vW 2 0 y14.2.length), (85, .agg [aI ((a0_5.length : Int) + y14.1), aI (-1)])]) (by kernel_rfl) ⟨⟨rfl, c21⟩, trivial⟩ (Nat.le_of_ble_eq_true (by kernel_rfl)) (fun _ _ _ _ => rfl) (by kernel_rfl) (by kernel_rfl) ?_
             refine jg [(2, vO 0 0 8 0 0), (3, vO 1 0 2 0 0), (6, vW 2 1 ((y14.2 ++ [(((a0_5.length : Int) + y14.1), (-1 : Int))]).length)), (67, vS e65 a0_6), (68, vI (a0_6.length : Int)), (69, vI y14.1)] 1 [2, 3, 6, 67, 68, 69] ?_
             refine blockQ_n ?_
             obtain rfl := si h
             exact thenQ_n (jE [.keep [2, 3, 6, 67, 68, 69], .take 3, .ver0 2])
           · have h := cond_f hb h
             refine jk ?_
             refine blockQ_n ?_
             obtain rfl := si h
             exact thenQ_n (jE [.keep [2, 3, 6, 67, 68, 69], .take 3, .ver0 2])
       · have h := cond_f hb h
         refine je 4 ?_
         refine thenQ_e ?_
         obtain rfl := si h; refine round_e rfl (fun hb => ?_); subst hb; have h := kb15
         refine blockQ_hit ?_
         obtain rfl := si h
         exact thenQ_n (jE [.keep [2, 3, 6], .take 3, .ver0 2])
   · have h := gy2; clear gy2 ky2
     refine js ?_
     refine jr ?_
     refine jg [(2, vO 0 0 8 0 0), (3, vO 1 0 2 0 0), (6, .cell (.c (.nsl))), (23, vS e72 a0_5), (24, vI (a0_5.length : Int)), (25, vI 0)] 4 [2, 3, 6, 23, 24, 25] ?_
     refine thenQ_n ?_
     refine jb 0 ?_
     refine W_ent (σ' := [bL 27 [aI a0_0, aI a0_1, aI a0_2, aI a0_3, aS e28 a0_4, aS e72 a0_5, aS e65 a0_6, aS e77 a0_7], bL 30 [aS e44 a1_0, aS e28 a1_1], some (rwB e85 0 85 ([] : List (Int × Int)))]) (T' := [(6, vW 2 0 0), (2, vO 0 0 8 0 0), (3, vO 1 0 2 0 0), (23, vS e72 a0_5), (24, vI (a0_5.length : Int)), (25, vI 0)]) (jE [.own 6 85 2 (fun i j => (e85.row (([] : List (Int × Int)).getD i e85.d)).getD j .jk)]) ?_
     obtain ⟨b23, gb23, kb23⟩ := bind_some h
     refine W_loop_at (S := fun (y22 : (Int × (List (Int × Int)))) => ([bL 27 [aI a0_0, aI a0_1, aI a0_2, aI a0_3, aS e28 a0_4, aS e72 a0_5, aS e65 a0_6, aS e77 a0_7], bL 30 [aS e44 a1_0, aS e28 a1_1], some (rwB e85 0 85 y22.2)], [(2, vO 0 0 8 0 0), (3, vO 1 0 2 0 0), (6, vW 2 0 y22.2.length), (23, vS e72 a0_5), (24, vI (a0_5.length : Int)), (25, vI y22.1)])) (step := _) (x0 := ((0 : Int), ([] : List (Int × Int)))) (b := b23) (L.ok _ _ _ gb23) (by kernel_rfl) (jE [.keep [2, 3, 6, 23, 24, 25], .take 3, .ver0 2]) ?_
     clear gb23 h; intro y22 o h; unfold s42_2 at h
     refine js ?_
     refine jr ?_
     refine jg [(2, vO 0 0 8 0 0), (3, vO 1 0 2 0 0), (6, vW 2 0 y22.2.length), (23, vS e72 a0_5), (24, vI (a0_5.length : Int)), (25, vI y22.1), (26, vB (decide (y22.1 < (a0_5.length : Int))))] 1 [2, 3, 6, 23, 24, 25, 26] ?_
     refine thenQ_n ?_
     refine js ?_
     refine jc (decide (y22.1 < (a0_5.length : Int))) (fun hb => ?_) (fun hb => ?_)
     · have h := cond_t hb h
       refine jk ?_
       refine thenQ_n ?_
       obtain ⟨y24, gy24, ky24⟩ := bind_some h
       refine W_cut (by kernel_rfl) [bL 27 [aI a0_0, aI a0_1, aI a0_2, aI a0_3, aS e28 a0_4, aS e72 a0_5, aS e65 a0_6, aS e77 a0_7], bL 30 [aS e44 a1_0, aS e28 a1_1], some (rwB e85 0 85 y24)] [(2, vO 0 0 8 0 0), (3, vO 1 0 2 0 0), (6, vW 2 0 y24.length), (23, vS e72 a0_5), (24, vI (a0_5.length : Int)), (25, vI y22.1)] ?_ ?_
       · have h := ky24; clear gy24 ky24
         refine jr ?_
         obtain ⟨c25, h⟩ := ck_bind h
         refine jG [(2, vO 0 0 8 0 0), (3, vO 1 0 2 0 0), (6, vW 2 0 y24.length), (23, vS e72 a0_5), (24, vI (a0_5.length : Int)), (25, vI (y22.1 + (1 : Int)))] ((inR .i64 (y22.1 + (1 : Int))) ∧ (True)) 2 [2, 3, 6, 23, 24, 25] ⟨c25, trivial⟩ ?_
         obtain rfl := si h
         exact round_n _ rfl (jE [.keep [2, 3, 6, 23, 24, 25], .take 3, .ver0 2])
       · have h := gy24; clear gy24 ky24
         refine jb 1 ?_
         refine js ?_
         refine jr ?_
         obtain ⟨c26, h⟩ := ck_bind h
         refine jF [bL 27 [aI a0_0, aI a0_1, aI a0_2, aI a0_3, aS e28 a0_4, aS e72 a0_5, aS e65 a0_6, aS e77 a0_7], bL 30 [aS e44 a1_0, aS e28 a1_1], some (rwB e85 0 85 y22.2), bL 72 [aY ((a0_5.getD y22.1.toNat e72.d).1), aS e74 ((a0_5.getD y22.1.toNat e72.d).2)]] [(2, vO 0 0 8 0 0), (3, vO 1 0 2 0 0), (6, vW 2 0 y22.2.length), (7, vI y22.1), (8, vO 3 0 2 0 0), (23, vS e72 a0_5), (24, vI (a0_5.length : Int)), (25, vI y22.1)] ((0 ≤ y22.1 ∧ y22.1 < (a0_5.length : Int)) ∧ (True)) 6 [2, 3, 6, 7, 8, 23, 24, 25] ⟨c26, trivial⟩ ?_
         refine thenQ_n ?_
         refine js ?_
         refine jdr 10 mixed ?_
         obtain ⟨c27, h⟩ := ck_bind h
         refine jY 5 [(2, vO 0 0 8 0 0), (3, vO 1 0 2 0 0), (6, vW 2 0 y22.2.length), (7, vI y22.1), (8, vO 3 0 2 0 0), (23, vS e72 a0_5), (24, vI (a0_5.length : Int)), (25, vI y22.1), (32, vY ((a0_5.getD y22.1.toNat e72.d).1)), (35, vI ((1 : Int) * 2 ^ a0_1.toNat))] ((0 ≤ a0_1 ∧ a0_1 < ((IntKind.bits .i64 : Nat) : Int) ∧ inR .i64 ((1 : Int) * 2 ^ a0_1.toNat)) ∧ (True)) 5 [2, 3, 6, 7, 8, 23, 24, 25, 32, 35] ⟨c27, trivial⟩ ?_
         obtain ⟨r28, gr28, h⟩ := bind_some h
         refine jL 36 Tryd.call93 (p93 L _ _ _ gr28) ?_
         refine jy 0 [(2, vO 0 0 8 0 0), (3, vO 1 0 2 0 0), (6, vW 2 0 y22.2.length), (7, vI y22.1), (8, vO 3 0 2 0 0), (9, vI r28.1), (23, vS e72 a0_5), (24, vI (a0_5.length : Int)), (25, vI y22.1), (38, vI r28.2)] 4 [2, 3, 6, 7, 8, 9, 23, 24, 25, 38] ?_
         refine WQ_done ?_
         refine jg [(2, vO 0 0 8 0 0), (3, vO 1 0 2 0 0), (6, vW 2 0 y22.2.length), (7, vI y22.1), (8, vO 3 0 2 0 0), (9, vI r28.1), (10, vI r28.2), (23, vS e72 a0_5), (24, vI (a0_5.length : Int)), (25, vI y22.1)] 1 [2, 3, 6, 7, 8, 9, 10, 23, 24, 25] ?_
         refine thenQ_n ?_
         refine js ?_
         refine jr ?_
         refine jg [(2, vO 0 0 8 0 0), (3, vO 1 0 2 0 0), (6, vW 2 0 y22.2.length), (7, vI y22.1), (8, vO 3 0 2 0 0), (10, vI r28.2), (11, vI r28.1), (23, vS e72 a0_5), (24, vI (a0_5.length : Int)), (25, vI y22.1)] 2 [2, 3, 6, 7, 8, 10, 11, 23, 24, 25] ?_
         refine thenQ_n ?_
         refine jb 2 ?_
         obtain ⟨b30, gb30, kb30⟩ := bind_some h
         refine W_loop_at (S := fun (y29 : (Int × (List (Int × Int)))) => ([bL 27 [aI a0_0, aI a0_1, aI a0_2, aI a0_3, aS e28 a0_4, aS e72 a0_5, aS e65 a0_6, aS e77 a0_7], bL 30 [aS e44 a1_0, aS e28 a1_1], some (rwB e85 0 85 y29.2), bL 72 [aY ((a0_5.getD y22.1.toNat e72.d).1), aS e74 ((a0_5.getD y22.1.toNat e72.d).2)]], [(2, vO 0 0 8 0 0), (3, vO 1 0 2 0 0), (6, vW 2 0 y29.2.length), (7, vI y22.1), (8, vO 3 0 2 0 0), (10, vI r28.2), (11, vI y29.1), (23, vS e72 a0_5), (24, vI (a0_5.length : Int)), (25, vI y22.1)])) (step := _) (x0 := (r28.1, y22.2)) (b := b30) (L.ok _ _ _ gb30) (by kernel_rfl) (jE [.keep [2, 3, 6, 7, 8, 10, 11, 23, 24, 25], .take 4, .ver0 2]) ?_
         clear gb30 h; intro y29 o h; unfold s42_3 at h
         refine js ?_
         refine js ?_
         refine jr ?_
         refine jg [(2, vO 0 0 8 0 0), (3, vO 1 0 2 0 0), (6, vW 2 0 y29.2.length), (7, vI y22.1), (8, vO 3 0 2 0 0), (10, vI r28.2), (11, vI y29.1), (23, vS e72 a0_5), (24, vI (a0_5.length : Int)), (25, vI y22.1), (42, vB (decide (y29.1 < r28.2)))] 3 [2, 3, 6, 7, 8, 10, 11, 23, 24, 25, 42] ?_
         refine thenQ_n ?_
         refine jc (decide (y29.1 < r28.2)) (fun hb => ?_) (fun hb => ?_)
         · have h := cond_t hb h
           refine jk ?_
           refine thenQ_n ?_
           obtain ⟨y31, gy31, ky31⟩ := bind_some h
           refine W_cut (by kernel_rfl) [bL 27 [aI a0_0, aI a0_1, aI a0_2, aI a0_3, aS e28 a0_4, aS e72 a0_5, aS e65 a0_6, aS e77 a0_7], bL 30 [aS e44 a1_0, aS e28 a1_1], some (rwB e85 0 85 y31), bL 72 [aY ((a0_5.getD y22.1.toNat e72.d).1), aS e74 ((a0_5.getD y22.1.toNat e72.d).2)]] [(2, vO 0 0 8 0 0), (3, vO 1 0 2 0 0), (6, vW 2 0 y31.length), (7, vI y22.1), (8, vO 3 0 2 0 0), (10, vI r28.2), (11, vI y29.1), (23, vS e72 a0_5), (24, vI (a0_5.length : Int)), (25, vI y22.1)] ?_ ?_
           · have h := ky31; clear gy31 ky31
             refine jr ?_
             obtain ⟨c32, h⟩ := ck_bind h
             refine jG [(2, vO 0 0 8 0 0), (3, vO 1 0 2 0 0), (6, vW 2 0 y31.length), (7, vI y22.1), (8, vO 3 0 2 0 0), (10, vI r28.2), (11, vI (y29.1 + (1 : Int))), (23, vS e72 a0_5), (24, vI (a0_5.length : Int)), (25, vI y22.1)] ((inR .i64 (y29.1 + (1 : Int))) ∧ (True)) 3 [2, 3, 6, 7, 8, 10, 11, 23, 24, 25] ⟨c32, trivial⟩ ?_
             obtain rfl := si h
             exact round_n _ rfl (jE [.keep [2, 3, 6, 7, 8, 10, 11, 23, 24, 25], .take 4, .ver0 2])
           · have h := gy31; clear gy31 ky31
             refine jb 3 ?_
             refine js ?_
             refine jdr 13 mixed ?_
             refine jy 6 [(2, vO 0 0 8 0 0), (3, vO 1 0 2 0 0), (6, vW 2 0 y29.2.length), (7, vI y22.1), (8, vO 3 0 2 0 0), (10, vI r28.2), (11, vI y29.1), (23, vS e72 a0_5), (24, vI (a0_5.length : Int)), (25, vI y22.1), (47, vI a0_0), (49, vS e74 ((a0_5.getD y22.1.toNat e72.d).2)), (50, .agg [aI a0_0, aI a0_1, aI a0_2, aI a0_3, aS e28 a0_4, aS e72 a0_5, aS e65 a0_6, aS e77 a0_7]), (51, .agg [aS e44 a1_0, aS e28 a1_1]), (52, vI y29.1)] 7 [2, 3, 6, 7, 8, 10, 11, 23, 24, 25, 47, 49, 50, 51, 52] ?_
             obtain ⟨r33, gr33, h⟩ := bind_some h
             refine jL 53 Tryd.call46 (p46 L _ _ _ _ _ _ _ _ _ _ _ _ gr33) ?_
             obtain ⟨r34, gr34, h⟩ := bind_some h
             refine jL 54 Tryd.call94 (p94 L _ _ _ _ _ _ _ _ _ _ gr34) ?_
             refine jy 0 [(2, vO 0 0 8 0 0), (3, vO 1 0 2 0 0), (6, vW 2 0 y29.2.length), (7, vI y22.1), (8, vO 3 0 2 0 0), (10, vI r28.2), (11, vI y29.1), (12, vU r34.1), (23, vS e72 a0_5), (24, vI (a0_5.length : Int)), (25, vI y22.1), (56, vI r34.2)] 4 [2, 3, 6, 7, 8, 10, 11, 12, 23, 24, 25, 56] ?_
             refine WQ_done ?_
             refine jg [(2, vO 0 0 8 0 0), (3, vO 1 0 2 0 0), (6, vW 2 0 y29.2.length), (7, vI y22.1), (8, vO 3 0 2 0 0), (10, vI r28.2), (11, vI y29.1), (12, vU r34.1), (23, vS e72 a0_5), (24, vI (a0_5.length : Int)), (25, vI y22.1)] 1 [2, 3, 6, 7, 8, 10, 11, 12, 23, 24, 25] ?_
             refine thenQ_n ?_
             refine js ?_
             refine jr ?_
             refine jg [(2, vO 0 0 8 0 0), (3, vO 1 0 2 0 0), (6, vW 2 0 y29.2.length), (7, vI y22.1), (8, vO 3 0 2 0 0), (10, vI r28.2), (11, vI y29.1), (23, vS e72 a0_5), (24, vI (a0_5.length : Int)), (25, vI y22.1), (58, vB (!(decide (r34.1 = (0 : Int)))))] 2 [2, 3, 6, 7, 8, 10, 11, 23, 24, 25, 58] ?_
             refine thenQ_n ?_
             refine jc (!(decide (r34.1 = (0 : Int)))) (fun hb => ?_) (fun hb => ?_)
             · have h := cond_t hb h
               refine jr ?_
               refine jh [(2, vO 0 0 8 0 0), (3, vO 1 0 2 0 0), (7, vI y22.1), (8, vO 3 0 2 0 0), (10, vI r28.2), (11, vI y29.1), (23, vS e72 a0_5), (24, vI (a0_5.length : Int)), (25, vI y22.1), (59, vW 2 0 y29.2.length), (62, .agg [aI y22.1, aI y29.1])] 4 [2, 3, 7, 8, 10, 11, 23, 24, 25, 59, 62] ?_
               refine WO_q1 (r := .cell (.c (rawC 1 2 [.int .i64 y22.1, .int .i64 y29.1]))) (r' := vS e85 [(y22.1, y29.1)]) (d := some 63) (φ := True) (raw_weak e85 (xs := [(y22.1, y29.1)]) rfl rfl (by kernel_rfl) (by kernel_rfl)) (by kernel_rfl) trivial ?_
               obtain ⟨c35, h⟩ := ck_bind h
               refine WO_app e85 y29.2 [(y22.1, y29.1)] (b := 2) (ver := 0) (e := 85) (d := 64) (row2 := fun i j => (e85.row ([(y22.1, y29.1)].getD i e85.d)).getD j .jk) (Φ := (0 = 0 ∧ (y29.2.length + [(y22.1, y29.1)].length) * 16 ≤ 140737488355328 ∧ y29.2.length + [(y22.1, y29.1)].length ≤ 140737488355328) ∧ True) (σ' := [bL 27 [aI a0_0, aI a0_1, aI a0_2, aI a0_3, aS e28 a0_4, aS e72 a0_5, aS e65 a0_6, aS e77 a0_7], bL 30 [aS e44 a1_0, aS e28 a1_1], some (rwB e85 1 85 (y29.2 ++ [(y22.1, y29.1)])), bL 72 [aY ((a0_5.getD y22.1.toNat e72.d).1), aS e74 ((a0_5.getD y22.1.toNat e72.d).2)]]) (T' := [(64, vW 2 1 ((y29.2 ++ [(y22.1, y29.1)]).length)), (63, vS e85 [(y22.1, y29.1)]), (2, vO 0 0 8 0 0), (3, vO 1 0 2 0 0), (7, vI y22.1), (8, vO 3 0 2 0 0), (10, vI r28.2), (11, vI y29.1), (23, vS e72 a0_5), (24, vI (a0_5.length : Int)), (25, vI y22.1), (59, vW 2 0 y29.2.length), (62, .agg [aI y22.1, aI y29.1])]) (by kernel_rfl) ⟨⟨rfl, c35⟩, trivial⟩ (Nat.le_of_ble_eq_true (by kernel_rfl)) (fun _ _ _ _ => rfl) (by kernel_rfl) (by kernel_rfl) ?_
               refine jg [(2, vO 0 0 8 0 0), (3, vO 1 0 2 0 0), (6, vW 2 1 ((y29.2 ++ [(y22.1, y29.1)]).length)), (7, vI y22.1), (8, vO 3 0 2 0 0), (10, vI r28.2), (11, vI y29.1), (23, vS e72 a0_5), (24, vI (a0_5.length : Int)), (25, vI y22.1)] 1 [2, 3, 6, 7, 8, 10, 11, 23, 24, 25] ?_
               refine blockQ_n ?_
               obtain rfl := si h
               exact thenQ_n (jE [.keep [2, 3, 6, 7, 8, 10, 11, 23, 24, 25], .take 4, .ver0 2])
             · have h := cond_f hb h
               refine jk ?_
               refine blockQ_n ?_
               obtain rfl := si h
               exact thenQ_n (jE [.keep [2, 3, 6, 7, 8, 10, 11, 23, 24, 25], .take 4, .ver0 2])
         · have h := cond_f hb h
           refine je 2 ?_
           refine thenQ_e ?_
           obtain rfl := si h; refine round_e rfl (fun hb => ?_); subst hb; have h := kb30
           refine blockQ_hit ?_
           refine blockQ_n ?_
           obtain rfl := si h
           exact thenQ_n (jE [.keep [2, 3, 6, 23, 24, 25], .take 3, .ver0 2])
     · have h := cond_f hb h
       refine je 0 ?_
       refine thenQ_e ?_
       obtain rfl := si h; refine round_e rfl (fun hb => ?_); subst hb; have h := kb23
       refine blockQ_hit ?_
       obtain rfl := si h
       exact thenQ_n (jE [.keep [2, 3, 6], .take 3, .ver0 2])

/- system.Holds -/
def s39 (L : LP) (a0_0 : Int) (a0_1 : Int) (a0_2 : Int) (a0_3 : Int) (a0_4 : (List (List Int))) (a0_5 : (List (Int × (List (Int × (List (Int × Int))))))) (a0_6 : (List ((List (List (Int × Int))) × (List (List (Int × Int)))))) (a0_7 : (List ((List (Int × Int)) × (List (Int × Int)) × Int × Int))) (a1_0 : (List Int)) (a1_1 : (List (List Int))) : Option (Bool × Int) :=
  (s42 L a0_0 a0_1 a0_2 a0_3 a0_4 a0_5 a0_6 a0_7 a1_0 a1_1).bind fun r1 =>
  (bif (decide (r1.2 = (0 : Int))) then some (decide ((r1.1.length : Int) = (0 : Int)))
  else some false).bind fun y2 =>
  some (y2, r1.2)
theorem p39 (L : LP) (a0_0 : Int) (a0_1 : Int) (a0_2 : Int) (a0_3 : Int) (a0_4 : (List (List Int))) (a0_5 : (List (Int × (List (Int × (List (Int × Int))))))) (a0_6 : (List ((List (List (Int × Int))) × (List (List (Int × Int)))))) (a0_7 : (List ((List (Int × Int)) × (List (Int × Int)) × Int × Int))) (a1_0 : (List Int)) (a1_1 : (List (List Int))) (r : (Bool × Int)) (h : s39 L a0_0 a0_1 a0_2 a0_3 a0_4 a0_5 a0_6 a0_7 a1_0 a1_1 = some r) : Pure X 39 [.agg [aI a0_0, aI a0_1, aI a0_2, aI a0_3, aS e28 a0_4, aS e72 a0_5, aS e65 a0_6, aS e77 a0_7], .agg [aS e44 a1_0, aS e28 a1_1]] (tupV [vB r.1, vI r.2]) := by
 refine Pure_of_W (c := cd Tryd.f39 []) Tryd.func39 (by kernel_rfl) (N := 22) (by kernel_rfl) (Nat.le_of_ble_eq_true (by kernel_rfl)) ?_
 unfold s39 at h
 refine js ?_
 refine jr ?_
 refine jf [bL 27 [aI a0_0, aI a0_1, aI a0_2, aI a0_3, aS e28 a0_4, aS e72 a0_5, aS e65 a0_6, aS e77 a0_7], bL 30 [aS e44 a1_0, aS e28 a1_1]] [(2, vO 0 0 8 0 0), (3, vO 1 0 2 0 0)] 4 [2, 3] ?_
 refine thenQ_n ?_
 refine js ?_
 refine jr ?_
 refine jh [(9, .agg [aI a0_0, aI a0_1, aI a0_2, aI a0_3, aS e28 a0_4, aS e72 a0_5, aS e65 a0_6, aS e77 a0_7]), (10, .agg [aS e44 a1_0, aS e28 a1_1])] 2 [9, 10] ?_
 obtain ⟨r1, gr1, h⟩ := bind_some h
 refine jl 11 Tryd.call42 (p42 L _ _ _ _ _ _ _ _ _ _ _ gr1) ?_
 refine jg [(6, vS e85 r1.1), (7, vI r1.2)] 5 [6, 7] ?_
 refine thenQ_n ?_
 refine js ?_
 refine jr ?_
 refine jh [(6, vS e85 r1.1), (7, vI r1.2), (16, vB (decide (r1.2 = (0 : Int))))] 3 [6, 7, 16] ?_
 obtain ⟨y2, gy2, h⟩ := bind_some h
 refine jj 7 [(7, vI r1.2), (20, vB y2)] ?_ ?_
 · clear gy2
   refine jg [(4, vB y2), (5, vI r1.2)] 3 [4, 5] ?_
   refine thenQ_n ?_
   refine jt ?_
   obtain rfl := si h
   exact jq [vB y2, vI r1.2]
 · intro J
   clear h
   rcases Bool.eq_false_or_eq_true (decide (r1.2 = (0 : Int))) with hb | hb
   · have h := cond_t hb gy2; clear gy2
     refine jd 16 hb ?_
     refine jh [(7, vI r1.2), (16, vB true), (19, vB (decide ((r1.1.length : Int) = (0 : Int))))] 3 [7, 16, 19] ?_
     obtain rfl := si h
     refine jh [(7, vI r1.2), (20, vB (decide ((r1.1.length : Int) = (0 : Int))))] 1 [7, 20] J
   · have h := cond_f hb gy2; clear gy2
     refine jd 16 hb ?_
     obtain rfl := si h
     refine jh [(7, vI r1.2), (20, vB false)] 4 [7, 20] J

/- attestorlaw13.counter -/
def s40 (L : LP) (a0 : Int) : Option (Int × Int × Int × Int × (List (List Int)) × (List (Int × (List (Int × (List (Int × Int)))))) × (List ((List (List (Int × Int))) × (List (List (Int × Int))))) × (List ((List (Int × Int)) × (List (Int × Int)) × Int × Int))) :=
  some ((0 : Int), (1 : Int), (1 : Int), (0 : Int), [], [(a0, [((1 : Int), [((2 : Int), (0 : Int))]), ((96 : Int), [((1 : Int), (0 : Int))]), ((96 : Int), [])])], [], [])
theorem p40 (L : LP) (a0 : Int) (r : (Int × Int × Int × Int × (List (List Int)) × (List (Int × (List (Int × (List (Int × Int)))))) × (List ((List (List (Int × Int))) × (List (List (Int × Int))))) × (List ((List (Int × Int)) × (List (Int × Int)) × Int × Int)))) (h : s40 L a0 = some r) : Pure X 40 [vY a0] (.agg [aI r.1, aI r.2.1, aI r.2.2.1, aI r.2.2.2.1, aS e28 r.2.2.2.2.1, aS e72 r.2.2.2.2.2.1, aS e65 r.2.2.2.2.2.2.1, aS e77 r.2.2.2.2.2.2.2]) := by
 refine Pure_of_W (c := cd Tryd.f40 []) Tryd.func40 (by kernel_rfl) (N := 21) (by kernel_rfl) (Nat.le_of_ble_eq_true (by kernel_rfl)) ?_
 unfold s40 at h
 refine js ?_
 refine jr ?_
 refine jf [bL 27 [aI 0, aI 0, aI 0, aI 0, .c (.nsl), .c (.nsl), .c (.nsl), .c (.nsl)]] [(0, vY a0), (2, vO 0 0 8 0 0)] 1 [0, 2] ?_
 refine thenQ_n ?_
 refine js ?_
 refine jr ?_
 refine jf [bL 27 [aI 0, aI 0, aI 0, aI 0, .c (.nsl), .c (.nsl), .c (.nsl), .c (.nsl)], bL 61 [aY 1, aI 0], bL 61 [aY 2, aI 0]] [(0, vY a0), (2, vO 0 0 8 0 0), (3, vO 1 0 2 0 0), (4, vO 2 0 2 0 0)] 6 [0, 2, 3, 4] ?_
 refine thenQ_n ?_
 refine js ?_
 refine jr ?_
 refine jh [(0, vY a0), (2, vO 0 0 8 0 0), (3, vO 1 0 2 0 0), (8, .agg [aY 2, aI 0])] 1 [0, 2, 3, 8] ?_
 refine WO_q1 (r := .cell (.c (rawC 1 2 [.int .u8 2, .int .i64 0]))) (r' := vS e61 [((2 : Int), (0 : Int))]) (d := some 9) (φ := True) (raw_weak e61 (xs := [((2 : Int), (0 : Int))]) rfl rfl (by kernel_rfl) (by kernel_rfl)) (by kernel_rfl) trivial ?_
 refine jh [(0, vY a0), (2, vO 0 0 8 0 0), (10, .agg [aU 1, aS e61 [((2 : Int), (0 : Int))]]), (11, .agg [aY 1, aI 0])] 2 [0, 2, 10, 11] ?_
 refine WO_q1 (r := .cell (.c (rawC 1 2 [.int .u8 1, .int .i64 0]))) (r' := vS e61 [((1 : Int), (0 : Int))]) (d := some 12) (φ := True) (raw_weak e61 (xs := [((1 : Int), (0 : Int))]) rfl rfl (by kernel_rfl) (by kernel_rfl)) (by kernel_rfl) trivial ?_
 refine jh [(0, vY a0), (2, vO 0 0 8 0 0), (10, .agg [aU 1, aS e61 [((2 : Int), (0 : Int))]]), (13, .agg [aU 96, aS e61 [((1 : Int), (0 : Int))]]), (14, .agg [aU 96, .c (.nsl)])] 2 [0, 2, 10, 13, 14] ?_
 refine WO_q1 (r := .cell (.c (rawC 3 2 [.int .u64 1, slC e61 [((2 : Int), (0 : Int))], .int .u64 96, slC e61 [((1 : Int), (0 : Int))], .int .u64 96, .nsl]))) (r' := vS e74 [((1 : Int), [((2 : Int), (0 : Int))]), ((96 : Int), [((1 : Int), (0 : Int))]), ((96 : Int), [])]) (d := some 15) (φ := True) (fun G m v h => raw_weak e74 (n := 3) (sz := 2) (cs := [.int .u64 1, slC e61 [((2 : Int), (0 : Int))], .int .u64 96, slC e61 [((1 : Int), (0 : Int))], .int .u64 96, slC e61 []]) (xs := [((1 : Int), [((2 : Int), (0 : Int))]), ((96 : Int), [((1 : Int), (0 : Int))]), ((96 : Int), [])]) rfl rfl (by kernel_rfl) (by kernel_rfl) G m v (raw_up (cs := [.int .u64 1, slC e61 [((2 : Int), (0 : Int))], .int .u64 96, slC e61 [((1 : Int), (0 : Int))], .int .u64 96, .nsl]) [.no, .no, .no, .no, .no, .sl 2 (fun i j => (e61.row (([] : List (Int × Int)).getD i e61.d)).getD j .jk)] G m v h)) (by kernel_rfl) trivial ?_
 refine jg [(0, vY a0), (2, vO 0 0 8 0 0), (5, vS e74 [((1 : Int), [((2 : Int), (0 : Int))]), ((96 : Int), [((1 : Int), (0 : Int))]), ((96 : Int), [])])] 1 [0, 2, 5] ?_
 refine thenQ_n ?_
 refine js ?_
 refine jr ?_
 refine jh [(2, vO 0 0 8 0 0), (18, .agg [aY a0, aS e74 [((1 : Int), [((2 : Int), (0 : Int))]), ((96 : Int), [((1 : Int), (0 : Int))]), ((96 : Int), [])]])] 3 [2, 18] ?_
 refine WO_q1 (r := .cell (.c (rawC 1 2 [.int .u8 a0, slC e74 [((1 : Int), [((2 : Int), (0 : Int))]), ((96 : Int), [((1 : Int), (0 : Int))]), ((96 : Int), [])]]))) (r' := vS e72 [(a0, [((1 : Int), [((2 : Int), (0 : Int))]), ((96 : Int), [((1 : Int), (0 : Int))]), ((96 : Int), [])])]) (d := some 19) (φ := True) (raw_weak e72 (xs := [(a0, [((1 : Int), [((2 : Int), (0 : Int))]), ((96 : Int), [((1 : Int), (0 : Int))]), ((96 : Int), [])])]) rfl rfl (by kernel_rfl) (by kernel_rfl)) (by kernel_rfl) trivial ?_
 refine jf [bL 27 [aI 0, aI 1, aI 1, aI 0, .c (.nsl), aS e72 [(a0, [((1 : Int), [((2 : Int), (0 : Int))]), ((96 : Int), [((1 : Int), (0 : Int))]), ((96 : Int), [])])], .c (.nsl), .c (.nsl)], bL 61 [aY 1, aI 0], bL 61 [aY 2, aI 0]] [(2, vO 0 0 8 0 0)] 2 [2] ?_
 refine thenQ_n ?_
 refine jt ?_
 obtain rfl := si h
 exact jQ [.agg [aI 0, aI 1, aI 1, aI 0, .c (.nsl), aS e72 [(a0, [((1 : Int), [((2 : Int), (0 : Int))]), ((96 : Int), [((1 : Int), (0 : Int))]), ((96 : Int), [])])], .c (.nsl), .c (.nsl)]] ([.agg [.no, .no, .no, .no, .sl 1 (fun i j => (e28.row (([] : List (List Int)).getD i e28.d)).getD j .jk), .no, .sl 2 (fun i j => (e65.row (([] : List ((List (List (Int × Int))) × (List (List (Int × Int))))).getD i e65.d)).getD j .jk), .sl 4 (fun i j => (e77.row (([] : List ((List (Int × Int)) × (List (Int × Int)) × Int × Int)).getD i e77.d)).getD j .jk)]])

/- attestorlaw13.one -/
def s41 (L : LP) (a0 : (List Int)) : Option ((List Int) × (List (List Int))) :=
  some ([], [a0])
theorem p41 (L : LP) (a0 : (List Int)) (r : ((List Int) × (List (List Int)))) (h : s41 L a0 = some r) : Pure X 41 [vS e44 a0] (.agg [aS e44 r.1, aS e28 r.2]) := by
 refine Pure_of_W (c := cd Tryd.f41 []) Tryd.func41 (by kernel_rfl) (N := 6) (by kernel_rfl) (Nat.le_of_ble_eq_true (by kernel_rfl)) ?_
 unfold s41 at h
 refine js ?_
 refine jr ?_
 refine jf [bL 30 [.c (.nsl), .c (.nsl)]] [(0, vS e44 a0), (2, vO 0 0 2 0 0)] 1 [0, 2] ?_
 refine thenQ_n ?_
 refine js ?_
 refine jr ?_
 refine jh [(2, vO 0 0 2 0 0), (3, vS e44 a0)] 1 [2, 3] ?_
 refine WO_q1 (r := .cell (.c (rawC 1 1 [slC e44 a0]))) (r' := vS e28 [a0]) (d := some 4) (φ := True) (raw_weak e28 (xs := [a0]) rfl rfl (by kernel_rfl) (by kernel_rfl)) (by kernel_rfl) trivial ?_
 refine jf [bL 30 [.c (.nsl), aS e28 [a0]]] [(2, vO 0 0 2 0 0)] 2 [2] ?_
 refine thenQ_n ?_
 refine jt ?_
 obtain rfl := si h
 exact jQ [.agg [.c (.nsl), aS e28 [a0]]] ([.agg [.sl 1 (fun i j => (e44.row (([] : List Int).getD i e44.d)).getD j .jk), .no]])

/- attestorref13.SameFaults -/
def s43_0 (L : LP) (a0 : (List (Int × Int))) (a1 : (List (Int × Int))) (y3 : Int) : Option (Int ⊕ (Bool ⊕ Unit)) :=
  (bif (decide (y3 < (a0.length : Int))) then
  (ck (0 ≤ y3 ∧ y3 < (a0.length : Int))).bind fun _ =>
  (ck (0 ≤ y3 ∧ y3 < (a1.length : Int))).bind fun _ =>
  (bif (!(decide ((a0.getD y3.toNat e85.d).1 = (a1.getD y3.toNat e85.d).1) && (decide ((a0.getD y3.toNat e85.d).2 = (a1.getD y3.toNat e85.d).2) && true))) then
  some (.inr (.inl false))
  else (ck (inR .i64 (y3 + (1 : Int)))).bind fun _ =>
  some (.inl (y3 + (1 : Int))))
  else some (.inr (.inr ())))
def s43 (L : LP) (a0 : (List (Int × Int))) (a1 : (List (Int × Int))) : Option Bool :=
  (bif (!(decide ((a0.length : Int) = (a1.length : Int)))) then
  some false
  else ((L.run (s43_0 L a0 a1) (0 : Int)).bind (fun (b : Bool ⊕ Unit) => (match b with
  | .inl v => some (.inr v)
  | .inr v => some (.inl ())))).bind fun (y1 : Unit ⊕ Bool) => (match y1 with
  | .inl v2 => some true
  | .inr v2 => some v2))
theorem p43 (L : LP) (a0 : (List (Int × Int))) (a1 : (List (Int × Int))) (r : Bool) (h : s43 L a0 a1 = some r) : Pure X 43 [vS e85 a0, vS e85 a1] (vB r) := by
 refine Pure_of_W (c := cd Tryd.f43 []) Tryd.func43 (by kernel_rfl) (N := 26) (by kernel_rfl) (Nat.le_of_ble_eq_true (by kernel_rfl)) ?_
 unfold s43 at h
 refine js ?_
 refine jr ?_
 refine jg [(0, vS e85 a0), (1, vS e85 a1)] 1 [0, 1] ?_
 refine thenQ_n ?_
 refine js ?_
 refine js ?_
 refine jr ?_
 refine jg [(0, vS e85 a0), (1, vS e85 a1), (10, vB (!(decide ((a0.length : Int) = (a1.length : Int)))))] 5 [0, 1, 10] ?_
 refine thenQ_n ?_
 refine jc (!(decide ((a0.length : Int) = (a1.length : Int)))) (fun hb => ?_) (fun hb => ?_)
 · have h := cond_t hb h
   refine js ?_
   refine jr ?_
   refine jg [(4, vB false)] 1 [4] ?_
   refine thenQ_n ?_
   refine jt ?_
   refine thenQ_r ?_
   obtain rfl := si h
   exact jq [vB false]
 · have h := cond_f hb h
   refine jk ?_
   refine thenQ_n ?_
   obtain ⟨y1, gy1, ky1⟩ := bind_some h
   refine W_cutE (by kernel_rfl) (fun v2 => y1 = .inl v2) (fun v2 => ([], [])) ?_ ?_
   · intro v2 hv; subst hv; have h := ky1; clear gy1 ky1; dsimp only at h
     refine js ?_
     refine jr ?_
     refine jg [(4, vB true)] 1 [4] ?_
     refine thenQ_n ?_
     refine jt ?_
     obtain rfl := si h
     exact jq [vB true]
   · have h := gy1; clear gy1
     refine js ?_
     refine jr ?_
     refine jg [(0, vS e85 a0), (1, vS e85 a1), (5, vI 0)] 1 [0, 1, 5] ?_
     refine thenQ_n ?_
     refine jb 0 ?_
     obtain ⟨b4, gb4, kb4⟩ := bind_some h
     refine W_loop_at (S := fun (y3 : Int) => ([], [(0, vS e85 a0), (1, vS e85 a1), (5, vI y3)])) (step := _) (x0 := (0 : Int)) (b := b4) (L.ok _ _ _ gb4) (by kernel_rfl) (jE [.keep [0, 1, 5], .take 0]) ?_
     clear gb4 h; intro y3 o h; unfold s43_0 at h
     refine js ?_
     refine js ?_
     refine jr ?_
     refine jg [(0, vS e85 a0), (1, vS e85 a1), (5, vI y3), (14, vB (decide (y3 < (a0.length : Int))))] 4 [0, 1, 5, 14] ?_
     refine thenQ_n ?_
     refine jc (decide (y3 < (a0.length : Int))) (fun hb => ?_) (fun hb => ?_)
     · have h := cond_t hb h
       refine jk ?_
       refine thenQ_n ?_
       refine js ?_
       refine jb 1 ?_
       refine js ?_
       refine jdr 8 mixed ?_
       obtain ⟨c5, h⟩ := ck_bind h
       obtain ⟨c6, h⟩ := ck_bind h
       refine jY 0 [(0, vS e85 a0), (1, vS e85 a1), (5, vI y3), (20, .agg [aI ((a0.getD y3.toNat e85.d).1), aI ((a0.getD y3.toNat e85.d).2)]), (24, .agg [aI ((a1.getD y3.toNat e85.d).1), aI ((a1.getD y3.toNat e85.d).2)])] ((0 ≤ y3 ∧ y3 < (a0.length : Int)) ∧ (0 ≤ y3 ∧ y3 < (a1.length : Int)) ∧ (True)) 8 [0, 1, 5, 20, 24] ⟨c5, c6, trivial⟩ ?_
       refine WQ_done ?_
       refine jg [(0, vS e85 a0), (1, vS e85 a1), (5, vI y3), (25, vB (!(decide ((a0.getD y3.toNat e85.d).1 = (a1.getD y3.toNat e85.d).1) && (decide ((a0.getD y3.toNat e85.d).2 = (a1.getD y3.toNat e85.d).2) && true))))] 1 [0, 1, 5, 25] ?_
       refine thenQ_n ?_
       refine jc (!(decide ((a0.getD y3.toNat e85.d).1 = (a1.getD y3.toNat e85.d).1) && (decide ((a0.getD y3.toNat e85.d).2 = (a1.getD y3.toNat e85.d).2) && true))) (fun hb => ?_) (fun hb => ?_)
       · have h := cond_t hb h
         refine js ?_
         refine jr ?_
         refine jg [(4, vB false)] 1 [4] ?_
         refine thenQ_n ?_
         refine jt ?_
         refine blockQ_r ?_
         refine thenQ_r ?_
         obtain rfl := si h; refine round_r rfl (fun hb => ?_); subst hb; have h := kb4; dsimp only at h
         refine blockQ_r ?_
         obtain rfl := si h; have h := ky1; dsimp only at h; refine thenQ_r ?_
         obtain rfl := si h
         exact jq [vB false]
       · have h := cond_f hb h
         refine jk ?_
         refine blockQ_n ?_
         refine thenQ_n ?_
         refine jr ?_
         obtain ⟨c7, h⟩ := ck_bind h
         refine jG [(0, vS e85 a0), (1, vS e85 a1), (5, vI (y3 + (1 : Int)))] ((inR .i64 (y3 + (1 : Int))) ∧ (True)) 3 [0, 1, 5] ⟨c7, trivial⟩ ?_
         obtain rfl := si h
         exact round_n _ rfl (jE [.keep [0, 1, 5], .take 0])
     · have h := cond_f hb h
       refine je 0 ?_
       refine thenQ_e ?_
       obtain rfl := si h; refine round_e rfl (fun hb => ?_); subst hb; have h := kb4; dsimp only at h
       refine blockQ_hit ?_
       obtain rfl := si h
       exact thenQ_n ⟨_, rfl, jE [.keep [], .take 0]⟩

/- attestorlaw13.live -/
def s11 (L : LP) : Option Bool :=
  (s40 L (2 : Int)).bind fun r1 =>
  (s41 L [(5 : Int), (6 : Int)]).bind fun r2 =>
  (s39 L r1.1 r1.2.1 r1.2.2.1 r1.2.2.2.1 r1.2.2.2.2.1 r1.2.2.2.2.2.1 r1.2.2.2.2.2.2.1 r1.2.2.2.2.2.2.2 r2.1 r2.2).bind fun r3 =>
  (s40 L (2 : Int)).bind fun r4 =>
  (s41 L [(5 : Int), (5 : Int)]).bind fun r5 =>
  (s42 L r4.1 r4.2.1 r4.2.2.1 r4.2.2.2.1 r4.2.2.2.2.1 r4.2.2.2.2.2.1 r4.2.2.2.2.2.2.1 r4.2.2.2.2.2.2.2 r5.1 r5.2).bind fun r6 =>
  (bif r3.1 then some (decide (r3.2 = (0 : Int)))
  else some false).bind fun y7 =>
  (bif y7 then some (decide (r6.2 = (0 : Int)))
  else some false).bind fun y8 =>
  (bif y8 then (s43 L r6.1 [((0 : Int), (0 : Int))]).bind fun r10 =>
  some r10
  else some false).bind fun y9 =>
  some y9
theorem p11 (L : LP)  (r : Bool) (h : s11 L = some r) : Pure X 11 [] (vB r) := by
 refine Pure_of_W (c := cd Tryd.f11 []) Tryd.func11 (by kernel_rfl) (N := 34) (by kernel_rfl) (Nat.le_of_ble_eq_true (by kernel_rfl)) ?_
 unfold s11 at h
 refine js ?_
 refine jr ?_
 refine jg [] 1 [] ?_
 refine thenQ_n ?_
 refine js ?_
 refine jr ?_
 obtain ⟨r1, gr1, h⟩ := bind_some h
 refine jl 6 Tryd.call40 (p40 L _ _ gr1) ?_
 refine WO_q1 (r := .cell (.c (rawC 2 1 [.int .u64 5, .int .u64 6]))) (r' := vS e44 [(5 : Int), (6 : Int)]) (d := some 7) (φ := True) (raw_weak e44 (xs := [(5 : Int), (6 : Int)]) rfl rfl (by kernel_rfl) (by kernel_rfl)) (by kernel_rfl) trivial ?_
 obtain ⟨r2, gr2, h⟩ := bind_some h
 refine jl 8 Tryd.call41 (p41 L _ _ gr2) ?_
 obtain ⟨r3, gr3, h⟩ := bind_some h
 refine jl 9 Tryd.call39 (p39 L _ _ _ _ _ _ _ _ _ _ _ gr3) ?_
 refine jg [(1, vB r3.1), (2, vI r3.2)] 5 [1, 2] ?_
 refine thenQ_n ?_
 refine js ?_
 refine jr ?_
 obtain ⟨r4, gr4, h⟩ := bind_some h
 refine jl 13 Tryd.call40 (p40 L _ _ gr4) ?_
 refine WO_q1 (r := .cell (.c (rawC 2 1 [.int .u64 5, .int .u64 5]))) (r' := vS e44 [(5 : Int), (5 : Int)]) (d := some 14) (φ := True) (raw_weak e44 (xs := [(5 : Int), (5 : Int)]) rfl rfl (by kernel_rfl) (by kernel_rfl)) (by kernel_rfl) trivial ?_
 obtain ⟨r5, gr5, h⟩ := bind_some h
 refine jl 15 Tryd.call41 (p41 L _ _ gr5) ?_
 obtain ⟨r6, gr6, h⟩ := bind_some h
 refine jl 16 Tryd.call42 (p42 L _ _ _ _ _ _ _ _ _ _ _ gr6) ?_
 refine jg [(1, vB r3.1), (2, vI r3.2), (3, vS e85 r6.1), (4, vI r6.2)] 5 [1, 2, 3, 4] ?_
 refine thenQ_n ?_
 refine js ?_
 refine jr ?_
 refine jh [(2, vI r3.2), (3, vS e85 r6.1), (4, vI r6.2), (20, vB r3.1)] 2 [2, 3, 4, 20] ?_
 obtain ⟨y7, gy7, h⟩ := bind_some h
 refine jj 5 [(3, vS e85 r6.1), (4, vI r6.2), (23, vB y7)] ?_ ?_
 · clear gy7
   refine jh [(3, vS e85 r6.1), (4, vI r6.2), (24, vB y7)] 1 [3, 4, 24] ?_
   obtain ⟨y8, gy8, h⟩ := bind_some h
   refine jj 9 [(3, vS e85 r6.1), (27, vB y8)] ?_ ?_
   · clear gy8
     refine jh [(3, vS e85 r6.1), (28, vB y8)] 1 [3, 28] ?_
     obtain ⟨y9, gy9, h⟩ := bind_some h
     refine jj 15 [(33, vB y9)] ?_ ?_
     · clear gy9
       refine jg [(0, vB y9)] 1 [0] ?_
       refine thenQ_n ?_
       refine jt ?_
       obtain rfl := si h
       exact jq [vB y9]
     · intro J
       clear h
       rcases Bool.eq_false_or_eq_true y8 with hb | hb
       · have h := cond_t hb gy9; clear gy9
         refine jd 28 hb ?_
         refine jh [(28, vB true), (29, vS e85 r6.1), (30, .agg [aI 0, aI 0])] 2 [28, 29, 30] ?_
         refine WO_q1 (r := .cell (.c (rawC 1 2 [.int .i64 0, .int .i64 0]))) (r' := vS e85 [((0 : Int), (0 : Int))]) (d := some 31) (φ := True) (raw_weak e85 (xs := [((0 : Int), (0 : Int))]) rfl rfl (by kernel_rfl) (by kernel_rfl)) (by kernel_rfl) trivial ?_
         obtain ⟨r10, gr10, h⟩ := bind_some h
         refine jl 32 Tryd.call43 (p43 L _ _ _ gr10) ?_
         obtain rfl := si h
         refine jh [(33, vB r10)] 1 [33] J
       · have h := cond_f hb gy9; clear gy9
         refine jd 28 hb ?_
         obtain rfl := si h
         refine jh [(33, vB false)] 5 [33] J
   · intro J
     clear h
     rcases Bool.eq_false_or_eq_true y7 with hb | hb
     · have h := cond_t hb gy8; clear gy8
       refine jd 24 hb ?_
       refine jh [(3, vS e85 r6.1), (24, vB true), (26, vB (decide (r6.2 = (0 : Int))))] 2 [3, 24, 26] ?_
       obtain rfl := si h
       refine jh [(3, vS e85 r6.1), (27, vB (decide (r6.2 = (0 : Int))))] 1 [3, 27] J
     · have h := cond_f hb gy8; clear gy8
       refine jd 24 hb ?_
       obtain rfl := si h
       refine jh [(3, vS e85 r6.1), (27, vB false)] 3 [3, 27] J
 · intro J
   clear h
   rcases Bool.eq_false_or_eq_true r3.1 with hb | hb
   · have h := cond_t hb gy7; clear gy7
     refine jd 20 hb ?_
     refine jh [(3, vS e85 r6.1), (4, vI r6.2), (20, vB true), (22, vB (decide (r3.2 = (0 : Int))))] 2 [3, 4, 20, 22] ?_
     obtain rfl := si h
     refine jh [(3, vS e85 r6.1), (4, vI r6.2), (23, vB (decide (r3.2 = (0 : Int))))] 1 [3, 4, 23] J
   · have h := cond_f hb gy7; clear gy7
     refine jd 20 hb ?_
     obtain rfl := si h
     refine jh [(3, vS e85 r6.1), (4, vI r6.2), (23, vB false)] 3 [3, 4, 23] J

/- attestorref13.Equal -/
def s14_0 (L : LP) (a0 : (List Int)) (a1 : (List Int)) (y3 : Int) : Option (Int ⊕ (Bool ⊕ Unit)) :=
  (bif (decide (y3 < (a0.length : Int))) then
  (ck (0 ≤ y3 ∧ y3 < (a0.length : Int))).bind fun _ =>
  (ck (0 ≤ y3 ∧ y3 < (a1.length : Int))).bind fun _ =>
  (bif (!(decide ((a0.getD y3.toNat e44.d) = (a1.getD y3.toNat e44.d)))) then
  some (.inr (.inl false))
  else (ck (inR .i64 (y3 + (1 : Int)))).bind fun _ =>
  some (.inl (y3 + (1 : Int))))
  else some (.inr (.inr ())))
def s14 (L : LP) (a0 : (List Int)) (a1 : (List Int)) : Option Bool :=
  (bif (!(decide ((a0.length : Int) = (a1.length : Int)))) then
  some false
  else ((L.run (s14_0 L a0 a1) (0 : Int)).bind (fun (b : Bool ⊕ Unit) => (match b with
  | .inl v => some (.inr v)
  | .inr v => some (.inl ())))).bind fun (y1 : Unit ⊕ Bool) => (match y1 with
  | .inl v2 => some true
  | .inr v2 => some v2))
theorem p14 (L : LP) (a0 : (List Int)) (a1 : (List Int)) (r : Bool) (h : s14 L a0 a1 = some r) : Pure X 14 [vS e44 a0, vS e44 a1] (vB r) := by
 refine Pure_of_W (c := cd Tryd.f14 []) Tryd.func14 (by kernel_rfl) (N := 26) (by kernel_rfl) (Nat.le_of_ble_eq_true (by kernel_rfl)) ?_
 unfold s14 at h
 refine js ?_
 refine jr ?_
 refine jg [(0, vS e44 a0), (1, vS e44 a1)] 1 [0, 1] ?_
 refine thenQ_n ?_
 refine js ?_
 refine js ?_
 refine jr ?_
 refine jg [(0, vS e44 a0), (1, vS e44 a1), (10, vB (!(decide ((a0.length : Int) = (a1.length : Int)))))] 5 [0, 1, 10] ?_
 refine thenQ_n ?_
 refine jc (!(decide ((a0.length : Int) = (a1.length : Int)))) (fun hb => ?_) (fun hb => ?_)
 · have h := cond_t hb h
   refine js ?_
   refine jr ?_
   refine jg [(4, vB false)] 1 [4] ?_
   refine thenQ_n ?_
   refine jt ?_
   refine thenQ_r ?_
   obtain rfl := si h
   exact jq [vB false]
 · have h := cond_f hb h
   refine jk ?_
   refine thenQ_n ?_
   obtain ⟨y1, gy1, ky1⟩ := bind_some h
   refine W_cutE (by kernel_rfl) (fun v2 => y1 = .inl v2) (fun v2 => ([], [])) ?_ ?_
   · intro v2 hv; subst hv; have h := ky1; clear gy1 ky1; dsimp only at h
     refine js ?_
     refine jr ?_
     refine jg [(4, vB true)] 1 [4] ?_
     refine thenQ_n ?_
     refine jt ?_
     obtain rfl := si h
     exact jq [vB true]
   · have h := gy1; clear gy1
     refine js ?_
     refine jr ?_
     refine jg [(0, vS e44 a0), (1, vS e44 a1), (5, vI 0)] 1 [0, 1, 5] ?_
     refine thenQ_n ?_
     refine jb 0 ?_
     obtain ⟨b4, gb4, kb4⟩ := bind_some h
     refine W_loop_at (S := fun (y3 : Int) => ([], [(0, vS e44 a0), (1, vS e44 a1), (5, vI y3)])) (step := _) (x0 := (0 : Int)) (b := b4) (L.ok _ _ _ gb4) (by kernel_rfl) (jE [.keep [0, 1, 5], .take 0]) ?_
     clear gb4 h; intro y3 o h; unfold s14_0 at h
     refine js ?_
     refine js ?_
     refine jr ?_
     refine jg [(0, vS e44 a0), (1, vS e44 a1), (5, vI y3), (14, vB (decide (y3 < (a0.length : Int))))] 4 [0, 1, 5, 14] ?_
     refine thenQ_n ?_
     refine jc (decide (y3 < (a0.length : Int))) (fun hb => ?_) (fun hb => ?_)
     · have h := cond_t hb h
       refine jk ?_
       refine thenQ_n ?_
       refine js ?_
       refine jb 1 ?_
       refine js ?_
       refine jdr 8 mixed ?_
       obtain ⟨c5, h⟩ := ck_bind h
       obtain ⟨c6, h⟩ := ck_bind h
       refine jY 0 [(0, vS e44 a0), (1, vS e44 a1), (5, vI y3), (20, vU (a0.getD y3.toNat e44.d)), (24, vU (a1.getD y3.toNat e44.d))] ((0 ≤ y3 ∧ y3 < (a0.length : Int)) ∧ (0 ≤ y3 ∧ y3 < (a1.length : Int)) ∧ (True)) 8 [0, 1, 5, 20, 24] ⟨c5, c6, trivial⟩ ?_
       refine WQ_done ?_
       refine jg [(0, vS e44 a0), (1, vS e44 a1), (5, vI y3), (25, vB (!(decide ((a0.getD y3.toNat e44.d) = (a1.getD y3.toNat e44.d)))))] 1 [0, 1, 5, 25] ?_
       refine thenQ_n ?_
       refine jc (!(decide ((a0.getD y3.toNat e44.d) = (a1.getD y3.toNat e44.d)))) (fun hb => ?_) (fun hb => ?_)
       · have h := cond_t hb h
         refine js ?_
         refine jr ?_
         refine jg [(4, vB false)] 1 [4] ?_
         refine thenQ_n ?_
         refine jt ?_
         refine blockQ_r ?_
         refine thenQ_r ?_
         obtain rfl := si h; refine round_r rfl (fun hb => ?_); subst hb; have h := kb4; dsimp only at h
         refine blockQ_r ?_
         obtain rfl := si h; have h := ky1; dsimp only at h; refine thenQ_r ?_
         obtain rfl := si h
         exact jq [vB false]
       · have h := cond_f hb h
         refine jk ?_
         refine blockQ_n ?_
         refine thenQ_n ?_
         refine jr ?_
         obtain ⟨c7, h⟩ := ck_bind h
         refine jG [(0, vS e44 a0), (1, vS e44 a1), (5, vI (y3 + (1 : Int)))] ((inR .i64 (y3 + (1 : Int))) ∧ (True)) 3 [0, 1, 5] ⟨c7, trivial⟩ ?_
         obtain rfl := si h
         exact round_n _ rfl (jE [.keep [0, 1, 5], .take 0])
     · have h := cond_f hb h
       refine je 0 ?_
       refine thenQ_e ?_
       obtain rfl := si h; refine round_e rfl (fun hb => ?_); subst hb; have h := kb4; dsimp only at h
       refine blockQ_hit ?_
       obtain rfl := si h
       exact thenQ_n ⟨_, rfl, jE [.keep [], .take 0]⟩

/- attestorref13.Size -/
def s28_0 (L : LP) (a0_1 : Int) (y2 : (Int × Int)) : Option ((Int × Int) ⊕ Int) :=
  (bif (decide (y2.2 < a0_1)) then
  (ck (inR .i64 ((2 : Int) * y2.1))).bind fun _ =>
  (ck (inR .i64 (y2.2 + (1 : Int)))).bind fun _ =>
  some (.inl (((2 : Int) * y2.1), (y2.2 + (1 : Int))))
  else some (.inr y2.1))
def s28 (L : LP) (a0_0 : Int) (a0_1 : Int) (a0_2 : Int) (a0_3 : Int) (a0_4 : (List (List Int))) (a0_5 : (List (Int × (List (Int × (List (Int × Int))))))) (a0_6 : (List ((List (List (Int × Int))) × (List (List (Int × Int)))))) (a0_7 : (List ((List (Int × Int)) × (List (Int × Int)) × Int × Int))) : Option Int :=
  ((L.run (s28_0 L a0_1) ((1 : Int), (0 : Int))).bind (fun (v : Int) => some v)).bind fun (y1 : Int) =>
  some y1
theorem p28 (L : LP) (a0_0 : Int) (a0_1 : Int) (a0_2 : Int) (a0_3 : Int) (a0_4 : (List (List Int))) (a0_5 : (List (Int × (List (Int × (List (Int × Int))))))) (a0_6 : (List ((List (List (Int × Int))) × (List (List (Int × Int)))))) (a0_7 : (List ((List (Int × Int)) × (List (Int × Int)) × Int × Int))) (r : Int) (h : s28 L a0_0 a0_1 a0_2 a0_3 a0_4 a0_5 a0_6 a0_7 = some r) : Pure X 28 [.agg [aI a0_0, aI a0_1, aI a0_2, aI a0_3, aS e28 a0_4, aS e72 a0_5, aS e65 a0_6, aS e77 a0_7]] (vI r) := by
 refine Pure_of_W (c := cd Tryd.f28 []) Tryd.func28 (by kernel_rfl) (N := 14) (by kernel_rfl) (Nat.le_of_ble_eq_true (by kernel_rfl)) ?_
 unfold s28 at h
 refine js ?_
 refine jr ?_
 refine jf [bL 27 [aI a0_0, aI a0_1, aI a0_2, aI a0_3, aS e28 a0_4, aS e72 a0_5, aS e65 a0_6, aS e77 a0_7]] [(1, vO 0 0 8 0 0)] 2 [1] ?_
 refine thenQ_n ?_
 refine js ?_
 refine jr ?_
 refine jg [(1, vO 0 0 8 0 0), (3, vI 1)] 1 [1, 3] ?_
 refine thenQ_n ?_
 obtain ⟨y1, gy1, ky1⟩ := bind_some h
 refine W_cut (by kernel_rfl) [bL 27 [aI a0_0, aI a0_1, aI a0_2, aI a0_3, aS e28 a0_4, aS e72 a0_5, aS e65 a0_6, aS e77 a0_7]] [(3, vI y1)] ?_ ?_
 · have h := ky1; clear gy1 ky1
   refine js ?_
   refine jr ?_
   refine jg [(2, vI y1)] 2 [2] ?_
   refine thenQ_n ?_
   refine jt ?_
   obtain rfl := si h
   exact jq [vI y1]
 · have h := gy1; clear gy1 ky1
   refine js ?_
   refine jr ?_
   refine jg [(1, vO 0 0 8 0 0), (3, vI 1), (4, vI 0)] 1 [1, 3, 4] ?_
   refine thenQ_n ?_
   refine jb 0 ?_
   obtain ⟨b3, gb3, kb3⟩ := bind_some h
   refine W_loop_at (S := fun (y2 : (Int × Int)) => ([bL 27 [aI a0_0, aI a0_1, aI a0_2, aI a0_3, aS e28 a0_4, aS e72 a0_5, aS e65 a0_6, aS e77 a0_7]], [(1, vO 0 0 8 0 0), (3, vI y2.1), (4, vI y2.2)])) (step := _) (x0 := ((1 : Int), (0 : Int))) (b := b3) (L.ok _ _ _ gb3) (by kernel_rfl) (jE [.keep [1, 3, 4], .take 1]) ?_
   clear gb3 h; intro y2 o h; unfold s28_0 at h
   refine js ?_
   refine js ?_
   refine jr ?_
   refine jg [(1, vO 0 0 8 0 0), (3, vI y2.1), (4, vI y2.2), (8, vB (decide (y2.2 < a0_1)))] 4 [1, 3, 4, 8] ?_
   refine thenQ_n ?_
   refine jc (decide (y2.2 < a0_1)) (fun hb => ?_) (fun hb => ?_)
   · have h := cond_t hb h
     refine jk ?_
     refine thenQ_n ?_
     refine js ?_
     refine jb 1 ?_
     refine jr ?_
     obtain ⟨c4, h⟩ := ck_bind h
     refine jG [(1, vO 0 0 8 0 0), (3, vI ((2 : Int) * y2.1)), (4, vI y2.2)] ((inR .i64 ((2 : Int) * y2.1)) ∧ (True)) 3 [1, 3, 4] ⟨c4, trivial⟩ ?_
     refine blockQ_n ?_
     refine thenQ_n ?_
     refine jr ?_
     obtain ⟨c5, h⟩ := ck_bind h
     refine jG [(1, vO 0 0 8 0 0), (3, vI ((2 : Int) * y2.1)), (4, vI (y2.2 + (1 : Int)))] ((inR .i64 (y2.2 + (1 : Int))) ∧ (True)) 3 [1, 3, 4] ⟨c5, trivial⟩ ?_
     obtain rfl := si h
     exact round_n _ rfl (jE [.keep [1, 3, 4], .take 1])
   · have h := cond_f hb h
     refine je 0 ?_
     refine thenQ_e ?_
     obtain rfl := si h; refine round_e rfl (fun hb => ?_); subst hb; have h := kb3
     refine blockQ_hit ?_
     obtain rfl := si h
     exact thenQ_n (jE [.keep [3], .take 1])

/- attestorref01.Valid -/
def s48 (L : LP) (a0 : Int) : Option Bool :=
  (bif (decide (a0 ≥ (0 : Int))) then some (decide (a0 ≤ (3 : Int)))
  else some false).bind fun y1 =>
  some y1
theorem p48 (L : LP) (a0 : Int) (r : Bool) (h : s48 L a0 = some r) : Pure X 48 [vI a0] (vB r) := by
 refine Pure_of_W (c := cd Tryd.f48 []) Tryd.func48 (by kernel_rfl) (N := 9) (by kernel_rfl) (Nat.le_of_ble_eq_true (by kernel_rfl)) ?_
 unfold s48 at h
 refine js ?_
 refine jr ?_
 refine jg [(0, vI a0)] 1 [0] ?_
 refine thenQ_n ?_
 refine js ?_
 refine jr ?_
 refine jh [(0, vI a0), (5, vB (decide (a0 ≥ (0 : Int))))] 3 [0, 5] ?_
 obtain ⟨y1, gy1, h⟩ := bind_some h
 refine jj 6 [(8, vB y1)] ?_ ?_
 · clear gy1
   refine jg [(2, vB y1)] 1 [2] ?_
   refine thenQ_n ?_
   refine jt ?_
   obtain rfl := si h
   exact jq [vB y1]
 · intro J
   clear h
   rcases Bool.eq_false_or_eq_true (decide (a0 ≥ (0 : Int))) with hb | hb
   · have h := cond_t hb gy1; clear gy1
     refine jd 5 hb ?_
     refine jh [(5, vB true), (7, vB (decide (a0 ≤ (3 : Int))))] 2 [5, 7] ?_
     obtain rfl := si h
     refine jh [(8, vB (decide (a0 ≤ (3 : Int))))] 1 [8] J
   · have h := cond_f hb gy1; clear gy1
     refine jd 5 hb ?_
     obtain rfl := si h
     refine jh [(8, vB false)] 3 [8] J

/- attestorref01.Twos -/
def s49 (L : LP) (a0 : Int) : Option Int :=
  (bif (decide (a0 = (0 : Int))) then
  some (5 : Int)
  else (bif (decide (a0 = (1 : Int))) then
  some (8 : Int)
  else (bif (decide (a0 = (2 : Int))) then
  some (12 : Int)
  else (bif (decide (a0 = (3 : Int))) then
  some (23 : Int)
  else some (0 : Int)))))
theorem p49 (L : LP) (a0 : Int) (r : Int) (h : s49 L a0 = some r) : Pure X 49 [vI a0] (vI r) := by
 refine Pure_of_W (c := cd Tryd.f49 []) Tryd.func49 (by kernel_rfl) (N := 12) (by kernel_rfl) (Nat.le_of_ble_eq_true (by kernel_rfl)) ?_
 unfold s49 at h
 refine js ?_
 refine jr ?_
 refine jg [(0, vI a0)] 1 [0] ?_
 refine thenQ_n ?_
 refine js ?_
 refine js ?_
 refine jr ?_
 refine jg [(3, vI a0)] 1 [3] ?_
 refine thenQ_n ?_
 refine jb 0 ?_
 refine js ?_
 refine jr ?_
 refine jg [(3, vI a0), (4, vB (decide (a0 = (0 : Int))))] 2 [3, 4] ?_
 refine thenQ_n ?_
 refine jc (decide (a0 = (0 : Int))) (fun hb => ?_) (fun hb => ?_)
 · have h := cond_t hb h
   refine js ?_
   refine jr ?_
   refine jg [(2, vI 5)] 1 [2] ?_
   refine thenQ_n ?_
   refine jt ?_
   refine blockQ_r ?_
   refine thenQ_r ?_
   obtain rfl := si h
   exact jq [vI 5]
 · have h := cond_f hb h
   refine js ?_
   refine jr ?_
   refine jg [(3, vI a0), (6, vB (decide (a0 = (1 : Int))))] 2 [3, 6] ?_
   refine thenQ_n ?_
   refine jc (decide (a0 = (1 : Int))) (fun hb => ?_) (fun hb => ?_)
   · have h := cond_t hb h
     refine js ?_
     refine jr ?_
     refine jg [(2, vI 8)] 1 [2] ?_
     refine thenQ_n ?_
     refine jt ?_
     refine blockQ_r ?_
     refine thenQ_r ?_
     obtain rfl := si h
     exact jq [vI 8]
   · have h := cond_f hb h
     refine js ?_
     refine jr ?_
     refine jg [(3, vI a0), (8, vB (decide (a0 = (2 : Int))))] 2 [3, 8] ?_
     refine thenQ_n ?_
     refine jc (decide (a0 = (2 : Int))) (fun hb => ?_) (fun hb => ?_)
     · have h := cond_t hb h
       refine js ?_
       refine jr ?_
       refine jg [(2, vI 12)] 1 [2] ?_
       refine thenQ_n ?_
       refine jt ?_
       refine blockQ_r ?_
       refine thenQ_r ?_
       obtain rfl := si h
       exact jq [vI 12]
     · have h := cond_f hb h
       refine js ?_
       refine jr ?_
       refine jg [(10, vB (decide (a0 = (3 : Int))))] 2 [10] ?_
       refine thenQ_n ?_
       refine jc (decide (a0 = (3 : Int))) (fun hb => ?_) (fun hb => ?_)
       · have h := cond_t hb h
         refine js ?_
         refine jr ?_
         refine jg [(2, vI 23)] 1 [2] ?_
         refine thenQ_n ?_
         refine jt ?_
         refine blockQ_r ?_
         refine thenQ_r ?_
         obtain rfl := si h
         exact jq [vI 23]
       · have h := cond_f hb h
         refine jk ?_
         refine blockQ_n ?_
         refine thenQ_n ?_
         refine js ?_
         refine jr ?_
         refine jg [(2, vI 0)] 1 [2] ?_
         refine thenQ_n ?_
         refine jt ?_
         obtain rfl := si h
         exact jq [vI 0]

/- attestorref01.P -/
def s86 (L : LP) (a0 : Int) : Option Int :=
  (bif (decide (a0 = (0 : Int))) then
  some (97 : Int)
  else (bif (decide (a0 = (1 : Int))) then
  some (257 : Int)
  else (bif (decide (a0 = (2 : Int))) then
  some (12289 : Int)
  else (bif (decide (a0 = (3 : Int))) then
  some (998244353 : Int)
  else some (0 : Int)))))
theorem p86 (L : LP) (a0 : Int) (r : Int) (h : s86 L a0 = some r) : Pure X 86 [vI a0] (vU r) := by
 refine Pure_of_W (c := cd Tryd.f86 []) Tryd.func86 (by kernel_rfl) (N := 12) (by kernel_rfl) (Nat.le_of_ble_eq_true (by kernel_rfl)) ?_
 unfold s86 at h
 refine js ?_
 refine jr ?_
 refine jg [(0, vI a0)] 1 [0] ?_
 refine thenQ_n ?_
 refine js ?_
 refine js ?_
 refine jr ?_
 refine jg [(3, vI a0)] 1 [3] ?_
 refine thenQ_n ?_
 refine jb 0 ?_
 refine js ?_
 refine jr ?_
 refine jg [(3, vI a0), (4, vB (decide (a0 = (0 : Int))))] 2 [3, 4] ?_
 refine thenQ_n ?_
 refine jc (decide (a0 = (0 : Int))) (fun hb => ?_) (fun hb => ?_)
 · have h := cond_t hb h
   refine js ?_
   refine jr ?_
   refine jg [(2, vU 97)] 1 [2] ?_
   refine thenQ_n ?_
   refine jt ?_
   refine blockQ_r ?_
   refine thenQ_r ?_
   obtain rfl := si h
   exact jq [vU 97]
 · have h := cond_f hb h
   refine js ?_
   refine jr ?_
   refine jg [(3, vI a0), (6, vB (decide (a0 = (1 : Int))))] 2 [3, 6] ?_
   refine thenQ_n ?_
   refine jc (decide (a0 = (1 : Int))) (fun hb => ?_) (fun hb => ?_)
   · have h := cond_t hb h
     refine js ?_
     refine jr ?_
     refine jg [(2, vU 257)] 1 [2] ?_
     refine thenQ_n ?_
     refine jt ?_
     refine blockQ_r ?_
     refine thenQ_r ?_
     obtain rfl := si h
     exact jq [vU 257]
   · have h := cond_f hb h
     refine js ?_
     refine jr ?_
     refine jg [(3, vI a0), (8, vB (decide (a0 = (2 : Int))))] 2 [3, 8] ?_
     refine thenQ_n ?_
     refine jc (decide (a0 = (2 : Int))) (fun hb => ?_) (fun hb => ?_)
     · have h := cond_t hb h
       refine js ?_
       refine jr ?_
       refine jg [(2, vU 12289)] 1 [2] ?_
       refine thenQ_n ?_
       refine jt ?_
       refine blockQ_r ?_
       refine thenQ_r ?_
       obtain rfl := si h
       exact jq [vU 12289]
     · have h := cond_f hb h
       refine js ?_
       refine jr ?_
       refine jg [(10, vB (decide (a0 = (3 : Int))))] 2 [10] ?_
       refine thenQ_n ?_
       refine jc (decide (a0 = (3 : Int))) (fun hb => ?_) (fun hb => ?_)
       · have h := cond_t hb h
         refine js ?_
         refine jr ?_
         refine jg [(2, vU 998244353)] 1 [2] ?_
         refine thenQ_n ?_
         refine jt ?_
         refine blockQ_r ?_
         refine thenQ_r ?_
         obtain rfl := si h
         exact jq [vU 998244353]
       · have h := cond_f hb h
         refine jk ?_
         refine blockQ_n ?_
         refine thenQ_n ?_
         refine js ?_
         refine jr ?_
         refine jg [(2, vU 0)] 1 [2] ?_
         refine thenQ_n ?_
         refine jt ?_
         obtain rfl := si h
         exact jq [vU 0]

/- attestorref13.elements -/
def s50_0 (L : LP) (a0 : Int) (a1 : (List Int)) (y3 : Int) : Option (Int ⊕ (Bool ⊕ Unit)) :=
  (bif (decide (y3 < (a1.length : Int))) then
  (ck (0 ≤ y3 ∧ y3 < (a1.length : Int))).bind fun _ =>
  (s86 L a0).bind fun r6 =>
  (bif (decide ((a1.getD y3.toNat e44.d) ≥ r6)) then
  some (.inr (.inl false))
  else (ck (inR .i64 (y3 + (1 : Int)))).bind fun _ =>
  some (.inl (y3 + (1 : Int))))
  else some (.inr (.inr ())))
def s50 (L : LP) (a0 : Int) (a1 : (List Int)) : Option Bool :=
  ((L.run (s50_0 L a0 a1) (0 : Int)).bind (fun (b : Bool ⊕ Unit) => (match b with
  | .inl v => some (.inr v)
  | .inr v => some (.inl ())))).bind fun (y1 : Unit ⊕ Bool) => (match y1 with
  | .inl v2 => some true
  | .inr v2 => some v2)
theorem p50 (L : LP) (a0 : Int) (a1 : (List Int)) (r : Bool) (h : s50 L a0 a1 = some r) : Pure X 50 [vI a0, vS e44 a1] (vB r) := by
 refine Pure_of_W (c := cd Tryd.f50 []) Tryd.func50 (by kernel_rfl) (N := 19) (by kernel_rfl) (Nat.le_of_ble_eq_true (by kernel_rfl)) ?_
 unfold s50 at h
 refine js ?_
 refine jr ?_
 refine jg [(0, vI a0), (1, vS e44 a1)] 1 [0, 1] ?_
 refine thenQ_n ?_
 obtain ⟨y1, gy1, ky1⟩ := bind_some h
 refine W_cutE (by kernel_rfl) (fun v2 => y1 = .inl v2) (fun v2 => ([], [])) ?_ ?_
 · intro v2 hv; subst hv; have h := ky1; clear gy1 ky1; dsimp only at h
   refine js ?_
   refine jr ?_
   refine jg [(4, vB true)] 1 [4] ?_
   refine thenQ_n ?_
   refine jt ?_
   obtain rfl := si h
   exact jq [vB true]
 · have h := gy1; clear gy1
   refine js ?_
   refine jr ?_
   refine jg [(0, vI a0), (1, vS e44 a1), (5, vI 0)] 1 [0, 1, 5] ?_
   refine thenQ_n ?_
   refine jb 0 ?_
   obtain ⟨b4, gb4, kb4⟩ := bind_some h
   refine W_loop_at (S := fun (y3 : Int) => ([], [(0, vI a0), (1, vS e44 a1), (5, vI y3)])) (step := _) (x0 := (0 : Int)) (b := b4) (L.ok _ _ _ gb4) (by kernel_rfl) (jE [.keep [0, 1, 5], .take 0]) ?_
   clear gb4 h; intro y3 o h; unfold s50_0 at h
   refine js ?_
   refine js ?_
   refine jr ?_
   refine jg [(0, vI a0), (1, vS e44 a1), (5, vI y3), (9, vB (decide (y3 < (a1.length : Int))))] 4 [0, 1, 5, 9] ?_
   refine thenQ_n ?_
   refine jc (decide (y3 < (a1.length : Int))) (fun hb => ?_) (fun hb => ?_)
   · have h := cond_t hb h
     refine jk ?_
     refine thenQ_n ?_
     refine js ?_
     refine jb 1 ?_
     refine js ?_
     refine jdr 6 mixed ?_
     obtain ⟨c5, h⟩ := ck_bind h
     refine jY 1 [(0, vI a0), (1, vS e44 a1), (5, vI y3), (15, vU (a1.getD y3.toNat e44.d)), (16, vI a0)] ((0 ≤ y3 ∧ y3 < (a1.length : Int)) ∧ (True)) 5 [0, 1, 5, 15, 16] ⟨c5, trivial⟩ ?_
     obtain ⟨r6, gr6, h⟩ := bind_some h
     refine jL 17 Tryd.call86 (p86 L _ _ gr6) ?_
     refine WQ_done ?_
     refine jg [(0, vI a0), (1, vS e44 a1), (5, vI y3), (18, vB (decide ((a1.getD y3.toNat e44.d) ≥ r6)))] 1 [0, 1, 5, 18] ?_
     refine thenQ_n ?_
     refine jc (decide ((a1.getD y3.toNat e44.d) ≥ r6)) (fun hb => ?_) (fun hb => ?_)
     · have h := cond_t hb h
       refine js ?_
       refine jr ?_
       refine jg [(4, vB false)] 1 [4] ?_
       refine thenQ_n ?_
       refine jt ?_
       refine blockQ_r ?_
       refine thenQ_r ?_
       obtain rfl := si h; refine round_r rfl (fun hb => ?_); subst hb; have h := kb4; dsimp only at h
       refine blockQ_r ?_
       obtain rfl := si h; have h := ky1; dsimp only at h; refine thenQ_r ?_
       obtain rfl := si h
       exact jq [vB false]
     · have h := cond_f hb h
       refine jk ?_
       refine blockQ_n ?_
       refine thenQ_n ?_
       refine jr ?_
       obtain ⟨c7, h⟩ := ck_bind h
       refine jG [(0, vI a0), (1, vS e44 a1), (5, vI (y3 + (1 : Int)))] ((inR .i64 (y3 + (1 : Int))) ∧ (True)) 3 [0, 1, 5] ⟨c7, trivial⟩ ?_
       obtain rfl := si h
       exact round_n _ rfl (jE [.keep [0, 1, 5], .take 0])
   · have h := cond_f hb h
     refine je 0 ?_
     refine thenQ_e ?_
     obtain rfl := si h; refine round_e rfl (fun hb => ?_); subst hb; have h := kb4; dsimp only at h
     refine blockQ_hit ?_
     obtain rfl := si h
     exact thenQ_n ⟨_, rfl, jE [.keep [], .take 0]⟩

/- attestorref12.counts -/
def s112 (L : LP) (a0 : Int) : Option Bool :=
  (bif (decide (a0 = (1 : Int))) then some true
  else some (decide (a0 = (2 : Int)))).bind fun y1 =>
  (bif y1 then some true
  else some (decide (a0 = (3 : Int)))).bind fun y2 =>
  (bif y2 then some true
  else some (decide (a0 = (5 : Int)))).bind fun y3 =>
  (bif y3 then some true
  else some (decide (a0 = (6 : Int)))).bind fun y4 =>
  some y4
theorem p112 (L : LP) (a0 : Int) (r : Bool) (h : s112 L a0 = some r) : Pure X 112 [vY a0] (vB r) := by
 refine Pure_of_W (c := cd Tryd.f112 []) Tryd.func112 (by kernel_rfl) (N := 21) (by kernel_rfl) (Nat.le_of_ble_eq_true (by kernel_rfl)) ?_
 unfold s112 at h
 refine js ?_
 refine jr ?_
 refine jg [(0, vY a0)] 1 [0] ?_
 refine thenQ_n ?_
 refine js ?_
 refine jr ?_
 refine jh [(0, vY a0), (5, vB (decide (a0 = (1 : Int))))] 3 [0, 5] ?_
 obtain ⟨y1, gy1, h⟩ := bind_some h
 refine jj 6 [(0, vY a0), (8, vB y1)] ?_ ?_
 · clear gy1
   refine jh [(0, vY a0), (9, vB y1)] 1 [0, 9] ?_
   obtain ⟨y2, gy2, h⟩ := bind_some h
   refine jj 10 [(0, vY a0), (12, vB y2)] ?_ ?_
   · clear gy2
     refine jh [(0, vY a0), (13, vB y2)] 1 [0, 13] ?_
     obtain ⟨y3, gy3, h⟩ := bind_some h
     refine jj 14 [(0, vY a0), (16, vB y3)] ?_ ?_
     · clear gy3
       refine jh [(0, vY a0), (17, vB y3)] 1 [0, 17] ?_
       obtain ⟨y4, gy4, h⟩ := bind_some h
       refine jj 18 [(20, vB y4)] ?_ ?_
       · clear gy4
         refine jg [(2, vB y4)] 1 [2] ?_
         refine thenQ_n ?_
         refine jt ?_
         obtain rfl := si h
         exact jq [vB y4]
       · intro J
         clear h
         rcases Bool.eq_false_or_eq_true y3 with hb | hb
         · have h := cond_t hb gy4; clear gy4
           refine jd 17 hb ?_
           obtain rfl := si h
           refine jh [(20, vB true)] 3 [20] J
         · have h := cond_f hb gy4; clear gy4
           refine jd 17 hb ?_
           refine jh [(17, vB false), (19, vB (decide (a0 = (6 : Int))))] 2 [17, 19] ?_
           obtain rfl := si h
           refine jh [(20, vB (decide (a0 = (6 : Int))))] 1 [20] J
     · intro J
       clear h
       rcases Bool.eq_false_or_eq_true y2 with hb | hb
       · have h := cond_t hb gy3; clear gy3
         refine jd 13 hb ?_
         obtain rfl := si h
         refine jh [(0, vY a0), (16, vB true)] 3 [0, 16] J
       · have h := cond_f hb gy3; clear gy3
         refine jd 13 hb ?_
         refine jh [(0, vY a0), (13, vB false), (15, vB (decide (a0 = (5 : Int))))] 2 [0, 13, 15] ?_
         obtain rfl := si h
         refine jh [(0, vY a0), (16, vB (decide (a0 = (5 : Int))))] 1 [0, 16] J
   · intro J
     clear h
     rcases Bool.eq_false_or_eq_true y1 with hb | hb
     · have h := cond_t hb gy2; clear gy2
       refine jd 9 hb ?_
       obtain rfl := si h
       refine jh [(0, vY a0), (12, vB true)] 3 [0, 12] J
     · have h := cond_f hb gy2; clear gy2
       refine jd 9 hb ?_
       refine jh [(0, vY a0), (9, vB false), (11, vB (decide (a0 = (3 : Int))))] 2 [0, 9, 11] ?_
       obtain rfl := si h
       refine jh [(0, vY a0), (12, vB (decide (a0 = (3 : Int))))] 1 [0, 12] J
 · intro J
   clear h
   rcases Bool.eq_false_or_eq_true (decide (a0 = (1 : Int))) with hb | hb
   · have h := cond_t hb gy1; clear gy1
     refine jd 5 hb ?_
     obtain rfl := si h
     refine jh [(0, vY a0), (8, vB true)] 3 [0, 8] J
   · have h := cond_f hb gy1; clear gy1
     refine jd 5 hb ?_
     refine jh [(0, vY a0), (5, vB false), (7, vB (decide (a0 = (2 : Int))))] 2 [0, 5, 7] ?_
     obtain rfl := si h
     refine jh [(0, vY a0), (8, vB (decide (a0 = (2 : Int))))] 1 [0, 8] J

/- attestorref12.Degree -/
def s67_1 (L : LP) (a0 : (List (Int × (List (Int × Int))))) (y2 : (Int × Int)) (y6 : (Int × Int)) : Option ((Int × Int) ⊕ Int) :=
  (ck (0 ≤ y2.2 ∧ y2.2 < (a0.length : Int))).bind fun _ =>
  (bif (decide (y6.2 < (((a0.getD y2.2.toNat e74.d).2).length : Int))) then
  ((ck (0 ≤ y2.2 ∧ y2.2 < (a0.length : Int))).bind fun _ =>
  (ck (0 ≤ y6.2 ∧ y6.2 < (((a0.getD y2.2.toNat e74.d).2).length : Int))).bind fun _ =>
  (s112 L ((((a0.getD y2.2.toNat e74.d).2).getD y6.2.toNat e61.d).1)).bind fun r13 =>
  (bif r13 then
  (ck (inR .i64 (y6.1 + (1 : Int)))).bind fun _ =>
  some (y6.1 + (1 : Int))
  else some y6.1)).bind fun (y9 : Int) =>
  (ck (inR .i64 (y6.2 + (1 : Int)))).bind fun _ =>
  some (.inl (y9, (y6.2 + (1 : Int))))
  else some (.inr y6.1))
def s67_0 (L : LP) (a0 : (List (Int × (List (Int × Int))))) (y2 : (Int × Int)) : Option ((Int × Int) ⊕ Int) :=
  (bif (decide (y2.2 < (a0.length : Int))) then
  ((L.run (s67_1 L a0 y2) ((0 : Int), (0 : Int))).bind (fun (v : Int) => some v)).bind fun (y4 : Int) =>
  (ck (inR .i64 (y2.2 + (1 : Int)))).bind fun _ =>
  some (.inl ((if y4 > y2.1 then y4 else y2.1), (y2.2 + (1 : Int))))
  else some (.inr y2.1))
def s67 (L : LP) (a0 : (List (Int × (List (Int × Int))))) : Option Int :=
  ((L.run (s67_0 L a0) ((0 : Int), (0 : Int))).bind (fun (v : Int) => some v)).bind fun (y1 : Int) =>
  some y1
theorem p67 (L : LP) (a0 : (List (Int × (List (Int × Int))))) (r : Int) (h : s67 L a0 = some r) : Pure X 67 [vS e74 a0] (vI r) := by
 refine Pure_of_W (c := cd Tryd.f67 []) Tryd.func67 (by kernel_rfl) (N := 39) (by kernel_rfl) (Nat.le_of_ble_eq_true (by kernel_rfl)) ?_
 unfold s67 at h
 refine js ?_
 refine jr ?_
 refine jg [(0, vS e74 a0)] 1 [0] ?_
 refine thenQ_n ?_
 refine js ?_
 refine jr ?_
 refine jg [(0, vS e74 a0), (3, vI 0)] 1 [0, 3] ?_
 refine thenQ_n ?_
 obtain ⟨y1, gy1, ky1⟩ := bind_some h
 refine W_cut (by kernel_rfl) [] [(3, vI y1)] ?_ ?_
 · have h := ky1; clear gy1 ky1
   refine js ?_
   refine jr ?_
   refine jg [(2, vI y1)] 2 [2] ?_
   refine thenQ_n ?_
   refine jt ?_
   obtain rfl := si h
   exact jq [vI y1]
 · have h := gy1; clear gy1 ky1
   refine js ?_
   refine jr ?_
   refine jg [(0, vS e74 a0), (3, vI 0), (4, vI 0)] 1 [0, 3, 4] ?_
   refine thenQ_n ?_
   refine jb 0 ?_
   obtain ⟨b3, gb3, kb3⟩ := bind_some h
   refine W_loop_at (S := fun (y2 : (Int × Int)) => ([], [(0, vS e74 a0), (3, vI y2.1), (4, vI y2.2)])) (step := _) (x0 := ((0 : Int), (0 : Int))) (b := b3) (L.ok _ _ _ gb3) (by kernel_rfl) (jE [.keep [0, 3, 4], .take 0]) ?_
   clear gb3 h; intro y2 o h; unfold s67_0 at h
   refine js ?_
   refine js ?_
   refine jr ?_
   refine jg [(0, vS e74 a0), (3, vI y2.1), (4, vI y2.2), (10, vB (decide (y2.2 < (a0.length : Int))))] 4 [0, 3, 4, 10] ?_
   refine thenQ_n ?_
   refine jc (decide (y2.2 < (a0.length : Int))) (fun hb => ?_) (fun hb => ?_)
   · have h := cond_t hb h
     refine jk ?_
     refine thenQ_n ?_
     refine js ?_
     refine jb 1 ?_
     refine js ?_
     refine jr ?_
     refine jg [(0, vS e74 a0), (3, vI y2.1), (4, vI y2.2), (5, vI 0)] 1 [0, 3, 4, 5] ?_
     refine thenQ_n ?_
     obtain ⟨y4, gy4, ky4⟩ := bind_some h
     refine W_cut (by kernel_rfl) [] [(0, vS e74 a0), (3, vI y2.1), (4, vI y2.2), (5, vI y4)] ?_ ?_
     · have h := ky4; clear gy4 ky4
       refine jr ?_
       refine jg [(0, vS e74 a0), (3, vI (if y4 > y2.1 then y4 else y2.1)), (4, vI y2.2)] 4 [0, 3, 4] ?_
       refine blockQ_n ?_
       refine thenQ_n ?_
       refine jr ?_
       obtain ⟨c5, h⟩ := ck_bind h
       refine jG [(0, vS e74 a0), (3, vI (if y4 > y2.1 then y4 else y2.1)), (4, vI (y2.2 + (1 : Int)))] ((inR .i64 (y2.2 + (1 : Int))) ∧ (True)) 3 [0, 3, 4] ⟨c5, trivial⟩ ?_
       obtain rfl := si h
       exact round_n _ rfl (jE [.keep [0, 3, 4], .take 0])
     · have h := gy4; clear gy4 ky4
       refine js ?_
       refine jr ?_
       refine jg [(0, vS e74 a0), (3, vI y2.1), (4, vI y2.2), (5, vI 0), (6, vI 0)] 1 [0, 3, 4, 5, 6] ?_
       refine thenQ_n ?_
       refine jb 2 ?_
       obtain ⟨b7, gb7, kb7⟩ := bind_some h
       refine W_loop_at (S := fun (y6 : (Int × Int)) => ([], [(0, vS e74 a0), (3, vI y2.1), (4, vI y2.2), (5, vI y6.1), (6, vI y6.2)])) (step := _) (x0 := ((0 : Int), (0 : Int))) (b := b7) (L.ok _ _ _ gb7) (by kernel_rfl) (jE [.keep [0, 3, 4, 5, 6], .take 0]) ?_
       clear gb7 h; intro y6 o h; unfold s67_1 at h
       refine js ?_
       refine js ?_
       refine jr ?_
       obtain ⟨c8, h⟩ := ck_bind h
       refine jG [(0, vS e74 a0), (3, vI y2.1), (4, vI y2.2), (5, vI y6.1), (6, vI y6.2), (20, vB (decide (y6.2 < (((a0.getD y2.2.toNat e74.d).2).length : Int))))] ((0 ≤ y2.2 ∧ y2.2 < (a0.length : Int)) ∧ (True)) 8 [0, 3, 4, 5, 6, 20] ⟨c8, trivial⟩ ?_
       refine thenQ_n ?_
       refine jc (decide (y6.2 < (((a0.getD y2.2.toNat e74.d).2).length : Int))) (fun hb => ?_) (fun hb => ?_)
       · have h := cond_t hb h
         refine jk ?_
         refine thenQ_n ?_
         obtain ⟨y9, gy9, ky9⟩ := bind_some h
         refine W_cut (by kernel_rfl) [] [(0, vS e74 a0), (3, vI y2.1), (4, vI y2.2), (5, vI y9), (6, vI y6.2)] ?_ ?_
         · have h := ky9; clear gy9 ky9
           refine jr ?_
           obtain ⟨c10, h⟩ := ck_bind h
           refine jG [(0, vS e74 a0), (3, vI y2.1), (4, vI y2.2), (5, vI y9), (6, vI (y6.2 + (1 : Int)))] ((inR .i64 (y6.2 + (1 : Int))) ∧ (True)) 3 [0, 3, 4, 5, 6] ⟨c10, trivial⟩ ?_
           obtain rfl := si h
           exact round_n _ rfl (jE [.keep [0, 3, 4, 5, 6], .take 0])
         · have h := gy9; clear gy9 ky9
           refine jb 3 ?_
           refine js ?_
           refine jr ?_
           obtain ⟨c11, h⟩ := ck_bind h
           obtain ⟨c12, h⟩ := ck_bind h
           refine jH [(0, vS e74 a0), (3, vI y2.1), (4, vI y2.2), (5, vI y6.1), (6, vI y6.2), (31, vY ((((a0.getD y2.2.toNat e74.d).2).getD y6.2.toNat e61.d).1))] ((0 ≤ y2.2 ∧ y2.2 < (a0.length : Int)) ∧ (0 ≤ y6.2 ∧ y6.2 < (((a0.getD y2.2.toNat e74.d).2).length : Int)) ∧ (True)) 9 [0, 3, 4, 5, 6, 31] ⟨c11, c12, trivial⟩ ?_
           obtain ⟨r13, gr13, h⟩ := bind_some h
           refine jl 32 Tryd.call112 (p112 L _ _ gr13) ?_
           refine jg [(0, vS e74 a0), (3, vI y2.1), (4, vI y2.2), (5, vI y6.1), (6, vI y6.2), (32, vB r13)] 0 [0, 3, 4, 5, 6, 32] ?_
           refine thenQ_n ?_
           refine jc r13 (fun hb => ?_) (fun hb => ?_)
           · have h := cond_t hb h
             refine jr ?_
             obtain ⟨c14, h⟩ := ck_bind h
             refine jG [(0, vS e74 a0), (3, vI y2.1), (4, vI y2.2), (5, vI (y6.1 + (1 : Int))), (6, vI y6.2)] ((inR .i64 (y6.1 + (1 : Int))) ∧ (True)) 3 [0, 3, 4, 5, 6] ⟨c14, trivial⟩ ?_
             refine blockQ_n ?_
             obtain rfl := si h
             exact thenQ_n (jE [.keep [0, 3, 4, 5, 6], .take 0])
           · have h := cond_f hb h
             refine jk ?_
             refine blockQ_n ?_
             obtain rfl := si h
             exact thenQ_n (jE [.keep [0, 3, 4, 5, 6], .take 0])
       · have h := cond_f hb h
         refine je 2 ?_
         refine thenQ_e ?_
         obtain rfl := si h; refine round_e rfl (fun hb => ?_); subst hb; have h := kb7
         refine blockQ_hit ?_
         obtain rfl := si h
         exact thenQ_n (jE [.keep [0, 3, 4, 5], .take 0])
   · have h := cond_f hb h
     refine je 0 ?_
     refine thenQ_e ?_
     obtain rfl := si h; refine round_e rfl (fun hb => ?_); subst hb; have h := kb3
     refine blockQ_hit ?_
     obtain rfl := si h
     exact thenQ_n (jE [.keep [3], .take 0])

/- attestorref13.within -/
def s101 (L : LP) (a0_0 : Int) (a0_1 : Int) (a0_2 : Int) (a0_3 : Int) (a0_4 : (List (List Int))) (a0_5 : (List (Int × (List (Int × (List (Int × Int))))))) (a0_6 : (List ((List (List (Int × Int))) × (List (List (Int × Int)))))) (a0_7 : (List ((List (Int × Int)) × (List (Int × Int)) × Int × Int))) (a1_0 : Int) (a1_1 : Int) : Option Bool :=
  (bif (decide (a1_1 < (0 : Int))) then
  some false
  else ((bif (decide (a1_0 = (1 : Int))) then
  some (decide (a1_0 = (1 : Int)))
  else some (decide (a1_0 = (2 : Int))))).bind fun (y1 : Bool) =>
  (bif y1 then
  some (decide (a1_1 < a0_2))
  else (bif (decide (a1_0 = (3 : Int))) then
  some (decide (a1_1 < (a0_4.length : Int)))
  else (bif (decide (a1_0 = (4 : Int))) then
  some (decide (a1_1 < a0_3))
  else some false))))
theorem p101 (L : LP) (a0_0 : Int) (a0_1 : Int) (a0_2 : Int) (a0_3 : Int) (a0_4 : (List (List Int))) (a0_5 : (List (Int × (List (Int × (List (Int × Int))))))) (a0_6 : (List ((List (List (Int × Int))) × (List (List (Int × Int)))))) (a0_7 : (List ((List (Int × Int)) × (List (Int × Int)) × Int × Int))) (a1_0 : Int) (a1_1 : Int) (r : Bool) (h : s101 L a0_0 a0_1 a0_2 a0_3 a0_4 a0_5 a0_6 a0_7 a1_0 a1_1 = some r) : Pure X 101 [.agg [aI a0_0, aI a0_1, aI a0_2, aI a0_3, aS e28 a0_4, aS e72 a0_5, aS e65 a0_6, aS e77 a0_7], .agg [aY a1_0, aI a1_1]] (vB r) := by
 refine Pure_of_W (c := cd Tryd.f101 []) Tryd.func101 (by kernel_rfl) (N := 33) (by kernel_rfl) (Nat.le_of_ble_eq_true (by kernel_rfl)) ?_
 unfold s101 at h
 refine js ?_
 refine jr ?_
 refine jf [bL 27 [aI a0_0, aI a0_1, aI a0_2, aI a0_3, aS e28 a0_4, aS e72 a0_5, aS e65 a0_6, aS e77 a0_7], bL 61 [aY a1_0, aI a1_1]] [(2, vO 0 0 8 0 0), (3, vO 1 0 2 0 0)] 3 [2, 3] ?_
 refine thenQ_n ?_
 refine js ?_
 refine js ?_
 refine jr ?_
 refine jg [(2, vO 0 0 8 0 0), (3, vO 1 0 2 0 0), (7, vB (decide (a1_1 < (0 : Int))))] 3 [2, 3, 7] ?_
 refine thenQ_n ?_
 refine jc (decide (a1_1 < (0 : Int))) (fun hb => ?_) (fun hb => ?_)
 · have h := cond_t hb h
   refine js ?_
   refine jr ?_
   refine jg [(4, vB false)] 1 [4] ?_
   refine thenQ_n ?_
   refine jt ?_
   refine thenQ_r ?_
   obtain rfl := si h
   exact jq [vB false]
 · have h := cond_f hb h
   refine jk ?_
   refine thenQ_n ?_
   refine js ?_
   refine js ?_
   refine jr ?_
   refine jg [(2, vO 0 0 8 0 0), (3, vO 1 0 2 0 0), (9, vY a1_0)] 2 [2, 3, 9] ?_
   refine thenQ_n ?_
   refine jb 0 ?_
   obtain ⟨y1, gy1, ky1⟩ := bind_some h
   refine W_cut (by kernel_rfl) [bL 27 [aI a0_0, aI a0_1, aI a0_2, aI a0_3, aS e28 a0_4, aS e72 a0_5, aS e65 a0_6, aS e77 a0_7], bL 61 [aY a1_0, aI a1_1]] [(2, vO 0 0 8 0 0), (3, vO 1 0 2 0 0), (9, vY a1_0), (10, vB y1)] ?_ ?_
   · have h := ky1; clear gy1 ky1
     refine jc y1 (fun hb => ?_) (fun hb => ?_)
     · have h := cond_t hb h
       refine js ?_
       refine jr ?_
       refine jg [(4, vB (decide (a1_1 < a0_2)))] 6 [4] ?_
       refine thenQ_n ?_
       refine jt ?_
       refine blockQ_r ?_
       refine thenQ_r ?_
       obtain rfl := si h
       exact jq [vB (decide (a1_1 < a0_2))]
     · have h := cond_f hb h
       refine js ?_
       refine jr ?_
       refine jg [(2, vO 0 0 8 0 0), (3, vO 1 0 2 0 0), (9, vY a1_0), (18, vB (decide (a1_0 = (3 : Int))))] 2 [2, 3, 9, 18] ?_
       refine thenQ_n ?_
       refine jc (decide (a1_0 = (3 : Int))) (fun hb => ?_) (fun hb => ?_)
       · have h := cond_t hb h
         refine js ?_
         refine jr ?_
         refine jg [(4, vB (decide (a1_1 < (a0_4.length : Int))))] 7 [4] ?_
         refine thenQ_n ?_
         refine jt ?_
         refine blockQ_r ?_
         refine thenQ_r ?_
         obtain rfl := si h
         exact jq [vB (decide (a1_1 < (a0_4.length : Int)))]
       · have h := cond_f hb h
         refine js ?_
         refine jr ?_
         refine jg [(2, vO 0 0 8 0 0), (3, vO 1 0 2 0 0), (26, vB (decide (a1_0 = (4 : Int))))] 2 [2, 3, 26] ?_
         refine thenQ_n ?_
         refine jc (decide (a1_0 = (4 : Int))) (fun hb => ?_) (fun hb => ?_)
         · have h := cond_t hb h
           refine js ?_
           refine jr ?_
           refine jg [(4, vB (decide (a1_1 < a0_3)))] 6 [4] ?_
           refine thenQ_n ?_
           refine jt ?_
           refine blockQ_r ?_
           refine thenQ_r ?_
           obtain rfl := si h
           exact jq [vB (decide (a1_1 < a0_3))]
         · have h := cond_f hb h
           refine jk ?_
           refine blockQ_n ?_
           refine thenQ_n ?_
           refine js ?_
           refine jr ?_
           refine jg [(4, vB false)] 1 [4] ?_
           refine thenQ_n ?_
           refine jt ?_
           obtain rfl := si h
           exact jq [vB false]
   · have h := gy1; clear gy1 ky1
     refine js ?_
     refine jr ?_
     refine jg [(2, vO 0 0 8 0 0), (3, vO 1 0 2 0 0), (9, vY a1_0), (10, vB (decide (a1_0 = (1 : Int))))] 2 [2, 3, 9, 10] ?_
     refine thenQ_n ?_
     refine jc (decide (a1_0 = (1 : Int))) (fun hb => ?_) (fun hb => ?_)
     · have h := cond_t hb h
       refine jk ?_
       obtain rfl := si h
       exact thenQ_n (jE [.keep [2, 3, 9, 10], .take 2])
     · have h := cond_f hb h
       refine jr ?_
       refine jg [(2, vO 0 0 8 0 0), (3, vO 1 0 2 0 0), (9, vY a1_0), (10, vB (decide (a1_0 = (2 : Int))))] 2 [2, 3, 9, 10] ?_
       obtain rfl := si h
       exact thenQ_n (jE [.keep [2, 3, 9, 10], .take 2])

/- attestorref13.rule -/
def s51_1 (L : LP) (a0_0 : Int) (a0_1 : Int) (a0_2 : Int) (a0_3 : Int) (a0_4 : (List (List Int))) (a0_5 : (List (Int × (List (Int × (List (Int × Int))))))) (a0_6 : (List ((List (List (Int × Int))) × (List (List (Int × Int)))))) (a0_7 : (List ((List (Int × Int)) × (List (Int × Int)) × Int × Int))) (a1_1 : (List (Int × (List (Int × Int))))) (y3 : Bool) (y8 : Int) (y16 : Int) : Option (Int ⊕ (Bool ⊕ Unit)) :=
  (bif (decide (y16 < (((a1_1.getD y8.toNat e74.d).2).length : Int))) then
  (ck (0 ≤ y16 ∧ y16 < (((a1_1.getD y8.toNat e74.d).2).length : Int))).bind fun _ =>
  (s101 L a0_0 a0_1 a0_2 a0_3 a0_4 a0_5 a0_6 a0_7 ((((a1_1.getD y8.toNat e74.d).2).getD y16.toNat e61.d).1) ((((a1_1.getD y8.toNat e74.d).2).getD y16.toNat e61.d).2)).bind fun r19 =>
  (bif (!r19) then some true
  else (bif y3 then (ck (0 ≤ y16 ∧ y16 < (((a1_1.getD y8.toNat e74.d).2).length : Int))).bind fun _ =>
  some (decide (((((a1_1.getD y8.toNat e74.d).2).getD y16.toNat e61.d).1) = (2 : Int)))
  else some false).bind fun y22 =>
  some y22).bind fun y20 =>
  (bif y20 then
  some (.inr (.inl false))
  else (ck (inR .i64 (y16 + (1 : Int)))).bind fun _ =>
  some (.inl (y16 + (1 : Int))))
  else some (.inr (.inr ())))
def s51_0 (L : LP) (a0_0 : Int) (a0_1 : Int) (a0_2 : Int) (a0_3 : Int) (a0_4 : (List (List Int))) (a0_5 : (List (Int × (List (Int × (List (Int × Int))))))) (a0_6 : (List ((List (List (Int × Int))) × (List (List (Int × Int)))))) (a0_7 : (List ((List (Int × Int)) × (List (Int × Int)) × Int × Int))) (a1_1 : (List (Int × (List (Int × Int))))) (y3 : Bool) (y8 : Int) : Option (Int ⊕ (Bool ⊕ Unit)) :=
  (bif (decide (y8 < (a1_1.length : Int))) then
  ((ck (0 ≤ y8 ∧ y8 < (a1_1.length : Int))).bind fun _ =>
  (s86 L a0_0).bind fun r14 =>
  (bif (decide (((a1_1.getD y8.toNat e74.d).1) ≥ r14)) then some true
  else some (decide ((((a1_1.getD y8.toNat e74.d).2).length : Int) > (8 : Int)))).bind fun y15 =>
  (bif y15 then
  some (.inr false)
  else (L.run (s51_1 L a0_0 a0_1 a0_2 a0_3 a0_4 a0_5 a0_6 a0_7 a1_1 y3 y8) (0 : Int)).bind (fun (b : Bool ⊕ Unit) => (match b with
  | .inl v => some (.inr v)
  | .inr v => some (.inl ()))))).bind fun (y10 : Unit ⊕ Bool) => (match y10 with
  | .inl v11 => (ck (inR .i64 (y8 + (1 : Int)))).bind fun _ =>
  some (.inl (y8 + (1 : Int)))
  | .inr v11 => some (.inr (.inl v11)))
  else some (.inr (.inr ())))
def s51 (L : LP) (a0_0 : Int) (a0_1 : Int) (a0_2 : Int) (a0_3 : Int) (a0_4 : (List (List Int))) (a0_5 : (List (Int × (List (Int × (List (Int × Int))))))) (a0_6 : (List ((List (List (Int × Int))) × (List (List (Int × Int)))))) (a0_7 : (List ((List (Int × Int)) × (List (Int × Int)) × Int × Int))) (a1_0 : Int) (a1_1 : (List (Int × (List (Int × Int))))) : Option Bool :=
  (bif (decide (a1_0 < (1 : Int))) then some true
  else some (decide (a1_0 > (4 : Int)))).bind fun y1 =>
  (bif y1 then some true
  else some (decide ((a1_1.length : Int) > (64 : Int)))).bind fun y2 =>
  (bif y2 then
  some false
  else (bif (decide (a1_0 = (3 : Int))) then some true
  else some (decide (a1_0 = (4 : Int)))).bind fun y3 =>
  ((L.run (s51_0 L a0_0 a0_1 a0_2 a0_3 a0_4 a0_5 a0_6 a0_7 a1_1 y3) (0 : Int)).bind (fun (b : Bool ⊕ Unit) => (match b with
  | .inl v => some (.inr v)
  | .inr v => some (.inl ())))).bind fun (y4 : Unit ⊕ Bool) => (match y4 with
  | .inl v5 => (bif (!y3) then some true
  else (s67 L a1_1).bind fun r7 =>
  some (decide (r7 ≤ (1 : Int)))).bind fun y6 =>
  some y6
  | .inr v5 => some v5))
theorem p51 (L : LP) (a0_0 : Int) (a0_1 : Int) (a0_2 : Int) (a0_3 : Int) (a0_4 : (List (List Int))) (a0_5 : (List (Int × (List (Int × (List (Int × Int))))))) (a0_6 : (List ((List (List (Int × Int))) × (List (List (Int × Int)))))) (a0_7 : (List ((List (Int × Int)) × (List (Int × Int)) × Int × Int))) (a1_0 : Int) (a1_1 : (List (Int × (List (Int × Int))))) (r : Bool) (h : s51 L a0_0 a0_1 a0_2 a0_3 a0_4 a0_5 a0_6 a0_7 a1_0 a1_1 = some r) : Pure X 51 [.agg [aI a0_0, aI a0_1, aI a0_2, aI a0_3, aS e28 a0_4, aS e72 a0_5, aS e65 a0_6, aS e77 a0_7], .agg [aY a1_0, aS e74 a1_1]] (vB r) := by
 refine Pure_of_W (c := cd Tryd.f51 []) Tryd.func51 (by kernel_rfl) (N := 90) (by kernel_rfl) (Nat.le_of_ble_eq_true (by kernel_rfl)) ?_
 unfold s51 at h
 refine js ?_
 refine jr ?_
 refine jf [bL 27 [aI a0_0, aI a0_1, aI a0_2, aI a0_3, aS e28 a0_4, aS e72 a0_5, aS e65 a0_6, aS e77 a0_7], bL 72 [aY a1_0, aS e74 a1_1]] [(2, vO 0 0 8 0 0), (3, vO 1 0 2 0 0)] 3 [2, 3] ?_
 refine thenQ_n ?_
 refine js ?_
 refine js ?_
 refine jr ?_
 refine jh [(2, vO 0 0 8 0 0), (3, vO 1 0 2 0 0), (12, vB (decide (a1_0 < (1 : Int))))] 4 [2, 3, 12] ?_
 obtain ⟨y1, gy1, h⟩ := bind_some h
 refine jj 8 [(2, vO 0 0 8 0 0), (3, vO 1 0 2 0 0), (16, vB y1)] ?_ ?_
 · clear gy1
   refine jh [(2, vO 0 0 8 0 0), (3, vO 1 0 2 0 0), (17, vB y1)] 1 [2, 3, 17] ?_
   obtain ⟨y2, gy2, h⟩ := bind_some h
   refine jj 14 [(2, vO 0 0 8 0 0), (3, vO 1 0 2 0 0), (22, vB y2)] ?_ ?_
   · clear gy2
     refine jg [(2, vO 0 0 8 0 0), (3, vO 1 0 2 0 0), (22, vB y2)] 0 [2, 3, 22] ?_
     refine thenQ_n ?_
     refine jc y2 (fun hb => ?_) (fun hb => ?_)
     · have h := cond_t hb h
       refine js ?_
       refine jr ?_
       refine jg [(4, vB false)] 1 [4] ?_
       refine thenQ_n ?_
       refine jt ?_
       refine thenQ_r ?_
       obtain rfl := si h
       exact jq [vB false]
     · have h := cond_f hb h
       refine jk ?_
       refine thenQ_n ?_
       refine js ?_
       refine jr ?_
       refine jh [(2, vO 0 0 8 0 0), (3, vO 1 0 2 0 0), (26, vB (decide (a1_0 = (3 : Int))))] 4 [2, 3, 26] ?_
       obtain ⟨y3, gy3, h⟩ := bind_some h
       refine jj 8 [(2, vO 0 0 8 0 0), (3, vO 1 0 2 0 0), (30, vB y3)] ?_ ?_
       · clear gy3
         refine jg [(2, vO 0 0 8 0 0), (3, vO 1 0 2 0 0), (5, vB y3)] 1 [2, 3, 5] ?_
         refine thenQ_n ?_
         obtain ⟨y4, gy4, ky4⟩ := bind_some h
         refine W_cutE (by kernel_rfl) (fun v5 => y4 = .inl v5) (fun v5 => ([bL 27 [aI a0_0, aI a0_1, aI a0_2, aI a0_3, aS e28 a0_4, aS e72 a0_5, aS e65 a0_6, aS e77 a0_7], bL 72 [aY a1_0, aS e74 a1_1]], [(3, vO 1 0 2 0 0), (5, vB y3)])) ?_ ?_
         · intro v5 hv; subst hv; have h := ky4; clear gy4 ky4; dsimp only at h
           refine js ?_
           refine jr ?_
           refine jh [(3, vO 1 0 2 0 0), (84, vB (!y3))] 3 [3, 84] ?_
           obtain ⟨y6, gy6, h⟩ := bind_some h
           refine jj 8 [(89, vB y6)] ?_ ?_
           · clear gy6
             refine jg [(4, vB y6)] 1 [4] ?_
             refine thenQ_n ?_
             refine jt ?_
             obtain rfl := si h
             exact jq [vB y6]
           · intro J
             clear h
             rcases Bool.eq_false_or_eq_true (!y3) with hb | hb
             · have h := cond_t hb gy6; clear gy6
               refine jd 84 hb ?_
               obtain rfl := si h
               refine jh [(89, vB true)] 5 [89] J
             · have h := cond_f hb gy6; clear gy6
               refine jd 84 hb ?_
               refine jh [(84, vB false), (86, vS e74 a1_1)] 2 [84, 86] ?_
               obtain ⟨r7, gr7, h⟩ := bind_some h
               refine jl 87 Tryd.call67 (p67 L _ _ gr7) ?_
               refine jh [(84, vB false), (88, vB (decide (r7 ≤ (1 : Int))))] 1 [84, 88] ?_
               obtain rfl := si h
               refine jh [(89, vB (decide (r7 ≤ (1 : Int))))] 1 [89] J
         · have h := gy4; clear gy4
           refine js ?_
           refine jr ?_
           refine jg [(2, vO 0 0 8 0 0), (3, vO 1 0 2 0 0), (5, vB y3), (6, vI 0)] 1 [2, 3, 5, 6] ?_
           refine thenQ_n ?_
           refine jb 0 ?_
           obtain ⟨b9, gb9, kb9⟩ := bind_some h
           refine W_loop_at (S := fun (y8 : Int) => ([bL 27 [aI a0_0, aI a0_1, aI a0_2, aI a0_3, aS e28 a0_4, aS e72 a0_5, aS e65 a0_6, aS e77 a0_7], bL 72 [aY a1_0, aS e74 a1_1]], [(2, vO 0 0 8 0 0), (3, vO 1 0 2 0 0), (5, vB y3), (6, vI y8)])) (step := _) (x0 := (0 : Int)) (b := b9) (L.ok _ _ _ gb9) (by kernel_rfl) (jE [.keep [2, 3, 5, 6], .take 2]) ?_
           clear gb9 h; intro y8 o h; unfold s51_0 at h
           refine js ?_
           refine js ?_
           refine jr ?_
           refine jg [(2, vO 0 0 8 0 0), (3, vO 1 0 2 0 0), (5, vB y3), (6, vI y8), (35, vB (decide (y8 < (a1_1.length : Int))))] 5 [2, 3, 5, 6, 35] ?_
           refine thenQ_n ?_
           refine jc (decide (y8 < (a1_1.length : Int))) (fun hb => ?_) (fun hb => ?_)
           · have h := cond_t hb h
             refine jk ?_
             refine thenQ_n ?_
             obtain ⟨y10, gy10, ky10⟩ := bind_some h
             refine W_cutE (by kernel_rfl) (fun v11 => y10 = .inl v11) (fun v11 => ([bL 27 [aI a0_0, aI a0_1, aI a0_2, aI a0_3, aS e28 a0_4, aS e72 a0_5, aS e65 a0_6, aS e77 a0_7], bL 72 [aY a1_0, aS e74 a1_1]], [(2, vO 0 0 8 0 0), (3, vO 1 0 2 0 0), (5, vB y3), (6, vI y8)])) ?_ ?_
             · intro v11 hv; subst hv; have h := ky10; clear gy10 ky10; dsimp only at h
               refine jr ?_
               obtain ⟨c12, h⟩ := ck_bind h
               refine jG [(2, vO 0 0 8 0 0), (3, vO 1 0 2 0 0), (5, vB y3), (6, vI (y8 + (1 : Int)))] ((inR .i64 (y8 + (1 : Int))) ∧ (True)) 3 [2, 3, 5, 6] ⟨c12, trivial⟩ ?_
               obtain rfl := si h
               exact round_n _ rfl (jE [.keep [2, 3, 5, 6], .take 2])
             · have h := gy10; clear gy10
               refine jb 1 ?_
               refine js ?_
               refine jr ?_
               obtain ⟨c13, h⟩ := ck_bind h
               refine jF [bL 27 [aI a0_0, aI a0_1, aI a0_2, aI a0_3, aS e28 a0_4, aS e72 a0_5, aS e65 a0_6, aS e77 a0_7], bL 72 [aY a1_0, aS e74 a1_1], bL 74 [aU ((a1_1.getD y8.toNat e74.d).1), aS e61 ((a1_1.getD y8.toNat e74.d).2)]] [(2, vO 0 0 8 0 0), (3, vO 1 0 2 0 0), (5, vB y3), (6, vI y8), (7, vO 2 0 2 0 0)] ((0 ≤ y8 ∧ y8 < (a1_1.length : Int)) ∧ (True)) 7 [2, 3, 5, 6, 7] ⟨c13, trivial⟩ ?_
               refine thenQ_n ?_
               refine js ?_
               refine js ?_
               refine jdr 5 mixed ?_
               refine jy 1 [(2, vO 0 0 8 0 0), (3, vO 1 0 2 0 0), (5, vB y3), (6, vI y8), (7, vO 2 0 2 0 0), (44, vU ((a1_1.getD y8.toNat e74.d).1)), (46, vI a0_0)] 4 [2, 3, 5, 6, 7, 44, 46] ?_
               obtain ⟨r14, gr14, h⟩ := bind_some h
               refine jL 47 Tryd.call86 (p86 L _ _ gr14) ?_
               refine WQ_done ?_
               refine jh [(2, vO 0 0 8 0 0), (3, vO 1 0 2 0 0), (5, vB y3), (6, vI y8), (7, vO 2 0 2 0 0), (49, vB (decide (((a1_1.getD y8.toNat e74.d).1) ≥ r14)))] 2 [2, 3, 5, 6, 7, 49] ?_
               obtain ⟨y15, gy15, h⟩ := bind_some h
               refine jj 12 [(2, vO 0 0 8 0 0), (3, vO 1 0 2 0 0), (5, vB y3), (6, vI y8), (7, vO 2 0 2 0 0), (54, vB y15)] ?_ ?_
               · clear gy15
                 refine jg [(2, vO 0 0 8 0 0), (3, vO 1 0 2 0 0), (5, vB y3), (6, vI y8), (7, vO 2 0 2 0 0), (54, vB y15)] 0 [2, 3, 5, 6, 7, 54] ?_
                 refine thenQ_n ?_
                 refine jc y15 (fun hb => ?_) (fun hb => ?_)
                 · have h := cond_t hb h
                   refine js ?_
                   refine jr ?_
                   refine jg [(4, vB false)] 1 [4] ?_
                   refine thenQ_n ?_
                   refine jt ?_
                   refine thenQ_r ?_
                   refine blockQ_r ?_
                   obtain rfl := si h; have h := ky10; dsimp only at h; refine thenQ_r ?_
                   obtain rfl := si h; refine round_r rfl (fun hb => ?_); subst hb; have h := kb9; dsimp only at h
                   refine blockQ_r ?_
                   obtain rfl := si h; have h := ky4; dsimp only at h; refine thenQ_r ?_
                   obtain rfl := si h
                   exact jq [vB false]
                 · have h := cond_f hb h
                   refine jk ?_
                   refine thenQ_n ?_
                   refine js ?_
                   refine jr ?_
                   refine jg [(2, vO 0 0 8 0 0), (3, vO 1 0 2 0 0), (5, vB y3), (6, vI y8), (7, vO 2 0 2 0 0), (8, vI 0)] 1 [2, 3, 5, 6, 7, 8] ?_
                   refine thenQ_n ?_
                   refine jb 2 ?_
                   obtain ⟨b17, gb17, kb17⟩ := bind_some h
                   refine W_loop_at (S := fun (y16 : Int) => ([bL 27 [aI a0_0, aI a0_1, aI a0_2, aI a0_3, aS e28 a0_4, aS e72 a0_5, aS e65 a0_6, aS e77 a0_7], bL 72 [aY a1_0, aS e74 a1_1], bL 74 [aU ((a1_1.getD y8.toNat e74.d).1), aS e61 ((a1_1.getD y8.toNat e74.d).2)]], [(2, vO 0 0 8 0 0), (3, vO 1 0 2 0 0), (5, vB y3), (6, vI y8), (7, vO 2 0 2 0 0), (8, vI y16)])) (step := _) (x0 := (0 : Int)) (b := b17) (L.ok _ _ _ gb17) (by kernel_rfl) (jE [.keep [2, 3, 5, 6, 7, 8], .take 3]) ?_
                   clear gb17 h; intro y16 o h; unfold s51_1 at h
                   refine js ?_
                   refine js ?_
                   refine jr ?_
                   refine jg [(2, vO 0 0 8 0 0), (3, vO 1 0 2 0 0), (5, vB y3), (6, vI y8), (7, vO 2 0 2 0 0), (8, vI y16), (59, vB (decide (y16 < (((a1_1.getD y8.toNat e74.d).2).length : Int))))] 5 [2, 3, 5, 6, 7, 8, 59] ?_
                   refine thenQ_n ?_
                   refine jc (decide (y16 < (((a1_1.getD y8.toNat e74.d).2).length : Int))) (fun hb => ?_) (fun hb => ?_)
                   · have h := cond_t hb h
                     refine jk ?_
                     refine thenQ_n ?_
                     refine js ?_
                     refine jb 3 ?_
                     refine js ?_
                     refine jdr 20 mixed ?_
                     obtain ⟨c18, h⟩ := ck_bind h
                     refine jY 14 [(2, vO 0 0 8 0 0), (3, vO 1 0 2 0 0), (5, vB y3), (6, vI y8), (7, vO 2 0 2 0 0), (8, vI y16), (62, .agg [aI a0_0, aI a0_1, aI a0_2, aI a0_3, aS e28 a0_4, aS e72 a0_5, aS e65 a0_6, aS e77 a0_7]), (67, .agg [aY ((((a1_1.getD y8.toNat e74.d).2).getD y16.toNat e61.d).1), aI ((((a1_1.getD y8.toNat e74.d).2).getD y16.toNat e61.d).2)])] ((0 ≤ y16 ∧ y16 < (((a1_1.getD y8.toNat e74.d).2).length : Int)) ∧ (True)) 6 [2, 3, 5, 6, 7, 8, 62, 67] ⟨c18, trivial⟩ ?_
                     obtain ⟨r19, gr19, h⟩ := bind_some h
                     refine jL 68 Tryd.call101 (p101 L _ _ _ _ _ _ _ _ _ _ _ gr19) ?_
                     refine jy 11 [(2, vO 0 0 8 0 0), (3, vO 1 0 2 0 0), (5, vB y3), (6, vI y8), (7, vO 2 0 2 0 0), (8, vI y16), (70, vB (!r19))] 2 [2, 3, 5, 6, 7, 8, 70] ?_
                     obtain ⟨y20, gy20, h⟩ := bind_some h
                     refine WQ_join 0 20 [(2, vO 0 0 8 0 0), (3, vO 1 0 2 0 0), (5, vB y3), (6, vI y8), (7, vO 2 0 2 0 0), (8, vI y16), (81, vB y20)] ?_ ?_
                     · clear gy20
                       refine WQ_done ?_
                       refine jg [(2, vO 0 0 8 0 0), (3, vO 1 0 2 0 0), (5, vB y3), (6, vI y8), (7, vO 2 0 2 0 0), (8, vI y16), (81, vB y20)] 0 [2, 3, 5, 6, 7, 8, 81] ?_
                       refine thenQ_n ?_
                       refine jc y20 (fun hb => ?_) (fun hb => ?_)
                       · have h := cond_t hb h
                         refine js ?_
                         refine jr ?_
                         refine jg [(4, vB false)] 1 [4] ?_
                         refine thenQ_n ?_
                         refine jt ?_
                         refine blockQ_r ?_
                         refine thenQ_r ?_
                         obtain rfl := si h; refine round_r rfl (fun hb => ?_); subst hb; have h := kb17; dsimp only at h
                         refine blockQ_r ?_
                         refine blockQ_r ?_
                         obtain rfl := si h; have h := ky10; dsimp only at h; refine thenQ_r ?_
                         obtain rfl := si h; refine round_r rfl (fun hb => ?_); subst hb; have h := kb9; dsimp only at h
                         refine blockQ_r ?_
                         obtain rfl := si h; have h := ky4; dsimp only at h; refine thenQ_r ?_
                         obtain rfl := si h
                         exact jq [vB false]
                       · have h := cond_f hb h
                         refine jk ?_
                         refine blockQ_n ?_
                         refine thenQ_n ?_
                         refine jr ?_
                         obtain ⟨c21, h⟩ := ck_bind h
                         refine jG [(2, vO 0 0 8 0 0), (3, vO 1 0 2 0 0), (5, vB y3), (6, vI y8), (7, vO 2 0 2 0 0), (8, vI (y16 + (1 : Int)))] ((inR .i64 (y16 + (1 : Int))) ∧ (True)) 3 [2, 3, 5, 6, 7, 8] ⟨c21, trivial⟩ ?_
                         obtain rfl := si h
                         exact round_n _ rfl (jE [.keep [2, 3, 5, 6, 7, 8], .take 3])
                     · intro J
                       clear h
                       rcases Bool.eq_false_or_eq_true (!r19) with hb | hb
                       · have h := cond_t hb gy20; clear gy20
                         refine jD 70 hb ?_
                         obtain rfl := si h
                         refine jy 0 [(2, vO 0 0 8 0 0), (3, vO 1 0 2 0 0), (5, vB y3), (6, vI y8), (7, vO 2 0 2 0 0), (8, vI y16), (81, vB true)] 11 [2, 3, 5, 6, 7, 8, 81] J
                       · have h := cond_f hb gy20; clear gy20
                         refine jD 70 hb ?_
                         refine jy 9 [(2, vO 0 0 8 0 0), (3, vO 1 0 2 0 0), (5, vB y3), (6, vI y8), (7, vO 2 0 2 0 0), (8, vI y16), (70, vB false), (71, vB y3), (72, vB y3)] 2 [2, 3, 5, 6, 7, 8, 70, 71, 72] ?_
                         obtain ⟨y22, gy22, h⟩ := bind_some h
                         refine WQ_join 1 19 [(2, vO 0 0 8 0 0), (3, vO 1 0 2 0 0), (5, vB y3), (6, vI y8), (7, vO 2 0 2 0 0), (8, vI y16), (70, vB false), (71, vB y3), (72, vB y3), (80, vB y22)] ?_ ?_
                         · clear gy22
                           obtain rfl := si h
                           refine jy 0 [(2, vO 0 0 8 0 0), (3, vO 1 0 2 0 0), (5, vB y3), (6, vI y8), (7, vO 2 0 2 0 0), (8, vI y16), (81, vB y22)] 1 [2, 3, 5, 6, 7, 8, 81] J
                         · intro J
                           clear h
                           rcases Bool.eq_false_or_eq_true y3 with hb | hb
                           · have h := cond_t hb gy22; clear gy22
                             refine jD 72 hb ?_
                             obtain ⟨c23, h⟩ := ck_bind h
                             refine jY 2 [(2, vO 0 0 8 0 0), (3, vO 1 0 2 0 0), (5, vB y3), (6, vI y8), (7, vO 2 0 2 0 0), (8, vI y16), (70, vB false), (71, vB y3), (72, vB true), (73, vO 2 0 2 0 1), (74, vS e61 ((a1_1.getD y8.toNat e74.d).2)), (75, vI y16), (76, .cell (.c (ptC e61 ((a1_1.getD y8.toNat e74.d).2) y16 0))), (77, .cell (.c (ptC e61 ((a1_1.getD y8.toNat e74.d).2) y16 0))), (78, vY ((((a1_1.getD y8.toNat e74.d).2).getD y16.toNat e61.d).1)), (79, vB (decide (((((a1_1.getD y8.toNat e74.d).2).getD y16.toNat e61.d).1) = (2 : Int))))] ((0 ≤ y16 ∧ y16 < (((a1_1.getD y8.toNat e74.d).2).length : Int)) ∧ (True)) 7 [2, 3, 5, 6, 7, 8, 70, 71, 72, 73, 74, 75, 76, 77, 78, 79] ⟨c23, trivial⟩ ?_
                             obtain rfl := si h
                             refine jy 1 [(2, vO 0 0 8 0 0), (3, vO 1 0 2 0 0), (5, vB y3), (6, vI y8), (7, vO 2 0 2 0 0), (8, vI y16), (70, vB false), (71, vB y3), (72, vB true), (80, vB (decide (((((a1_1.getD y8.toNat e74.d).2).getD y16.toNat e61.d).1) = (2 : Int))))] 1 [2, 3, 5, 6, 7, 8, 70, 71, 72, 80] ?_
                             refine jD 72 hb.symm ?_
                             exact WQ_keep [2, 3, 5, 6, 7, 8, 70, 71, 72, 80] (by kernel_rfl) J
                           · have h := cond_f hb gy22; clear gy22
                             refine jD 72 hb ?_
                             obtain rfl := si h
                             refine jy 1 [(2, vO 0 0 8 0 0), (3, vO 1 0 2 0 0), (5, vB y3), (6, vI y8), (7, vO 2 0 2 0 0), (8, vI y16), (70, vB false), (71, vB y3), (72, vB false), (80, vB false)] 8 [2, 3, 5, 6, 7, 8, 70, 71, 72, 80] ?_
                             refine jD 72 hb.symm ?_
                             exact WQ_keep [2, 3, 5, 6, 7, 8, 70, 71, 72, 80] (by kernel_rfl) J
                   · have h := cond_f hb h
                     refine je 2 ?_
                     refine thenQ_e ?_
                     obtain rfl := si h; refine round_e rfl (fun hb => ?_); subst hb; have h := kb17; dsimp only at h
                     refine blockQ_hit ?_
                     refine blockQ_n ?_
                     obtain rfl := si h
                     exact thenQ_n ⟨_, rfl, jE [.keep [2, 3, 5, 6], .take 2]⟩
               · intro J
                 clear h
                 rcases Bool.eq_false_or_eq_true (decide (((a1_1.getD y8.toNat e74.d).1) ≥ r14)) with hb | hb
                 · have h := cond_t hb gy15; clear gy15
                   refine jd 49 hb ?_
                   obtain rfl := si h
                   refine jh [(2, vO 0 0 8 0 0), (3, vO 1 0 2 0 0), (5, vB y3), (6, vI y8), (7, vO 2 0 2 0 0), (54, vB true)] 5 [2, 3, 5, 6, 7, 54] J
                 · have h := cond_f hb gy15; clear gy15
                   refine jd 49 hb ?_
                   refine jh [(2, vO 0 0 8 0 0), (3, vO 1 0 2 0 0), (5, vB y3), (6, vI y8), (7, vO 2 0 2 0 0), (49, vB false), (50, vO 2 0 2 0 1), (51, vS e61 ((a1_1.getD y8.toNat e74.d).2)), (52, vI (((a1_1.getD y8.toNat e74.d).2).length : Int)), (53, vB (decide ((((a1_1.getD y8.toNat e74.d).2).length : Int) > (8 : Int))))] 4 [2, 3, 5, 6, 7, 49, 50, 51, 52, 53] ?_
                   obtain rfl := si h
                   refine jh [(2, vO 0 0 8 0 0), (3, vO 1 0 2 0 0), (5, vB y3), (6, vI y8), (7, vO 2 0 2 0 0), (54, vB (decide ((((a1_1.getD y8.toNat e74.d).2).length : Int) > (8 : Int))))] 1 [2, 3, 5, 6, 7, 54] J
           · have h := cond_f hb h
             refine je 0 ?_
             refine thenQ_e ?_
             obtain rfl := si h; refine round_e rfl (fun hb => ?_); subst hb; have h := kb9; dsimp only at h
             refine blockQ_hit ?_
             obtain rfl := si h
             exact thenQ_n ⟨_, rfl, jE [.keep [3, 5], .take 2]⟩
       · intro J
         clear h
         rcases Bool.eq_false_or_eq_true (decide (a1_0 = (3 : Int))) with hb | hb
         · have h := cond_t hb gy3; clear gy3
           refine jd 26 hb ?_
           obtain rfl := si h
           refine jh [(2, vO 0 0 8 0 0), (3, vO 1 0 2 0 0), (30, vB true)] 4 [2, 3, 30] J
         · have h := cond_f hb gy3; clear gy3
           refine jd 26 hb ?_
           refine jh [(2, vO 0 0 8 0 0), (3, vO 1 0 2 0 0), (26, vB false), (29, vB (decide (a1_0 = (4 : Int))))] 3 [2, 3, 26, 29] ?_
           obtain rfl := si h
           refine jh [(2, vO 0 0 8 0 0), (3, vO 1 0 2 0 0), (30, vB (decide (a1_0 = (4 : Int))))] 1 [2, 3, 30] J
   · intro J
     clear h
     rcases Bool.eq_false_or_eq_true y1 with hb | hb
     · have h := cond_t hb gy2; clear gy2
       refine jd 17 hb ?_
       obtain rfl := si h
       refine jh [(2, vO 0 0 8 0 0), (3, vO 1 0 2 0 0), (22, vB true)] 5 [2, 3, 22] J
     · have h := cond_f hb gy2; clear gy2
       refine jd 17 hb ?_
       refine jh [(2, vO 0 0 8 0 0), (3, vO 1 0 2 0 0), (17, vB false), (21, vB (decide ((a1_1.length : Int) > (64 : Int))))] 4 [2, 3, 17, 21] ?_
       obtain rfl := si h
       refine jh [(2, vO 0 0 8 0 0), (3, vO 1 0 2 0 0), (22, vB (decide ((a1_1.length : Int) > (64 : Int))))] 1 [2, 3, 22] J
 · intro J
   clear h
   rcases Bool.eq_false_or_eq_true (decide (a1_0 < (1 : Int))) with hb | hb
   · have h := cond_t hb gy1; clear gy1
     refine jd 12 hb ?_
     obtain rfl := si h
     refine jh [(2, vO 0 0 8 0 0), (3, vO 1 0 2 0 0), (16, vB true)] 4 [2, 3, 16] J
   · have h := cond_f hb gy1; clear gy1
     refine jd 12 hb ?_
     refine jh [(2, vO 0 0 8 0 0), (3, vO 1 0 2 0 0), (12, vB false), (15, vB (decide (a1_0 > (4 : Int))))] 3 [2, 3, 12, 15] ?_
     obtain rfl := si h
     refine jh [(2, vO 0 0 8 0 0), (3, vO 1 0 2 0 0), (16, vB (decide (a1_0 > (4 : Int))))] 1 [2, 3, 16] J

/- attestorref13.tuple -/
def s102_0 (L : LP) (a0_0 : Int) (a0_1 : Int) (a0_2 : Int) (a0_3 : Int) (a0_4 : (List (List Int))) (a0_5 : (List (Int × (List (Int × (List (Int × Int))))))) (a0_6 : (List ((List (List (Int × Int))) × (List (List (Int × Int)))))) (a0_7 : (List ((List (Int × Int)) × (List (Int × Int)) × Int × Int))) (a1 : (List (Int × Int))) (a3 : Bool) (y3 : Int) : Option (Int ⊕ (Bool ⊕ Unit)) :=
  (bif (decide (y3 < (a1.length : Int))) then
  (ck (0 ≤ y3 ∧ y3 < (a1.length : Int))).bind fun _ =>
  (s101 L a0_0 a0_1 a0_2 a0_3 a0_4 a0_5 a0_6 a0_7 ((a1.getD y3.toNat e61.d).1) ((a1.getD y3.toNat e61.d).2)).bind fun r6 =>
  (bif (!r6) then some true
  else (ck (0 ≤ y3 ∧ y3 < (a1.length : Int))).bind fun _ =>
  (bif (!(decide (((a1.getD y3.toNat e61.d).1) = (3 : Int)))) then (bif a3 then some true
  else (ck (0 ≤ y3 ∧ y3 < (a1.length : Int))).bind fun _ =>
  some (!(decide (((a1.getD y3.toNat e61.d).1) = (1 : Int))))).bind fun y11 =>
  some y11
  else some false).bind fun y10 =>
  some y10).bind fun y7 =>
  (bif y7 then
  some (.inr (.inl false))
  else (ck (inR .i64 (y3 + (1 : Int)))).bind fun _ =>
  some (.inl (y3 + (1 : Int))))
  else some (.inr (.inr ())))
def s102 (L : LP) (a0_0 : Int) (a0_1 : Int) (a0_2 : Int) (a0_3 : Int) (a0_4 : (List (List Int))) (a0_5 : (List (Int × (List (Int × (List (Int × Int))))))) (a0_6 : (List ((List (List (Int × Int))) × (List (List (Int × Int)))))) (a0_7 : (List ((List (Int × Int)) × (List (Int × Int)) × Int × Int))) (a1 : (List (Int × Int))) (a2 : Int) (a3 : Bool) : Option Bool :=
  (bif (!(decide ((a1.length : Int) = a2))) then
  some false
  else ((L.run (s102_0 L a0_0 a0_1 a0_2 a0_3 a0_4 a0_5 a0_6 a0_7 a1 a3) (0 : Int)).bind (fun (b : Bool ⊕ Unit) => (match b with
  | .inl v => some (.inr v)
  | .inr v => some (.inl ())))).bind fun (y1 : Unit ⊕ Bool) => (match y1 with
  | .inl v2 => some true
  | .inr v2 => some v2))
theorem p102 (L : LP) (a0_0 : Int) (a0_1 : Int) (a0_2 : Int) (a0_3 : Int) (a0_4 : (List (List Int))) (a0_5 : (List (Int × (List (Int × (List (Int × Int))))))) (a0_6 : (List ((List (List (Int × Int))) × (List (List (Int × Int)))))) (a0_7 : (List ((List (Int × Int)) × (List (Int × Int)) × Int × Int))) (a1 : (List (Int × Int))) (a2 : Int) (a3 : Bool) (r : Bool) (h : s102 L a0_0 a0_1 a0_2 a0_3 a0_4 a0_5 a0_6 a0_7 a1 a2 a3 = some r) : Pure X 102 [.agg [aI a0_0, aI a0_1, aI a0_2, aI a0_3, aS e28 a0_4, aS e72 a0_5, aS e65 a0_6, aS e77 a0_7], vS e61 a1, vI a2, vB a3] (vB r) := by
 refine Pure_of_W (c := cd Tryd.f102 []) Tryd.func102 (by kernel_rfl) (N := 46) (by kernel_rfl) (Nat.le_of_ble_eq_true (by kernel_rfl)) ?_
 unfold s102 at h
 refine js ?_
 refine jr ?_
 refine jf [bL 27 [aI a0_0, aI a0_1, aI a0_2, aI a0_3, aS e28 a0_4, aS e72 a0_5, aS e65 a0_6, aS e77 a0_7]] [(1, vS e61 a1), (2, vI a2), (3, vB a3), (4, vO 0 0 8 0 0)] 2 [1, 2, 3, 4] ?_
 refine thenQ_n ?_
 refine js ?_
 refine js ?_
 refine jr ?_
 refine jg [(1, vS e61 a1), (3, vB a3), (4, vO 0 0 8 0 0), (13, vB (!(decide ((a1.length : Int) = a2))))] 4 [1, 3, 4, 13] ?_
 refine thenQ_n ?_
 refine jc (!(decide ((a1.length : Int) = a2))) (fun hb => ?_) (fun hb => ?_)
 · have h := cond_t hb h
   refine js ?_
   refine jr ?_
   refine jg [(8, vB false)] 1 [8] ?_
   refine thenQ_n ?_
   refine jt ?_
   refine thenQ_r ?_
   obtain rfl := si h
   exact jq [vB false]
 · have h := cond_f hb h
   refine jk ?_
   refine thenQ_n ?_
   obtain ⟨y1, gy1, ky1⟩ := bind_some h
   refine W_cutE (by kernel_rfl) (fun v2 => y1 = .inl v2) (fun v2 => ([bL 27 [aI a0_0, aI a0_1, aI a0_2, aI a0_3, aS e28 a0_4, aS e72 a0_5, aS e65 a0_6, aS e77 a0_7]], [])) ?_ ?_
   · intro v2 hv; subst hv; have h := ky1; clear gy1 ky1; dsimp only at h
     refine js ?_
     refine jr ?_
     refine jg [(8, vB true)] 1 [8] ?_
     refine thenQ_n ?_
     refine jt ?_
     obtain rfl := si h
     exact jq [vB true]
   · have h := gy1; clear gy1
     refine js ?_
     refine jr ?_
     refine jg [(1, vS e61 a1), (3, vB a3), (4, vO 0 0 8 0 0), (9, vI 0)] 1 [1, 3, 4, 9] ?_
     refine thenQ_n ?_
     refine jb 0 ?_
     obtain ⟨b4, gb4, kb4⟩ := bind_some h
     refine W_loop_at (S := fun (y3 : Int) => ([bL 27 [aI a0_0, aI a0_1, aI a0_2, aI a0_3, aS e28 a0_4, aS e72 a0_5, aS e65 a0_6, aS e77 a0_7]], [(1, vS e61 a1), (3, vB a3), (4, vO 0 0 8 0 0), (9, vI y3)])) (step := _) (x0 := (0 : Int)) (b := b4) (L.ok _ _ _ gb4) (by kernel_rfl) (jE [.keep [1, 3, 4, 9], .take 1]) ?_
     clear gb4 h; intro y3 o h; unfold s102_0 at h
     refine js ?_
     refine js ?_
     refine jr ?_
     refine jg [(1, vS e61 a1), (3, vB a3), (4, vO 0 0 8 0 0), (9, vI y3), (17, vB (decide (y3 < (a1.length : Int))))] 4 [1, 3, 4, 9, 17] ?_
     refine thenQ_n ?_
     refine jc (decide (y3 < (a1.length : Int))) (fun hb => ?_) (fun hb => ?_)
     · have h := cond_t hb h
       refine jk ?_
       refine thenQ_n ?_
       refine js ?_
       refine jb 1 ?_
       refine js ?_
       refine jdr 26 mixed ?_
       obtain ⟨c5, h⟩ := ck_bind h
       refine jY 21 [(1, vS e61 a1), (3, vB a3), (4, vO 0 0 8 0 0), (9, vI y3), (20, .agg [aI a0_0, aI a0_1, aI a0_2, aI a0_3, aS e28 a0_4, aS e72 a0_5, aS e65 a0_6, aS e77 a0_7]), (24, .agg [aY ((a1.getD y3.toNat e61.d).1), aI ((a1.getD y3.toNat e61.d).2)])] ((0 ≤ y3 ∧ y3 < (a1.length : Int)) ∧ (True)) 5 [1, 3, 4, 9, 20, 24] ⟨c5, trivial⟩ ?_
       obtain ⟨r6, gr6, h⟩ := bind_some h
       refine jL 25 Tryd.call101 (p101 L _ _ _ _ _ _ _ _ _ _ _ gr6) ?_
       refine jy 18 [(1, vS e61 a1), (3, vB a3), (4, vO 0 0 8 0 0), (9, vI y3), (27, vB (!r6))] 2 [1, 3, 4, 9, 27] ?_
       obtain ⟨y7, gy7, h⟩ := bind_some h
       refine WQ_join 0 26 [(1, vS e61 a1), (3, vB a3), (4, vO 0 0 8 0 0), (9, vI y3), (45, vB y7)] ?_ ?_
       · clear gy7
         refine WQ_done ?_
         refine jg [(1, vS e61 a1), (3, vB a3), (4, vO 0 0 8 0 0), (9, vI y3), (45, vB y7)] 0 [1, 3, 4, 9, 45] ?_
         refine thenQ_n ?_
         refine jc y7 (fun hb => ?_) (fun hb => ?_)
         · have h := cond_t hb h
           refine js ?_
           refine jr ?_
           refine jg [(8, vB false)] 1 [8] ?_
           refine thenQ_n ?_
           refine jt ?_
           refine blockQ_r ?_
           refine thenQ_r ?_
           obtain rfl := si h; refine round_r rfl (fun hb => ?_); subst hb; have h := kb4; dsimp only at h
           refine blockQ_r ?_
           obtain rfl := si h; have h := ky1; dsimp only at h; refine thenQ_r ?_
           obtain rfl := si h
           exact jq [vB false]
         · have h := cond_f hb h
           refine jk ?_
           refine blockQ_n ?_
           refine thenQ_n ?_
           refine jr ?_
           obtain ⟨c8, h⟩ := ck_bind h
           refine jG [(1, vS e61 a1), (3, vB a3), (4, vO 0 0 8 0 0), (9, vI (y3 + (1 : Int)))] ((inR .i64 (y3 + (1 : Int))) ∧ (True)) 3 [1, 3, 4, 9] ⟨c8, trivial⟩ ?_
           obtain rfl := si h
           exact round_n _ rfl (jE [.keep [1, 3, 4, 9], .take 1])
       · intro J
         clear h
         rcases Bool.eq_false_or_eq_true (!r6) with hb | hb
         · have h := cond_t hb gy7; clear gy7
           refine jD 27 hb ?_
           obtain rfl := si h
           refine jy 0 [(1, vS e61 a1), (3, vB a3), (4, vO 0 0 8 0 0), (9, vI y3), (45, vB true)] 18 [1, 3, 4, 9, 45] J
         · have h := cond_f hb gy7; clear gy7
           refine jD 27 hb ?_
           obtain ⟨c9, h⟩ := ck_bind h
           refine jY 11 [(1, vS e61 a1), (3, vB a3), (4, vO 0 0 8 0 0), (9, vI y3), (27, vB false), (28, vS e61 a1), (29, vI y3), (30, .cell (.c (ptC e61 a1 y3 0))), (31, .cell (.c (ptC e61 a1 y3 0))), (32, vY ((a1.getD y3.toNat e61.d).1)), (33, vB (!(decide (((a1.getD y3.toNat e61.d).1) = (3 : Int))))), (34, vB (!(decide (((a1.getD y3.toNat e61.d).1) = (3 : Int)))))] ((0 ≤ y3 ∧ y3 < (a1.length : Int)) ∧ (True)) 7 [1, 3, 4, 9, 27, 28, 29, 30, 31, 32, 33, 34] ⟨c9, trivial⟩ ?_
           obtain ⟨y10, gy10, h⟩ := bind_some h
           refine WQ_join 1 25 [(1, vS e61 a1), (3, vB a3), (4, vO 0 0 8 0 0), (9, vI y3), (27, vB false), (28, vS e61 a1), (29, vI y3), (30, .cell (.c (ptC e61 a1 y3 0))), (31, .cell (.c (ptC e61 a1 y3 0))), (32, vY ((a1.getD y3.toNat e61.d).1)), (33, vB (!(decide (((a1.getD y3.toNat e61.d).1) = (3 : Int))))), (34, vB (!(decide (((a1.getD y3.toNat e61.d).1) = (3 : Int))))), (44, vB y10)] ?_ ?_
           · clear gy10
             obtain rfl := si h
             refine jy 0 [(1, vS e61 a1), (3, vB a3), (4, vO 0 0 8 0 0), (9, vI y3), (45, vB y10)] 1 [1, 3, 4, 9, 45] J
           · intro J
             clear h
             rcases Bool.eq_false_or_eq_true (!(decide (((a1.getD y3.toNat e61.d).1) = (3 : Int)))) with hb | hb
             · have h := cond_t hb gy10; clear gy10
               refine jD 34 hb ?_
               refine jy 9 [(1, vS e61 a1), (3, vB a3), (4, vO 0 0 8 0 0), (9, vI y3), (27, vB false), (28, vS e61 a1), (29, vI y3), (30, .cell (.c (ptC e61 a1 y3 0))), (31, .cell (.c (ptC e61 a1 y3 0))), (32, vY ((a1.getD y3.toNat e61.d).1)), (33, vB (!(decide (((a1.getD y3.toNat e61.d).1) = (3 : Int))))), (34, vB true), (35, vB a3), (36, vB a3)] 2 [1, 3, 4, 9, 27, 28, 29, 30, 31, 32, 33, 34, 35, 36] ?_
               obtain ⟨y11, gy11, h⟩ := bind_some h
               refine WQ_join 2 24 [(1, vS e61 a1), (3, vB a3), (4, vO 0 0 8 0 0), (9, vI y3), (27, vB false), (28, vS e61 a1), (29, vI y3), (30, .cell (.c (ptC e61 a1 y3 0))), (31, .cell (.c (ptC e61 a1 y3 0))), (32, vY ((a1.getD y3.toNat e61.d).1)), (33, vB (!(decide (((a1.getD y3.toNat e61.d).1) = (3 : Int))))), (34, vB true), (35, vB a3), (36, vB a3), (43, vB y11)] ?_ ?_
               · clear gy11
                 obtain rfl := si h
                 refine jy 1 [(1, vS e61 a1), (3, vB a3), (4, vO 0 0 8 0 0), (9, vI y3), (27, vB false), (28, vS e61 a1), (29, vI y3), (30, .cell (.c (ptC e61 a1 y3 0))), (31, .cell (.c (ptC e61 a1 y3 0))), (32, vY ((a1.getD y3.toNat e61.d).1)), (33, vB (!(decide (((a1.getD y3.toNat e61.d).1) = (3 : Int))))), (34, vB true), (44, vB y11)] 1 [1, 3, 4, 9, 27, 28, 29, 30, 31, 32, 33, 34, 44] ?_
                 refine jD 34 hb.symm ?_
                 exact WQ_keep [1, 3, 4, 9, 27, 28, 29, 30, 31, 32, 33, 34, 44] (by kernel_rfl) J
               · intro J
                 clear h
                 rcases Bool.eq_false_or_eq_true a3 with hb | hb
                 · have h := cond_t hb gy11; clear gy11
                   refine jD 36 hb ?_
                   obtain rfl := si h
                   refine jy 2 [(1, vS e61 a1), (3, vB a3), (4, vO 0 0 8 0 0), (9, vI y3), (27, vB false), (28, vS e61 a1), (29, vI y3), (30, .cell (.c (ptC e61 a1 y3 0))), (31, .cell (.c (ptC e61 a1 y3 0))), (32, vY ((a1.getD y3.toNat e61.d).1)), (33, vB (!(decide (((a1.getD y3.toNat e61.d).1) = (3 : Int))))), (34, vB true), (35, vB a3), (36, vB true), (43, vB true)] 7 [1, 3, 4, 9, 27, 28, 29, 30, 31, 32, 33, 34, 35, 36, 43] ?_
                   refine jD 36 hb.symm ?_
                   exact WQ_keep [1, 3, 4, 9, 27, 28, 29, 30, 31, 32, 33, 34, 35, 36, 43] (by kernel_rfl) J
                 · have h := cond_f hb gy11; clear gy11
                   refine jD 36 hb ?_
                   obtain ⟨c12, h⟩ := ck_bind h
                   refine jY 3 [(1, vS e61 a1), (3, vB a3), (4, vO 0 0 8 0 0), (9, vI y3), (27, vB false), (28, vS e61 a1), (29, vI y3), (30, .cell (.c (ptC e61 a1 y3 0))), (31, .cell (.c (ptC e61 a1 y3 0))), (32, vY ((a1.getD y3.toNat e61.d).1)), (33, vB (!(decide (((a1.getD y3.toNat e61.d).1) = (3 : Int))))), (34, vB true), (35, vB a3), (36, vB false), (37, vS e61 a1), (38, vI y3), (39, .cell (.c (ptC e61 a1 y3 0))), (40, .cell (.c (ptC e61 a1 y3 0))), (41, vY ((a1.getD y3.toNat e61.d).1)), (42, vB (!(decide (((a1.getD y3.toNat e61.d).1) = (1 : Int)))))] ((0 ≤ y3 ∧ y3 < (a1.length : Int)) ∧ (True)) 6 [1, 3, 4, 9, 27, 28, 29, 30, 31, 32, 33, 34, 35, 36, 37, 38, 39, 40, 41, 42] ⟨c12, trivial⟩ ?_
                   obtain rfl := si h
                   refine jy 2 [(1, vS e61 a1), (3, vB a3), (4, vO 0 0 8 0 0), (9, vI y3), (27, vB false), (28, vS e61 a1), (29, vI y3), (30, .cell (.c (ptC e61 a1 y3 0))), (31, .cell (.c (ptC e61 a1 y3 0))), (32, vY ((a1.getD y3.toNat e61.d).1)), (33, vB (!(decide (((a1.getD y3.toNat e61.d).1) = (3 : Int))))), (34, vB true), (35, vB a3), (36, vB false), (43, vB (!(decide (((a1.getD y3.toNat e61.d).1) = (1 : Int)))))] 1 [1, 3, 4, 9, 27, 28, 29, 30, 31, 32, 33, 34, 35, 36, 43] ?_
                   refine jD 36 hb.symm ?_
                   exact WQ_keep [1, 3, 4, 9, 27, 28, 29, 30, 31, 32, 33, 34, 35, 36, 43] (by kernel_rfl) J
             · have h := cond_f hb gy10; clear gy10
               refine jD 34 hb ?_
               obtain rfl := si h
               refine jy 1 [(1, vS e61 a1), (3, vB a3), (4, vO 0 0 8 0 0), (9, vI y3), (27, vB false), (28, vS e61 a1), (29, vI y3), (30, .cell (.c (ptC e61 a1 y3 0))), (31, .cell (.c (ptC e61 a1 y3 0))), (32, vY ((a1.getD y3.toNat e61.d).1)), (33, vB (!(decide (((a1.getD y3.toNat e61.d).1) = (3 : Int))))), (34, vB false), (44, vB false)] 10 [1, 3, 4, 9, 27, 28, 29, 30, 31, 32, 33, 34, 44] ?_
               refine jD 34 hb.symm ?_
               exact WQ_keep [1, 3, 4, 9, 27, 28, 29, 30, 31, 32, 33, 34, 44] (by kernel_rfl) J
     · have h := cond_f hb h
       refine je 0 ?_
       refine thenQ_e ?_
       obtain rfl := si h; refine round_e rfl (fun hb => ?_); subst hb; have h := kb4; dsimp only at h
       refine blockQ_hit ?_
       obtain rfl := si h
       exact thenQ_n ⟨_, rfl, jE [.keep [], .take 1]⟩

/- attestorref13.perm -/
def s52_0 (L : LP) (a0_0 : Int) (a0_1 : Int) (a0_2 : Int) (a0_3 : Int) (a0_4 : (List (List Int))) (a0_5 : (List (Int × (List (Int × (List (Int × Int))))))) (a0_6 : (List ((List (List (Int × Int))) × (List (List (Int × Int)))))) (a0_7 : (List ((List (Int × Int)) × (List (Int × Int)) × Int × Int))) (a1_0 : (List (List (Int × Int)))) (a1_1 : (List (List (Int × Int)))) (y7 : Int) : Option (Int ⊕ (Bool ⊕ Unit)) :=
  (bif (decide (y7 < (a1_0.length : Int))) then
  (ck (0 ≤ y7 ∧ y7 < (a1_0.length : Int))).bind fun _ =>
  (s102 L a0_0 a0_1 a0_2 a0_3 a0_4 a0_5 a0_6 a0_7 (a1_0.getD y7.toNat e62.d) ((a1_0.getD (0 : Int).toNat e62.d).length : Int) false).bind fun r10 =>
  (bif (!r10) then some true
  else (ck (0 ≤ y7 ∧ y7 < (a1_1.length : Int))).bind fun _ =>
  (s102 L a0_0 a0_1 a0_2 a0_3 a0_4 a0_5 a0_6 a0_7 (a1_1.getD y7.toNat e62.d) ((a1_0.getD (0 : Int).toNat e62.d).length : Int) false).bind fun r14 =>
  some (!r14)).bind fun y11 =>
  (bif y11 then
  some (.inr (.inl false))
  else (ck (inR .i64 (y7 + (1 : Int)))).bind fun _ =>
  some (.inl (y7 + (1 : Int))))
  else some (.inr (.inr ())))
def s52 (L : LP) (a0_0 : Int) (a0_1 : Int) (a0_2 : Int) (a0_3 : Int) (a0_4 : (List (List Int))) (a0_5 : (List (Int × (List (Int × (List (Int × Int))))))) (a0_6 : (List ((List (List (Int × Int))) × (List (List (Int × Int)))))) (a0_7 : (List ((List (Int × Int)) × (List (Int × Int)) × Int × Int))) (a1_0 : (List (List (Int × Int)))) (a1_1 : (List (List (Int × Int)))) : Option Bool :=
  (bif (decide ((a1_0.length : Int) < (1 : Int))) then some true
  else some (decide ((a1_0.length : Int) > (4 : Int)))).bind fun y1 =>
  (bif y1 then some true
  else some (!(decide ((a1_1.length : Int) = (a1_0.length : Int))))).bind fun y2 =>
  (bif y2 then
  some false
  else (ck (0 ≤ (0 : Int) ∧ (0 : Int) < (a1_0.length : Int))).bind fun _ =>
  (bif (decide (((a1_0.getD (0 : Int).toNat e62.d).length : Int) < (1 : Int))) then some true
  else some (decide (((a1_0.getD (0 : Int).toNat e62.d).length : Int) > (4 : Int)))).bind fun y4 =>
  (bif y4 then
  some false
  else ((L.run (s52_0 L a0_0 a0_1 a0_2 a0_3 a0_4 a0_5 a0_6 a0_7 a1_0 a1_1) (0 : Int)).bind (fun (b : Bool ⊕ Unit) => (match b with
  | .inl v => some (.inr v)
  | .inr v => some (.inl ())))).bind fun (y5 : Unit ⊕ Bool) => (match y5 with
  | .inl v6 => some true
  | .inr v6 => some v6)))
theorem p52 (L : LP) (a0_0 : Int) (a0_1 : Int) (a0_2 : Int) (a0_3 : Int) (a0_4 : (List (List Int))) (a0_5 : (List (Int × (List (Int × (List (Int × Int))))))) (a0_6 : (List ((List (List (Int × Int))) × (List (List (Int × Int)))))) (a0_7 : (List ((List (Int × Int)) × (List (Int × Int)) × Int × Int))) (a1_0 : (List (List (Int × Int)))) (a1_1 : (List (List (Int × Int)))) (r : Bool) (h : s52 L a0_0 a0_1 a0_2 a0_3 a0_4 a0_5 a0_6 a0_7 a1_0 a1_1 = some r) : Pure X 52 [.agg [aI a0_0, aI a0_1, aI a0_2, aI a0_3, aS e28 a0_4, aS e72 a0_5, aS e65 a0_6, aS e77 a0_7], .agg [aS e62 a1_0, aS e62 a1_1]] (vB r) := by
 refine Pure_of_W (c := cd Tryd.f52 []) Tryd.func52 (by kernel_rfl) (N := 64) (by kernel_rfl) (Nat.le_of_ble_eq_true (by kernel_rfl)) ?_
 unfold s52 at h
 refine js ?_
 refine jr ?_
 refine jf [bL 27 [aI a0_0, aI a0_1, aI a0_2, aI a0_3, aS e28 a0_4, aS e72 a0_5, aS e65 a0_6, aS e77 a0_7], bL 65 [aS e62 a1_0, aS e62 a1_1]] [(2, vO 0 0 8 0 0), (3, vO 1 0 2 0 0)] 3 [2, 3] ?_
 refine thenQ_n ?_
 refine js ?_
 refine js ?_
 refine jr ?_
 refine jh [(2, vO 0 0 8 0 0), (3, vO 1 0 2 0 0), (11, vB (decide ((a1_0.length : Int) < (1 : Int))))] 5 [2, 3, 11] ?_
 obtain ⟨y1, gy1, h⟩ := bind_some h
 refine jj 10 [(2, vO 0 0 8 0 0), (3, vO 1 0 2 0 0), (16, vB y1)] ?_ ?_
 · clear gy1
   refine jh [(2, vO 0 0 8 0 0), (3, vO 1 0 2 0 0), (17, vB y1)] 1 [2, 3, 17] ?_
   obtain ⟨y2, gy2, h⟩ := bind_some h
   refine jj 19 [(2, vO 0 0 8 0 0), (3, vO 1 0 2 0 0), (25, vB y2)] ?_ ?_
   · clear gy2
     refine jg [(2, vO 0 0 8 0 0), (3, vO 1 0 2 0 0), (25, vB y2)] 0 [2, 3, 25] ?_
     refine thenQ_n ?_
     refine jc y2 (fun hb => ?_) (fun hb => ?_)
     · have h := cond_t hb h
       refine js ?_
       refine jr ?_
       refine jg [(4, vB false)] 1 [4] ?_
       refine thenQ_n ?_
       refine jt ?_
       refine thenQ_r ?_
       obtain rfl := si h
       exact jq [vB false]
     · have h := cond_f hb h
       refine jk ?_
       refine thenQ_n ?_
       refine js ?_
       refine jr ?_
       obtain ⟨c3, h⟩ := ck_bind h
       refine jG [(2, vO 0 0 8 0 0), (3, vO 1 0 2 0 0), (5, vI ((a1_0.getD (0 : Int).toNat e62.d).length : Int))] ((0 ≤ (0 : Int) ∧ (0 : Int) < (a1_0.length : Int)) ∧ (True)) 6 [2, 3, 5] ⟨c3, trivial⟩ ?_
       refine thenQ_n ?_
       refine js ?_
       refine js ?_
       refine jr ?_
       refine jh [(2, vO 0 0 8 0 0), (3, vO 1 0 2 0 0), (5, vI ((a1_0.getD (0 : Int).toNat e62.d).length : Int)), (33, vB (decide (((a1_0.getD (0 : Int).toNat e62.d).length : Int) < (1 : Int))))] 3 [2, 3, 5, 33] ?_
       obtain ⟨y4, gy4, h⟩ := bind_some h
       refine jj 6 [(2, vO 0 0 8 0 0), (3, vO 1 0 2 0 0), (5, vI ((a1_0.getD (0 : Int).toNat e62.d).length : Int)), (36, vB y4)] ?_ ?_
       · clear gy4
         refine jg [(2, vO 0 0 8 0 0), (3, vO 1 0 2 0 0), (5, vI ((a1_0.getD (0 : Int).toNat e62.d).length : Int)), (36, vB y4)] 0 [2, 3, 5, 36] ?_
         refine thenQ_n ?_
         refine jc y4 (fun hb => ?_) (fun hb => ?_)
         · have h := cond_t hb h
           refine js ?_
           refine jr ?_
           refine jg [(4, vB false)] 1 [4] ?_
           refine thenQ_n ?_
           refine jt ?_
           refine thenQ_r ?_
           obtain rfl := si h
           exact jq [vB false]
         · have h := cond_f hb h
           refine jk ?_
           refine thenQ_n ?_
           obtain ⟨y5, gy5, ky5⟩ := bind_some h
           refine W_cutE (by kernel_rfl) (fun v6 => y5 = .inl v6) (fun v6 => ([bL 27 [aI a0_0, aI a0_1, aI a0_2, aI a0_3, aS e28 a0_4, aS e72 a0_5, aS e65 a0_6, aS e77 a0_7], bL 65 [aS e62 a1_0, aS e62 a1_1]], [])) ?_ ?_
           · intro v6 hv; subst hv; have h := ky5; clear gy5 ky5; dsimp only at h
             refine js ?_
             refine jr ?_
             refine jg [(4, vB true)] 1 [4] ?_
             refine thenQ_n ?_
             refine jt ?_
             obtain rfl := si h
             exact jq [vB true]
           · have h := gy5; clear gy5
             refine js ?_
             refine jr ?_
             refine jg [(2, vO 0 0 8 0 0), (3, vO 1 0 2 0 0), (5, vI ((a1_0.getD (0 : Int).toNat e62.d).length : Int)), (6, vI 0)] 1 [2, 3, 5, 6] ?_
             refine thenQ_n ?_
             refine jb 0 ?_
             obtain ⟨b8, gb8, kb8⟩ := bind_some h
             refine W_loop_at (S := fun (y7 : Int) => ([bL 27 [aI a0_0, aI a0_1, aI a0_2, aI a0_3, aS e28 a0_4, aS e72 a0_5, aS e65 a0_6, aS e77 a0_7], bL 65 [aS e62 a1_0, aS e62 a1_1]], [(2, vO 0 0 8 0 0), (3, vO 1 0 2 0 0), (5, vI ((a1_0.getD (0 : Int).toNat e62.d).length : Int)), (6, vI y7)])) (step := _) (x0 := (0 : Int)) (b := b8) (L.ok _ _ _ gb8) (by kernel_rfl) (jE [.keep [2, 3, 5, 6], .take 2]) ?_
             clear gb8 h; intro y7 o h; unfold s52_0 at h
             refine js ?_
             refine js ?_
             refine jr ?_
             refine jg [(2, vO 0 0 8 0 0), (3, vO 1 0 2 0 0), (5, vI ((a1_0.getD (0 : Int).toNat e62.d).length : Int)), (6, vI y7), (41, vB (decide (y7 < (a1_0.length : Int))))] 5 [2, 3, 5, 6, 41] ?_
             refine thenQ_n ?_
             refine jc (decide (y7 < (a1_0.length : Int))) (fun hb => ?_) (fun hb => ?_)
             · have h := cond_t hb h
               refine jk ?_
               refine thenQ_n ?_
               refine js ?_
               refine jb 1 ?_
               refine js ?_
               refine jdr 20 mixed ?_
               obtain ⟨c9, h⟩ := ck_bind h
               refine jY 13 [(2, vO 0 0 8 0 0), (3, vO 1 0 2 0 0), (5, vI ((a1_0.getD (0 : Int).toNat e62.d).length : Int)), (6, vI y7), (44, .agg [aI a0_0, aI a0_1, aI a0_2, aI a0_3, aS e28 a0_4, aS e72 a0_5, aS e65 a0_6, aS e77 a0_7]), (49, vS e61 (a1_0.getD y7.toNat e62.d)), (50, vI ((a1_0.getD (0 : Int).toNat e62.d).length : Int))] ((0 ≤ y7 ∧ y7 < (a1_0.length : Int)) ∧ (True)) 7 [2, 3, 5, 6, 44, 49, 50] ⟨c9, trivial⟩ ?_
               obtain ⟨r10, gr10, h⟩ := bind_some h
               refine jL 51 Tryd.call102 (p102 L _ _ _ _ _ _ _ _ _ _ _ _ gr10) ?_
               refine jy 10 [(2, vO 0 0 8 0 0), (3, vO 1 0 2 0 0), (5, vI ((a1_0.getD (0 : Int).toNat e62.d).length : Int)), (6, vI y7), (53, vB (!r10))] 2 [2, 3, 5, 6, 53] ?_
               obtain ⟨y11, gy11, h⟩ := bind_some h
               refine WQ_join 0 20 [(2, vO 0 0 8 0 0), (3, vO 1 0 2 0 0), (5, vI ((a1_0.getD (0 : Int).toNat e62.d).length : Int)), (6, vI y7), (63, vB y11)] ?_ ?_
               · clear gy11
                 refine WQ_done ?_
                 refine jg [(2, vO 0 0 8 0 0), (3, vO 1 0 2 0 0), (5, vI ((a1_0.getD (0 : Int).toNat e62.d).length : Int)), (6, vI y7), (63, vB y11)] 0 [2, 3, 5, 6, 63] ?_
                 refine thenQ_n ?_
                 refine jc y11 (fun hb => ?_) (fun hb => ?_)
                 · have h := cond_t hb h
                   refine js ?_
                   refine jr ?_
                   refine jg [(4, vB false)] 1 [4] ?_
                   refine thenQ_n ?_
                   refine jt ?_
                   refine blockQ_r ?_
                   refine thenQ_r ?_
                   obtain rfl := si h; refine round_r rfl (fun hb => ?_); subst hb; have h := kb8; dsimp only at h
                   refine blockQ_r ?_
                   obtain rfl := si h; have h := ky5; dsimp only at h; refine thenQ_r ?_
                   obtain rfl := si h
                   exact jq [vB false]
                 · have h := cond_f hb h
                   refine jk ?_
                   refine blockQ_n ?_
                   refine thenQ_n ?_
                   refine jr ?_
                   obtain ⟨c12, h⟩ := ck_bind h
                   refine jG [(2, vO 0 0 8 0 0), (3, vO 1 0 2 0 0), (5, vI ((a1_0.getD (0 : Int).toNat e62.d).length : Int)), (6, vI (y7 + (1 : Int)))] ((inR .i64 (y7 + (1 : Int))) ∧ (True)) 3 [2, 3, 5, 6] ⟨c12, trivial⟩ ?_
                   obtain rfl := si h
                   exact round_n _ rfl (jE [.keep [2, 3, 5, 6], .take 2])
               · intro J
                 clear h
                 rcases Bool.eq_false_or_eq_true (!r10) with hb | hb
                 · have h := cond_t hb gy11; clear gy11
                   refine jD 53 hb ?_
                   obtain rfl := si h
                   refine jy 0 [(2, vO 0 0 8 0 0), (3, vO 1 0 2 0 0), (5, vI ((a1_0.getD (0 : Int).toNat e62.d).length : Int)), (6, vI y7), (63, vB true)] 10 [2, 3, 5, 6, 63] J
                 · have h := cond_f hb gy11; clear gy11
                   refine jD 53 hb ?_
                   obtain ⟨c13, h⟩ := ck_bind h
                   refine jY 3 [(2, vO 0 0 8 0 0), (3, vO 1 0 2 0 0), (5, vI ((a1_0.getD (0 : Int).toNat e62.d).length : Int)), (6, vI y7), (53, vB false), (54, .agg [aI a0_0, aI a0_1, aI a0_2, aI a0_3, aS e28 a0_4, aS e72 a0_5, aS e65 a0_6, aS e77 a0_7]), (55, vO 1 0 2 0 1), (56, vS e62 a1_1), (57, vI y7), (58, .cell (.c (ptC e62 a1_1 y7 0))), (59, vS e61 (a1_1.getD y7.toNat e62.d)), (60, vI ((a1_0.getD (0 : Int).toNat e62.d).length : Int))] ((0 ≤ y7 ∧ y7 < (a1_1.length : Int)) ∧ (True)) 7 [2, 3, 5, 6, 53, 54, 55, 56, 57, 58, 59, 60] ⟨c13, trivial⟩ ?_
                   obtain ⟨r14, gr14, h⟩ := bind_some h
                   refine jL 61 Tryd.call102 (p102 L _ _ _ _ _ _ _ _ _ _ _ _ gr14) ?_
                   refine jy 1 [(2, vO 0 0 8 0 0), (3, vO 1 0 2 0 0), (5, vI ((a1_0.getD (0 : Int).toNat e62.d).length : Int)), (6, vI y7), (53, vB false), (54, .agg [aI a0_0, aI a0_1, aI a0_2, aI a0_3, aS e28 a0_4, aS e72 a0_5, aS e65 a0_6, aS e77 a0_7]), (55, vO 1 0 2 0 1), (56, vS e62 a1_1), (57, vI y7), (58, .cell (.c (ptC e62 a1_1 y7 0))), (59, vS e61 (a1_1.getD y7.toNat e62.d)), (60, vI ((a1_0.getD (0 : Int).toNat e62.d).length : Int)), (61, vB r14), (62, vB (!r14))] 1 [2, 3, 5, 6, 53, 54, 55, 56, 57, 58, 59, 60, 61, 62] ?_
                   obtain rfl := si h
                   refine jy 0 [(2, vO 0 0 8 0 0), (3, vO 1 0 2 0 0), (5, vI ((a1_0.getD (0 : Int).toNat e62.d).length : Int)), (6, vI y7), (63, vB (!r14))] 1 [2, 3, 5, 6, 63] J
             · have h := cond_f hb h
               refine je 0 ?_
               refine thenQ_e ?_
               obtain rfl := si h; refine round_e rfl (fun hb => ?_); subst hb; have h := kb8; dsimp only at h
               refine blockQ_hit ?_
               obtain rfl := si h
               exact thenQ_n ⟨_, rfl, jE [.keep [], .take 2]⟩
       · intro J
         clear h
         rcases Bool.eq_false_or_eq_true (decide (((a1_0.getD (0 : Int).toNat e62.d).length : Int) < (1 : Int))) with hb | hb
         · have h := cond_t hb gy4; clear gy4
           refine jd 33 hb ?_
           obtain rfl := si h
           refine jh [(2, vO 0 0 8 0 0), (3, vO 1 0 2 0 0), (5, vI ((a1_0.getD (0 : Int).toNat e62.d).length : Int)), (36, vB true)] 3 [2, 3, 5, 36] J
         · have h := cond_f hb gy4; clear gy4
           refine jd 33 hb ?_
           refine jh [(2, vO 0 0 8 0 0), (3, vO 1 0 2 0 0), (5, vI ((a1_0.getD (0 : Int).toNat e62.d).length : Int)), (33, vB false), (35, vB (decide (((a1_0.getD (0 : Int).toNat e62.d).length : Int) > (4 : Int))))] 2 [2, 3, 5, 33, 35] ?_
           obtain rfl := si h
           refine jh [(2, vO 0 0 8 0 0), (3, vO 1 0 2 0 0), (5, vI ((a1_0.getD (0 : Int).toNat e62.d).length : Int)), (36, vB (decide (((a1_0.getD (0 : Int).toNat e62.d).length : Int) > (4 : Int))))] 1 [2, 3, 5, 36] J
   · intro J
     clear h
     rcases Bool.eq_false_or_eq_true y1 with hb | hb
     · have h := cond_t hb gy2; clear gy2
       refine jd 17 hb ?_
       obtain rfl := si h
       refine jh [(2, vO 0 0 8 0 0), (3, vO 1 0 2 0 0), (25, vB true)] 8 [2, 3, 25] J
     · have h := cond_f hb gy2; clear gy2
       refine jd 17 hb ?_
       refine jh [(2, vO 0 0 8 0 0), (3, vO 1 0 2 0 0), (17, vB false), (24, vB (!(decide ((a1_1.length : Int) = (a1_0.length : Int)))))] 7 [2, 3, 17, 24] ?_
       obtain rfl := si h
       refine jh [(2, vO 0 0 8 0 0), (3, vO 1 0 2 0 0), (25, vB (!(decide ((a1_1.length : Int) = (a1_0.length : Int)))))] 1 [2, 3, 25] J
 · intro J
   clear h
   rcases Bool.eq_false_or_eq_true (decide ((a1_0.length : Int) < (1 : Int))) with hb | hb
   · have h := cond_t hb gy1; clear gy1
     refine jd 11 hb ?_
     obtain rfl := si h
     refine jh [(2, vO 0 0 8 0 0), (3, vO 1 0 2 0 0), (16, vB true)] 5 [2, 3, 16] J
   · have h := cond_f hb gy1; clear gy1
     refine jd 11 hb ?_
     refine jh [(2, vO 0 0 8 0 0), (3, vO 1 0 2 0 0), (11, vB false), (15, vB (decide ((a1_0.length : Int) > (4 : Int))))] 4 [2, 3, 11, 15] ?_
     obtain rfl := si h
     refine jh [(2, vO 0 0 8 0 0), (3, vO 1 0 2 0 0), (16, vB (decide ((a1_0.length : Int) > (4 : Int))))] 1 [2, 3, 16] J

/- attestorref13.lookup -/
def s53 (L : LP) (a0_0 : Int) (a0_1 : Int) (a0_2 : Int) (a0_3 : Int) (a0_4 : (List (List Int))) (a0_5 : (List (Int × (List (Int × (List (Int × Int))))))) (a0_6 : (List ((List (List (Int × Int))) × (List (List (Int × Int)))))) (a0_7 : (List ((List (Int × Int)) × (List (Int × Int)) × Int × Int))) (a1_0 : (List (Int × Int))) (a1_1 : (List (Int × Int))) (a1_2 : Int) (a1_3 : Int) : Option Bool :=
  (bif (decide ((a1_0.length : Int) < (1 : Int))) then some true
  else some (decide ((a1_0.length : Int) > (4 : Int)))).bind fun y1 =>
  (bif y1 then some true
  else some (!(decide (a1_2 = (1 : Int))))).bind fun y2 =>
  (bif y2 then some true
  else (s101 L a0_0 a0_1 a0_2 a0_3 a0_4 a0_5 a0_6 a0_7 a1_2 a1_3).bind fun r7 =>
  some (!r7)).bind fun y3 =>
  (bif y3 then
  some false
  else (s102 L a0_0 a0_1 a0_2 a0_3 a0_4 a0_5 a0_6 a0_7 a1_0 (a1_0.length : Int) false).bind fun r4 =>
  (bif r4 then (s102 L a0_0 a0_1 a0_2 a0_3 a0_4 a0_5 a0_6 a0_7 a1_1 (a1_0.length : Int) true).bind fun r6 =>
  some r6
  else some false).bind fun y5 =>
  some y5)
theorem p53 (L : LP) (a0_0 : Int) (a0_1 : Int) (a0_2 : Int) (a0_3 : Int) (a0_4 : (List (List Int))) (a0_5 : (List (Int × (List (Int × (List (Int × Int))))))) (a0_6 : (List ((List (List (Int × Int))) × (List (List (Int × Int)))))) (a0_7 : (List ((List (Int × Int)) × (List (Int × Int)) × Int × Int))) (a1_0 : (List (Int × Int))) (a1_1 : (List (Int × Int))) (a1_2 : Int) (a1_3 : Int) (r : Bool) (h : s53 L a0_0 a0_1 a0_2 a0_3 a0_4 a0_5 a0_6 a0_7 a1_0 a1_1 a1_2 a1_3 = some r) : Pure X 53 [.agg [aI a0_0, aI a0_1, aI a0_2, aI a0_3, aS e28 a0_4, aS e72 a0_5, aS e65 a0_6, aS e77 a0_7], .agg [aS e61 a1_0, aS e61 a1_1, aY a1_2, aI a1_3]] (vB r) := by
 refine Pure_of_W (c := cd Tryd.f53 []) Tryd.func53 (by kernel_rfl) (N := 40) (by kernel_rfl) (Nat.le_of_ble_eq_true (by kernel_rfl)) ?_
 unfold s53 at h
 refine js ?_
 refine jr ?_
 refine jf [bL 27 [aI a0_0, aI a0_1, aI a0_2, aI a0_3, aS e28 a0_4, aS e72 a0_5, aS e65 a0_6, aS e77 a0_7], bL 77 [aS e61 a1_0, aS e61 a1_1, aY a1_2, aI a1_3]] [(2, vO 0 0 8 0 0), (3, vO 1 0 4 0 0)] 3 [2, 3] ?_
 refine thenQ_n ?_
 refine js ?_
 refine jr ?_
 refine jg [(2, vO 0 0 8 0 0), (3, vO 1 0 4 0 0), (5, vI (a1_0.length : Int))] 4 [2, 3, 5] ?_
 refine thenQ_n ?_
 refine js ?_
 refine js ?_
 refine jr ?_
 refine jh [(2, vO 0 0 8 0 0), (3, vO 1 0 4 0 0), (5, vI (a1_0.length : Int)), (11, vB (decide ((a1_0.length : Int) < (1 : Int))))] 3 [2, 3, 5, 11] ?_
 obtain ⟨y1, gy1, h⟩ := bind_some h
 refine jj 6 [(2, vO 0 0 8 0 0), (3, vO 1 0 4 0 0), (5, vI (a1_0.length : Int)), (14, vB y1)] ?_ ?_
 · clear gy1
   refine jh [(2, vO 0 0 8 0 0), (3, vO 1 0 4 0 0), (5, vI (a1_0.length : Int)), (15, vB y1)] 1 [2, 3, 5, 15] ?_
   obtain ⟨y2, gy2, h⟩ := bind_some h
   refine jj 12 [(2, vO 0 0 8 0 0), (3, vO 1 0 4 0 0), (5, vI (a1_0.length : Int)), (20, vB y2)] ?_ ?_
   · clear gy2
     refine jh [(2, vO 0 0 8 0 0), (3, vO 1 0 4 0 0), (5, vI (a1_0.length : Int)), (21, vB y2)] 1 [2, 3, 5, 21] ?_
     obtain ⟨y3, gy3, h⟩ := bind_some h
     refine jj 19 [(2, vO 0 0 8 0 0), (3, vO 1 0 4 0 0), (5, vI (a1_0.length : Int)), (27, vB y3)] ?_ ?_
     · clear gy3
       refine jg [(2, vO 0 0 8 0 0), (3, vO 1 0 4 0 0), (5, vI (a1_0.length : Int)), (27, vB y3)] 0 [2, 3, 5, 27] ?_
       refine thenQ_n ?_
       refine jc y3 (fun hb => ?_) (fun hb => ?_)
       · have h := cond_t hb h
         refine js ?_
         refine jr ?_
         refine jg [(4, vB false)] 1 [4] ?_
         refine thenQ_n ?_
         refine jt ?_
         refine thenQ_r ?_
         obtain rfl := si h
         exact jq [vB false]
       · have h := cond_f hb h
         refine jk ?_
         refine thenQ_n ?_
         refine js ?_
         refine jr ?_
         refine jh [(2, vO 0 0 8 0 0), (3, vO 1 0 4 0 0), (5, vI (a1_0.length : Int)), (28, .agg [aI a0_0, aI a0_1, aI a0_2, aI a0_3, aS e28 a0_4, aS e72 a0_5, aS e65 a0_6, aS e77 a0_7]), (30, vS e61 a1_0), (31, vI (a1_0.length : Int))] 4 [2, 3, 5, 28, 30, 31] ?_
         obtain ⟨r4, gr4, h⟩ := bind_some h
         refine jl 32 Tryd.call102 (p102 L _ _ _ _ _ _ _ _ _ _ _ _ gr4) ?_
         refine jh [(2, vO 0 0 8 0 0), (3, vO 1 0 4 0 0), (5, vI (a1_0.length : Int)), (33, vB r4)] 1 [2, 3, 5, 33] ?_
         obtain ⟨y5, gy5, h⟩ := bind_some h
         refine jj 12 [(39, vB y5)] ?_ ?_
         · clear gy5
           refine jg [(4, vB y5)] 1 [4] ?_
           refine thenQ_n ?_
           refine jt ?_
           obtain rfl := si h
           exact jq [vB y5]
         · intro J
           clear h
           rcases Bool.eq_false_or_eq_true r4 with hb | hb
           · have h := cond_t hb gy5; clear gy5
             refine jd 33 hb ?_
             refine jh [(33, vB true), (34, .agg [aI a0_0, aI a0_1, aI a0_2, aI a0_3, aS e28 a0_4, aS e72 a0_5, aS e65 a0_6, aS e77 a0_7]), (36, vS e61 a1_1), (37, vI (a1_0.length : Int))] 4 [33, 34, 36, 37] ?_
             obtain ⟨r6, gr6, h⟩ := bind_some h
             refine jl 38 Tryd.call102 (p102 L _ _ _ _ _ _ _ _ _ _ _ _ gr6) ?_
             obtain rfl := si h
             refine jh [(39, vB r6)] 1 [39] J
           · have h := cond_f hb gy5; clear gy5
             refine jd 33 hb ?_
             obtain rfl := si h
             refine jh [(39, vB false)] 6 [39] J
     · intro J
       clear h
       rcases Bool.eq_false_or_eq_true y2 with hb | hb
       · have h := cond_t hb gy3; clear gy3
         refine jd 21 hb ?_
         obtain rfl := si h
         refine jh [(2, vO 0 0 8 0 0), (3, vO 1 0 4 0 0), (5, vI (a1_0.length : Int)), (27, vB true)] 6 [2, 3, 5, 27] J
       · have h := cond_f hb gy3; clear gy3
         refine jd 21 hb ?_
         refine jh [(2, vO 0 0 8 0 0), (3, vO 1 0 4 0 0), (5, vI (a1_0.length : Int)), (21, vB false), (22, .agg [aI a0_0, aI a0_1, aI a0_2, aI a0_3, aS e28 a0_4, aS e72 a0_5, aS e65 a0_6, aS e77 a0_7]), (24, .agg [aY a1_2, aI a1_3])] 3 [2, 3, 5, 21, 22, 24] ?_
         obtain ⟨r7, gr7, h⟩ := bind_some h
         refine jl 25 Tryd.call101 (p101 L _ _ _ _ _ _ _ _ _ _ _ gr7) ?_
         refine jh [(2, vO 0 0 8 0 0), (3, vO 1 0 4 0 0), (5, vI (a1_0.length : Int)), (21, vB false), (26, vB (!r7))] 1 [2, 3, 5, 21, 26] ?_
         obtain rfl := si h
         refine jh [(2, vO 0 0 8 0 0), (3, vO 1 0 4 0 0), (5, vI (a1_0.length : Int)), (27, vB (!r7))] 1 [2, 3, 5, 27] J
   · intro J
     clear h
     rcases Bool.eq_false_or_eq_true y1 with hb | hb
     · have h := cond_t hb gy2; clear gy2
       refine jd 15 hb ?_
       obtain rfl := si h
       refine jh [(2, vO 0 0 8 0 0), (3, vO 1 0 4 0 0), (5, vI (a1_0.length : Int)), (20, vB true)] 5 [2, 3, 5, 20] J
     · have h := cond_f hb gy2; clear gy2
       refine jd 15 hb ?_
       refine jh [(2, vO 0 0 8 0 0), (3, vO 1 0 4 0 0), (5, vI (a1_0.length : Int)), (15, vB false), (19, vB (!(decide (a1_2 = (1 : Int)))))] 4 [2, 3, 5, 15, 19] ?_
       obtain rfl := si h
       refine jh [(2, vO 0 0 8 0 0), (3, vO 1 0 4 0 0), (5, vI (a1_0.length : Int)), (20, vB (!(decide (a1_2 = (1 : Int)))))] 1 [2, 3, 5, 20] J
 · intro J
   clear h
   rcases Bool.eq_false_or_eq_true (decide ((a1_0.length : Int) < (1 : Int))) with hb | hb
   · have h := cond_t hb gy1; clear gy1
     refine jd 11 hb ?_
     obtain rfl := si h
     refine jh [(2, vO 0 0 8 0 0), (3, vO 1 0 4 0 0), (5, vI (a1_0.length : Int)), (14, vB true)] 3 [2, 3, 5, 14] J
   · have h := cond_f hb gy1; clear gy1
     refine jd 11 hb ?_
     refine jh [(2, vO 0 0 8 0 0), (3, vO 1 0 4 0 0), (5, vI (a1_0.length : Int)), (11, vB false), (13, vB (decide ((a1_0.length : Int) > (4 : Int))))] 2 [2, 3, 5, 11, 13] ?_
     obtain rfl := si h
     refine jh [(2, vO 0 0 8 0 0), (3, vO 1 0 4 0 0), (5, vI (a1_0.length : Int)), (14, vB (decide ((a1_0.length : Int) > (4 : Int))))] 1 [2, 3, 5, 14] J

/- attestorref13.Valid -/
def s15_0 (L : LP) (a0_0 : Int) (a0_1 : Int) (a0_2 : Int) (a0_3 : Int) (a0_4 : (List (List Int))) (a0_5 : (List (Int × (List (Int × (List (Int × Int))))))) (a0_6 : (List ((List (List (Int × Int))) × (List (List (Int × Int)))))) (a0_7 : (List ((List (Int × Int)) × (List (Int × Int)) × Int × Int))) (y20 : Int) : Option (Int ⊕ (Bool ⊕ Unit)) :=
  (bif (decide (y20 < (a0_7.length : Int))) then
  (ck (0 ≤ y20 ∧ y20 < (a0_7.length : Int))).bind fun _ =>
  (s53 L a0_0 a0_1 a0_2 a0_3 a0_4 a0_5 a0_6 a0_7 ((a0_7.getD y20.toNat e77.d).1) ((a0_7.getD y20.toNat e77.d).2.1) ((a0_7.getD y20.toNat e77.d).2.2.1) ((a0_7.getD y20.toNat e77.d).2.2.2)).bind fun r23 =>
  (bif (!r23) then
  some (.inr (.inl false))
  else (ck (inR .i64 (y20 + (1 : Int)))).bind fun _ =>
  some (.inl (y20 + (1 : Int))))
  else some (.inr (.inr ())))
def s15_1 (L : LP) (a0_0 : Int) (a0_1 : Int) (a0_2 : Int) (a0_3 : Int) (a0_4 : (List (List Int))) (a0_5 : (List (Int × (List (Int × (List (Int × Int))))))) (a0_6 : (List ((List (List (Int × Int))) × (List (List (Int × Int)))))) (a0_7 : (List ((List (Int × Int)) × (List (Int × Int)) × Int × Int))) (y25 : Int) : Option (Int ⊕ (Bool ⊕ Unit)) :=
  (bif (decide (y25 < (a0_6.length : Int))) then
  (ck (0 ≤ y25 ∧ y25 < (a0_6.length : Int))).bind fun _ =>
  (s52 L a0_0 a0_1 a0_2 a0_3 a0_4 a0_5 a0_6 a0_7 ((a0_6.getD y25.toNat e65.d).1) ((a0_6.getD y25.toNat e65.d).2)).bind fun r28 =>
  (bif (!r28) then
  some (.inr (.inl false))
  else (ck (inR .i64 (y25 + (1 : Int)))).bind fun _ =>
  some (.inl (y25 + (1 : Int))))
  else some (.inr (.inr ())))
def s15_2 (L : LP) (a0_0 : Int) (a0_1 : Int) (a0_2 : Int) (a0_3 : Int) (a0_4 : (List (List Int))) (a0_5 : (List (Int × (List (Int × (List (Int × Int))))))) (a0_6 : (List ((List (List (Int × Int))) × (List (List (Int × Int)))))) (a0_7 : (List ((List (Int × Int)) × (List (Int × Int)) × Int × Int))) (y30 : Int) : Option (Int ⊕ (Bool ⊕ Unit)) :=
  (bif (decide (y30 < (a0_5.length : Int))) then
  (ck (0 ≤ y30 ∧ y30 < (a0_5.length : Int))).bind fun _ =>
  (s51 L a0_0 a0_1 a0_2 a0_3 a0_4 a0_5 a0_6 a0_7 ((a0_5.getD y30.toNat e72.d).1) ((a0_5.getD y30.toNat e72.d).2)).bind fun r33 =>
  (bif (!r33) then
  some (.inr (.inl false))
  else (ck (inR .i64 (y30 + (1 : Int)))).bind fun _ =>
  some (.inl (y30 + (1 : Int))))
  else some (.inr (.inr ())))
def s15_3 (L : LP) (a0_0 : Int) (a0_1 : Int) (a0_2 : Int) (a0_3 : Int) (a0_4 : (List (List Int))) (a0_5 : (List (Int × (List (Int × (List (Int × Int))))))) (a0_6 : (List ((List (List (Int × Int))) × (List (List (Int × Int)))))) (a0_7 : (List ((List (Int × Int)) × (List (Int × Int)) × Int × Int))) (y35 : Int) : Option (Int ⊕ (Bool ⊕ Unit)) :=
  (bif (decide (y35 < (a0_4.length : Int))) then
  (ck (0 ≤ y35 ∧ y35 < (a0_4.length : Int))).bind fun _ =>
  (s28 L a0_0 a0_1 a0_2 a0_3 a0_4 a0_5 a0_6 a0_7).bind fun r38 =>
  (bif (!(decide (((a0_4.getD y35.toNat e28.d).length : Int) = r38))) then some true
  else (ck (0 ≤ y35 ∧ y35 < (a0_4.length : Int))).bind fun _ =>
  (s50 L a0_0 (a0_4.getD y35.toNat e28.d)).bind fun r42 =>
  some (!r42)).bind fun y39 =>
  (bif y39 then
  some (.inr (.inl false))
  else (ck (inR .i64 (y35 + (1 : Int)))).bind fun _ =>
  some (.inl (y35 + (1 : Int))))
  else some (.inr (.inr ())))
def s15 (L : LP) (a0_0 : Int) (a0_1 : Int) (a0_2 : Int) (a0_3 : Int) (a0_4 : (List (List Int))) (a0_5 : (List (Int × (List (Int × (List (Int × Int))))))) (a0_6 : (List ((List (List (Int × Int))) × (List (List (Int × Int)))))) (a0_7 : (List ((List (Int × Int)) × (List (Int × Int)) × Int × Int))) : Option Bool :=
  (s48 L a0_0).bind fun r1 =>
  (bif (!r1) then some true
  else some (decide (a0_1 < (1 : Int)))).bind fun y2 =>
  (bif y2 then some true
  else some (decide (a0_1 > (13 : Int)))).bind fun y3 =>
  (bif y3 then some true
  else (s49 L a0_0).bind fun r43 =>
  some (decide (a0_1 > r43))).bind fun y4 =>
  (bif y4 then some true
  else some (decide (a0_2 < (1 : Int)))).bind fun y5 =>
  (bif y5 then some true
  else some (decide (a0_2 > (64 : Int)))).bind fun y6 =>
  (bif y6 then some true
  else some (decide (a0_3 < (0 : Int)))).bind fun y7 =>
  (bif y7 then some true
  else some (decide (a0_3 > (16 : Int)))).bind fun y8 =>
  (bif y8 then
  some false
  else (bif (decide ((a0_4.length : Int) > (64 : Int))) then some true
  else some (decide ((a0_5.length : Int) > (64 : Int)))).bind fun y9 =>
  (bif y9 then some true
  else some (decide ((a0_6.length : Int) > (4 : Int)))).bind fun y10 =>
  (bif y10 then some true
  else some (decide ((a0_7.length : Int) > (8 : Int)))).bind fun y11 =>
  (bif y11 then
  some false
  else ((L.run (s15_3 L a0_0 a0_1 a0_2 a0_3 a0_4 a0_5 a0_6 a0_7) (0 : Int)).bind (fun (b : Bool ⊕ Unit) => (match b with
  | .inl v => some (.inr v)
  | .inr v => some (.inl ())))).bind fun (y12 : Unit ⊕ Bool) => (match y12 with
  | .inl v13 => ((L.run (s15_2 L a0_0 a0_1 a0_2 a0_3 a0_4 a0_5 a0_6 a0_7) (0 : Int)).bind (fun (b : Bool ⊕ Unit) => (match b with
  | .inl v => some (.inr v)
  | .inr v => some (.inl ())))).bind fun (y14 : Unit ⊕ Bool) => (match y14 with
  | .inl v15 => ((L.run (s15_1 L a0_0 a0_1 a0_2 a0_3 a0_4 a0_5 a0_6 a0_7) (0 : Int)).bind (fun (b : Bool ⊕ Unit) => (match b with
  | .inl v => some (.inr v)
  | .inr v => some (.inl ())))).bind fun (y16 : Unit ⊕ Bool) => (match y16 with
  | .inl v17 => ((L.run (s15_0 L a0_0 a0_1 a0_2 a0_3 a0_4 a0_5 a0_6 a0_7) (0 : Int)).bind (fun (b : Bool ⊕ Unit) => (match b with
  | .inl v => some (.inr v)
  | .inr v => some (.inl ())))).bind fun (y18 : Unit ⊕ Bool) => (match y18 with
  | .inl v19 => some true
  | .inr v19 => some v19)
  | .inr v17 => some v17)
  | .inr v15 => some v15)
  | .inr v13 => some v13)))
theorem p15 (L : LP) (a0_0 : Int) (a0_1 : Int) (a0_2 : Int) (a0_3 : Int) (a0_4 : (List (List Int))) (a0_5 : (List (Int × (List (Int × (List (Int × Int))))))) (a0_6 : (List ((List (List (Int × Int))) × (List (List (Int × Int)))))) (a0_7 : (List ((List (Int × Int)) × (List (Int × Int)) × Int × Int))) (r : Bool) (h : s15 L a0_0 a0_1 a0_2 a0_3 a0_4 a0_5 a0_6 a0_7 = some r) : Pure X 15 [.agg [aI a0_0, aI a0_1, aI a0_2, aI a0_3, aS e28 a0_4, aS e72 a0_5, aS e65 a0_6, aS e77 a0_7]] (vB r) := by
 refine Pure_of_W (c := cd Tryd.f15 []) Tryd.func15 (by kernel_rfl) (N := 143) (by kernel_rfl) (Nat.le_of_ble_eq_true (by kernel_rfl)) ?_
 unfold s15 at h
 refine js ?_
 refine jr ?_
 refine jf [bL 27 [aI a0_0, aI a0_1, aI a0_2, aI a0_3, aS e28 a0_4, aS e72 a0_5, aS e65 a0_6, aS e77 a0_7]] [(1, vO 0 0 8 0 0)] 2 [1] ?_
 refine thenQ_n ?_
 refine js ?_
 refine js ?_
 refine jdr 22 mixed ?_
 refine jy 20 [(1, vO 0 0 8 0 0), (8, vI a0_0)] 2 [1, 8] ?_
 obtain ⟨r1, gr1, h⟩ := bind_some h
 refine jL 9 Tryd.call48 (p48 L _ _ gr1) ?_
 refine jy 17 [(1, vO 0 0 8 0 0), (11, vB (!r1))] 2 [1, 11] ?_
 obtain ⟨y2, gy2, h⟩ := bind_some h
 refine WQ_join 13 9 [(1, vO 0 0 8 0 0), (15, vB y2)] ?_ ?_
 · clear gy2
   refine jy 12 [(1, vO 0 0 8 0 0), (16, vB y2)] 1 [1, 16] ?_
   obtain ⟨y3, gy3, h⟩ := bind_some h
   refine WQ_join 8 14 [(1, vO 0 0 8 0 0), (20, vB y3)] ?_ ?_
   · clear gy3
     refine jy 7 [(1, vO 0 0 8 0 0), (21, vB y3)] 1 [1, 21] ?_
     obtain ⟨y4, gy4, h⟩ := bind_some h
     refine WQ_join 0 22 [(1, vO 0 0 8 0 0), (28, vB y4)] ?_ ?_
     · clear gy4
       refine WQ_done ?_
       refine jh [(1, vO 0 0 8 0 0), (29, vB y4)] 1 [1, 29] ?_
       obtain ⟨y5, gy5, h⟩ := bind_some h
       refine jj 27 [(1, vO 0 0 8 0 0), (33, vB y5)] ?_ ?_
       · clear gy5
         refine jh [(1, vO 0 0 8 0 0), (34, vB y5)] 1 [1, 34] ?_
         obtain ⟨y6, gy6, h⟩ := bind_some h
         refine jj 32 [(1, vO 0 0 8 0 0), (38, vB y6)] ?_ ?_
         · clear gy6
           refine jh [(1, vO 0 0 8 0 0), (39, vB y6)] 1 [1, 39] ?_
           obtain ⟨y7, gy7, h⟩ := bind_some h
           refine jj 37 [(1, vO 0 0 8 0 0), (43, vB y7)] ?_ ?_
           · clear gy7
             refine jh [(1, vO 0 0 8 0 0), (44, vB y7)] 1 [1, 44] ?_
             obtain ⟨y8, gy8, h⟩ := bind_some h
             refine jj 42 [(1, vO 0 0 8 0 0), (48, vB y8)] ?_ ?_
             · clear gy8
               refine jg [(1, vO 0 0 8 0 0), (48, vB y8)] 0 [1, 48] ?_
               refine thenQ_n ?_
               refine jc y8 (fun hb => ?_) (fun hb => ?_)
               · have h := cond_t hb h
                 refine js ?_
                 refine jr ?_
                 refine jg [(2, vB false)] 1 [2] ?_
                 refine thenQ_n ?_
                 refine jt ?_
                 refine thenQ_r ?_
                 obtain rfl := si h
                 exact jq [vB false]
               · have h := cond_f hb h
                 refine jk ?_
                 refine thenQ_n ?_
                 refine js ?_
                 refine js ?_
                 refine jr ?_
                 refine jh [(1, vO 0 0 8 0 0), (53, vB (decide ((a0_4.length : Int) > (64 : Int))))] 5 [1, 53] ?_
                 obtain ⟨y9, gy9, h⟩ := bind_some h
                 refine jj 10 [(1, vO 0 0 8 0 0), (58, vB y9)] ?_ ?_
                 · clear gy9
                   refine jh [(1, vO 0 0 8 0 0), (59, vB y9)] 1 [1, 59] ?_
                   obtain ⟨y10, gy10, h⟩ := bind_some h
                   refine jj 16 [(1, vO 0 0 8 0 0), (64, vB y10)] ?_ ?_
                   · clear gy10
                     refine jh [(1, vO 0 0 8 0 0), (65, vB y10)] 1 [1, 65] ?_
                     obtain ⟨y11, gy11, h⟩ := bind_some h
                     refine jj 22 [(1, vO 0 0 8 0 0), (70, vB y11)] ?_ ?_
                     · clear gy11
                       refine jg [(1, vO 0 0 8 0 0), (70, vB y11)] 0 [1, 70] ?_
                       refine thenQ_n ?_
                       refine jc y11 (fun hb => ?_) (fun hb => ?_)
                       · have h := cond_t hb h
                         refine js ?_
                         refine jr ?_
                         refine jg [(2, vB false)] 1 [2] ?_
                         refine thenQ_n ?_
                         refine jt ?_
                         refine thenQ_r ?_
                         obtain rfl := si h
                         exact jq [vB false]
                       · have h := cond_f hb h
                         refine jk ?_
                         refine thenQ_n ?_
                         obtain ⟨y12, gy12, ky12⟩ := bind_some h
                         refine W_cutE (by kernel_rfl) (fun v13 => y12 = .inl v13) (fun v13 => ([bL 27 [aI a0_0, aI a0_1, aI a0_2, aI a0_3, aS e28 a0_4, aS e72 a0_5, aS e65 a0_6, aS e77 a0_7]], [(1, vO 0 0 8 0 0)])) ?_ ?_
                         · intro v13 hv; subst hv; have h := ky12; clear gy12 ky12; dsimp only at h
                           obtain ⟨y14, gy14, ky14⟩ := bind_some h
                           refine W_cutE (by kernel_rfl) (fun v15 => y14 = .inl v15) (fun v15 => ([bL 27 [aI a0_0, aI a0_1, aI a0_2, aI a0_3, aS e28 a0_4, aS e72 a0_5, aS e65 a0_6, aS e77 a0_7]], [(1, vO 0 0 8 0 0)])) ?_ ?_
                           · intro v15 hv; subst hv; have h := ky14; clear gy14 ky14; dsimp only at h
                             obtain ⟨y16, gy16, ky16⟩ := bind_some h
                             refine W_cutE (by kernel_rfl) (fun v17 => y16 = .inl v17) (fun v17 => ([bL 27 [aI a0_0, aI a0_1, aI a0_2, aI a0_3, aS e28 a0_4, aS e72 a0_5, aS e65 a0_6, aS e77 a0_7]], [(1, vO 0 0 8 0 0)])) ?_ ?_
                             · intro v17 hv; subst hv; have h := ky16; clear gy16 ky16; dsimp only at h
                               obtain ⟨y18, gy18, ky18⟩ := bind_some h
                               refine W_cutE (by kernel_rfl) (fun v19 => y18 = .inl v19) (fun v19 => ([bL 27 [aI a0_0, aI a0_1, aI a0_2, aI a0_3, aS e28 a0_4, aS e72 a0_5, aS e65 a0_6, aS e77 a0_7]], [])) ?_ ?_
                               · intro v19 hv; subst hv; have h := ky18; clear gy18 ky18; dsimp only at h
                                 refine js ?_
                                 refine jr ?_
                                 refine jg [(2, vB true)] 1 [2] ?_
                                 refine thenQ_n ?_
                                 refine jt ?_
                                 obtain rfl := si h
                                 exact jq [vB true]
                               · have h := gy18; clear gy18
                                 refine js ?_
                                 refine jr ?_
                                 refine jg [(1, vO 0 0 8 0 0), (6, vI 0)] 1 [1, 6] ?_
                                 refine thenQ_n ?_
                                 refine jb 6 ?_
                                 obtain ⟨b21, gb21, kb21⟩ := bind_some h
                                 refine W_loop_at (S := fun (y20 : Int) => ([bL 27 [aI a0_0, aI a0_1, aI a0_2, aI a0_3, aS e28 a0_4, aS e72 a0_5, aS e65 a0_6, aS e77 a0_7]], [(1, vO 0 0 8 0 0), (6, vI y20)])) (step := _) (x0 := (0 : Int)) (b := b21) (L.ok _ _ _ gb21) (by kernel_rfl) (jE [.keep [1, 6], .take 1]) ?_
                                 clear gb21 h; intro y20 o h; unfold s15_0 at h
                                 refine js ?_
                                 refine js ?_
                                 refine jr ?_
                                 refine jg [(1, vO 0 0 8 0 0), (6, vI y20), (132, vB (decide (y20 < (a0_7.length : Int))))] 5 [1, 6, 132] ?_
                                 refine thenQ_n ?_
                                 refine jc (decide (y20 < (a0_7.length : Int))) (fun hb => ?_) (fun hb => ?_)
                                 · have h := cond_t hb h
                                   refine jk ?_
                                   refine thenQ_n ?_
                                   refine js ?_
                                   refine jb 7 ?_
                                   refine js ?_
                                   refine jdr 6 mixed ?_
                                   obtain ⟨c22, h⟩ := ck_bind h
                                   refine jY 0 [(1, vO 0 0 8 0 0), (6, vI y20), (135, .agg [aI a0_0, aI a0_1, aI a0_2, aI a0_3, aS e28 a0_4, aS e72 a0_5, aS e65 a0_6, aS e77 a0_7]), (140, .agg [aS e61 ((a0_7.getD y20.toNat e77.d).1), aS e61 ((a0_7.getD y20.toNat e77.d).2.1), aY ((a0_7.getD y20.toNat e77.d).2.2.1), aI ((a0_7.getD y20.toNat e77.d).2.2.2)])] ((0 ≤ y20 ∧ y20 < (a0_7.length : Int)) ∧ (True)) 6 [1, 6, 135, 140] ⟨c22, trivial⟩ ?_
                                   refine WQ_done ?_
                                   obtain ⟨r23, gr23, h⟩ := bind_some h
                                   refine jl 141 Tryd.call53 (p53 L _ _ _ _ _ _ _ _ _ _ _ _ _ gr23) ?_
                                   refine jg [(1, vO 0 0 8 0 0), (6, vI y20), (142, vB (!r23))] 1 [1, 6, 142] ?_
                                   refine thenQ_n ?_
                                   refine jc (!r23) (fun hb => ?_) (fun hb => ?_)
                                   · have h := cond_t hb h
                                     refine js ?_
                                     refine jr ?_
                                     refine jg [(2, vB false)] 1 [2] ?_
                                     refine thenQ_n ?_
                                     refine jt ?_
                                     refine blockQ_r ?_
                                     refine thenQ_r ?_
                                     obtain rfl := si h; refine round_r rfl (fun hb => ?_); subst hb; have h := kb21; dsimp only at h
                                     refine blockQ_r ?_
                                     obtain rfl := si h; have h := ky18; dsimp only at h; refine thenQ_r ?_
                                     obtain rfl := si h
                                     exact jq [vB false]
                                   · have h := cond_f hb h
                                     refine jk ?_
                                     refine blockQ_n ?_
                                     refine thenQ_n ?_
                                     refine jr ?_
                                     obtain ⟨c24, h⟩ := ck_bind h
                                     refine jG [(1, vO 0 0 8 0 0), (6, vI (y20 + (1 : Int)))] ((inR .i64 (y20 + (1 : Int))) ∧ (True)) 3 [1, 6] ⟨c24, trivial⟩ ?_
                                     obtain rfl := si h
                                     exact round_n _ rfl (jE [.keep [1, 6], .take 1])
                                 · have h := cond_f hb h
                                   refine je 6 ?_
                                   refine thenQ_e ?_
                                   obtain rfl := si h; refine round_e rfl (fun hb => ?_); subst hb; have h := kb21; dsimp only at h
                                   refine blockQ_hit ?_
                                   obtain rfl := si h
                                   exact thenQ_n ⟨_, rfl, jE [.keep [], .take 1]⟩
                             · have h := gy16; clear gy16
                               refine js ?_
                               refine jr ?_
                               refine jg [(1, vO 0 0 8 0 0), (5, vI 0)] 1 [1, 5] ?_
                               refine thenQ_n ?_
                               refine jb 4 ?_
                               obtain ⟨b26, gb26, kb26⟩ := bind_some h
                               refine W_loop_at (S := fun (y25 : Int) => ([bL 27 [aI a0_0, aI a0_1, aI a0_2, aI a0_3, aS e28 a0_4, aS e72 a0_5, aS e65 a0_6, aS e77 a0_7]], [(1, vO 0 0 8 0 0), (5, vI y25)])) (step := _) (x0 := (0 : Int)) (b := b26) (L.ok _ _ _ gb26) (by kernel_rfl) (jE [.keep [1, 5], .take 1]) ?_
                               clear gb26 h; intro y25 o h; unfold s15_1 at h
                               refine js ?_
                               refine js ?_
                               refine jr ?_
                               refine jg [(1, vO 0 0 8 0 0), (5, vI y25), (117, vB (decide (y25 < (a0_6.length : Int))))] 5 [1, 5, 117] ?_
                               refine thenQ_n ?_
                               refine jc (decide (y25 < (a0_6.length : Int))) (fun hb => ?_) (fun hb => ?_)
                               · have h := cond_t hb h
                                 refine jk ?_
                                 refine thenQ_n ?_
                                 refine js ?_
                                 refine jb 5 ?_
                                 refine js ?_
                                 refine jdr 6 mixed ?_
                                 obtain ⟨c27, h⟩ := ck_bind h
                                 refine jY 0 [(1, vO 0 0 8 0 0), (5, vI y25), (120, .agg [aI a0_0, aI a0_1, aI a0_2, aI a0_3, aS e28 a0_4, aS e72 a0_5, aS e65 a0_6, aS e77 a0_7]), (125, .agg [aS e62 ((a0_6.getD y25.toNat e65.d).1), aS e62 ((a0_6.getD y25.toNat e65.d).2)])] ((0 ≤ y25 ∧ y25 < (a0_6.length : Int)) ∧ (True)) 6 [1, 5, 120, 125] ⟨c27, trivial⟩ ?_
                                 refine WQ_done ?_
                                 obtain ⟨r28, gr28, h⟩ := bind_some h
                                 refine jl 126 Tryd.call52 (p52 L _ _ _ _ _ _ _ _ _ _ _ gr28) ?_
                                 refine jg [(1, vO 0 0 8 0 0), (5, vI y25), (127, vB (!r28))] 1 [1, 5, 127] ?_
                                 refine thenQ_n ?_
                                 refine jc (!r28) (fun hb => ?_) (fun hb => ?_)
                                 · have h := cond_t hb h
                                   refine js ?_
                                   refine jr ?_
                                   refine jg [(2, vB false)] 1 [2] ?_
                                   refine thenQ_n ?_
                                   refine jt ?_
                                   refine blockQ_r ?_
                                   refine thenQ_r ?_
                                   obtain rfl := si h; refine round_r rfl (fun hb => ?_); subst hb; have h := kb26; dsimp only at h
                                   refine blockQ_r ?_
                                   obtain rfl := si h; have h := ky16; dsimp only at h; refine thenQ_r ?_
                                   obtain rfl := si h
                                   exact jq [vB false]
                                 · have h := cond_f hb h
                                   refine jk ?_
                                   refine blockQ_n ?_
                                   refine thenQ_n ?_
                                   refine jr ?_
                                   obtain ⟨c29, h⟩ := ck_bind h
                                   refine jG [(1, vO 0 0 8 0 0), (5, vI (y25 + (1 : Int)))] ((inR .i64 (y25 + (1 : Int))) ∧ (True)) 3 [1, 5] ⟨c29, trivial⟩ ?_
                                   obtain rfl := si h
                                   exact round_n _ rfl (jE [.keep [1, 5], .take 1])
                               · have h := cond_f hb h
                                 refine je 4 ?_
                                 refine thenQ_e ?_
                                 obtain rfl := si h; refine round_e rfl (fun hb => ?_); subst hb; have h := kb26; dsimp only at h
                                 refine blockQ_hit ?_
                                 obtain rfl := si h
                                 exact thenQ_n ⟨_, rfl, jE [.keep [1], .take 1]⟩
                           · have h := gy14; clear gy14
                             refine js ?_
                             refine jr ?_
                             refine jg [(1, vO 0 0 8 0 0), (4, vI 0)] 1 [1, 4] ?_
                             refine thenQ_n ?_
                             refine jb 2 ?_
                             obtain ⟨b31, gb31, kb31⟩ := bind_some h
                             refine W_loop_at (S := fun (y30 : Int) => ([bL 27 [aI a0_0, aI a0_1, aI a0_2, aI a0_3, aS e28 a0_4, aS e72 a0_5, aS e65 a0_6, aS e77 a0_7]], [(1, vO 0 0 8 0 0), (4, vI y30)])) (step := _) (x0 := (0 : Int)) (b := b31) (L.ok _ _ _ gb31) (by kernel_rfl) (jE [.keep [1, 4], .take 1]) ?_
                             clear gb31 h; intro y30 o h; unfold s15_2 at h
                             refine js ?_
                             refine js ?_
                             refine jr ?_
                             refine jg [(1, vO 0 0 8 0 0), (4, vI y30), (102, vB (decide (y30 < (a0_5.length : Int))))] 5 [1, 4, 102] ?_
                             refine thenQ_n ?_
                             refine jc (decide (y30 < (a0_5.length : Int))) (fun hb => ?_) (fun hb => ?_)
                             · have h := cond_t hb h
                               refine jk ?_
                               refine thenQ_n ?_
                               refine js ?_
                               refine jb 3 ?_
                               refine js ?_
                               refine jdr 6 mixed ?_
                               obtain ⟨c32, h⟩ := ck_bind h
                               refine jY 0 [(1, vO 0 0 8 0 0), (4, vI y30), (105, .agg [aI a0_0, aI a0_1, aI a0_2, aI a0_3, aS e28 a0_4, aS e72 a0_5, aS e65 a0_6, aS e77 a0_7]), (110, .agg [aY ((a0_5.getD y30.toNat e72.d).1), aS e74 ((a0_5.getD y30.toNat e72.d).2)])] ((0 ≤ y30 ∧ y30 < (a0_5.length : Int)) ∧ (True)) 6 [1, 4, 105, 110] ⟨c32, trivial⟩ ?_
                               refine WQ_done ?_
                               obtain ⟨r33, gr33, h⟩ := bind_some h
                               refine jl 111 Tryd.call51 (p51 L _ _ _ _ _ _ _ _ _ _ _ gr33) ?_
                               refine jg [(1, vO 0 0 8 0 0), (4, vI y30), (112, vB (!r33))] 1 [1, 4, 112] ?_
                               refine thenQ_n ?_
                               refine jc (!r33) (fun hb => ?_) (fun hb => ?_)
                               · have h := cond_t hb h
                                 refine js ?_
                                 refine jr ?_
                                 refine jg [(2, vB false)] 1 [2] ?_
                                 refine thenQ_n ?_
                                 refine jt ?_
                                 refine blockQ_r ?_
                                 refine thenQ_r ?_
                                 obtain rfl := si h; refine round_r rfl (fun hb => ?_); subst hb; have h := kb31; dsimp only at h
                                 refine blockQ_r ?_
                                 obtain rfl := si h; have h := ky14; dsimp only at h; refine thenQ_r ?_
                                 obtain rfl := si h
                                 exact jq [vB false]
                               · have h := cond_f hb h
                                 refine jk ?_
                                 refine blockQ_n ?_
                                 refine thenQ_n ?_
                                 refine jr ?_
                                 obtain ⟨c34, h⟩ := ck_bind h
                                 refine jG [(1, vO 0 0 8 0 0), (4, vI (y30 + (1 : Int)))] ((inR .i64 (y30 + (1 : Int))) ∧ (True)) 3 [1, 4] ⟨c34, trivial⟩ ?_
                                 obtain rfl := si h
                                 exact round_n _ rfl (jE [.keep [1, 4], .take 1])
                             · have h := cond_f hb h
                               refine je 2 ?_
                               refine thenQ_e ?_
                               obtain rfl := si h; refine round_e rfl (fun hb => ?_); subst hb; have h := kb31; dsimp only at h
                               refine blockQ_hit ?_
                               obtain rfl := si h
                               exact thenQ_n ⟨_, rfl, jE [.keep [1], .take 1]⟩
                         · have h := gy12; clear gy12
                           refine js ?_
                           refine jr ?_
                           refine jg [(1, vO 0 0 8 0 0), (3, vI 0)] 1 [1, 3] ?_
                           refine thenQ_n ?_
                           refine jb 0 ?_
                           obtain ⟨b36, gb36, kb36⟩ := bind_some h
                           refine W_loop_at (S := fun (y35 : Int) => ([bL 27 [aI a0_0, aI a0_1, aI a0_2, aI a0_3, aS e28 a0_4, aS e72 a0_5, aS e65 a0_6, aS e77 a0_7]], [(1, vO 0 0 8 0 0), (3, vI y35)])) (step := _) (x0 := (0 : Int)) (b := b36) (L.ok _ _ _ gb36) (by kernel_rfl) (jE [.keep [1, 3], .take 1]) ?_
                           clear gb36 h; intro y35 o h; unfold s15_3 at h
                           refine js ?_
                           refine js ?_
                           refine jr ?_
                           refine jg [(1, vO 0 0 8 0 0), (3, vI y35), (75, vB (decide (y35 < (a0_4.length : Int))))] 5 [1, 3, 75] ?_
                           refine thenQ_n ?_
                           refine jc (decide (y35 < (a0_4.length : Int))) (fun hb => ?_) (fun hb => ?_)
                           · have h := cond_t hb h
                             refine jk ?_
                             refine thenQ_n ?_
                             refine js ?_
                             refine jb 1 ?_
                             refine js ?_
                             refine jdr 20 mixed ?_
                             obtain ⟨c37, h⟩ := ck_bind h
                             refine jY 13 [(1, vO 0 0 8 0 0), (3, vI y35), (83, vI ((a0_4.getD y35.toNat e28.d).length : Int)), (84, .agg [aI a0_0, aI a0_1, aI a0_2, aI a0_3, aS e28 a0_4, aS e72 a0_5, aS e65 a0_6, aS e77 a0_7])] ((0 ≤ y35 ∧ y35 < (a0_4.length : Int)) ∧ (True)) 7 [1, 3, 83, 84] ⟨c37, trivial⟩ ?_
                             obtain ⟨r38, gr38, h⟩ := bind_some h
                             refine jL 85 Tryd.call28 (p28 L _ _ _ _ _ _ _ _ _ gr38) ?_
                             refine jy 10 [(1, vO 0 0 8 0 0), (3, vI y35), (87, vB (!(decide (((a0_4.getD y35.toNat e28.d).length : Int) = r38))))] 2 [1, 3, 87] ?_
                             obtain ⟨y39, gy39, h⟩ := bind_some h
                             refine WQ_join 0 20 [(1, vO 0 0 8 0 0), (3, vI y35), (97, vB y39)] ?_ ?_
                             · clear gy39
                               refine WQ_done ?_
                               refine jg [(1, vO 0 0 8 0 0), (3, vI y35), (97, vB y39)] 0 [1, 3, 97] ?_
                               refine thenQ_n ?_
                               refine jc y39 (fun hb => ?_) (fun hb => ?_)
                               · have h := cond_t hb h
                                 refine js ?_
                                 refine jr ?_
                                 refine jg [(2, vB false)] 1 [2] ?_
                                 refine thenQ_n ?_
                                 refine jt ?_
                                 refine blockQ_r ?_
                                 refine thenQ_r ?_
                                 obtain rfl := si h; refine round_r rfl (fun hb => ?_); subst hb; have h := kb36; dsimp only at h
                                 refine blockQ_r ?_
                                 obtain rfl := si h; have h := ky12; dsimp only at h; refine thenQ_r ?_
                                 obtain rfl := si h
                                 exact jq [vB false]
                               · have h := cond_f hb h
                                 refine jk ?_
                                 refine blockQ_n ?_
                                 refine thenQ_n ?_
                                 refine jr ?_
                                 obtain ⟨c40, h⟩ := ck_bind h
                                 refine jG [(1, vO 0 0 8 0 0), (3, vI (y35 + (1 : Int)))] ((inR .i64 (y35 + (1 : Int))) ∧ (True)) 3 [1, 3] ⟨c40, trivial⟩ ?_
                                 obtain rfl := si h
                                 exact round_n _ rfl (jE [.keep [1, 3], .take 1])
                             · intro J
                               clear h
                               rcases Bool.eq_false_or_eq_true (!(decide (((a0_4.getD y35.toNat e28.d).length : Int) = r38))) with hb | hb
                               · have h := cond_t hb gy39; clear gy39
                                 refine jD 87 hb ?_
                                 obtain rfl := si h
                                 refine jy 0 [(1, vO 0 0 8 0 0), (3, vI y35), (97, vB true)] 10 [1, 3, 97] J
                               · have h := cond_f hb gy39; clear gy39
                                 refine jD 87 hb ?_
                                 obtain ⟨c41, h⟩ := ck_bind h
                                 refine jY 3 [(1, vO 0 0 8 0 0), (3, vI y35), (87, vB false), (88, vO 0 0 8 0 0), (89, vI a0_0), (90, vO 0 0 8 0 4), (91, vS e28 a0_4), (92, vI y35), (93, .cell (.c (ptC e28 a0_4 y35 0))), (94, vS e44 (a0_4.getD y35.toNat e28.d))] ((0 ≤ y35 ∧ y35 < (a0_4.length : Int)) ∧ (True)) 7 [1, 3, 87, 88, 89, 90, 91, 92, 93, 94] ⟨c41, trivial⟩ ?_
                                 obtain ⟨r42, gr42, h⟩ := bind_some h
                                 refine jL 95 Tryd.call50 (p50 L _ _ _ gr42) ?_
                                 refine jy 1 [(1, vO 0 0 8 0 0), (3, vI y35), (87, vB false), (88, vO 0 0 8 0 0), (89, vI a0_0), (90, vO 0 0 8 0 4), (91, vS e28 a0_4), (92, vI y35), (93, .cell (.c (ptC e28 a0_4 y35 0))), (94, vS e44 (a0_4.getD y35.toNat e28.d)), (95, vB r42), (96, vB (!r42))] 1 [1, 3, 87, 88, 89, 90, 91, 92, 93, 94, 95, 96] ?_
                                 obtain rfl := si h
                                 refine jy 0 [(1, vO 0 0 8 0 0), (3, vI y35), (97, vB (!r42))] 1 [1, 3, 97] J
                           · have h := cond_f hb h
                             refine je 0 ?_
                             refine thenQ_e ?_
                             obtain rfl := si h; refine round_e rfl (fun hb => ?_); subst hb; have h := kb36; dsimp only at h
                             refine blockQ_hit ?_
                             obtain rfl := si h
                             exact thenQ_n ⟨_, rfl, jE [.keep [1], .take 1]⟩
                     · intro J
                       clear h
                       rcases Bool.eq_false_or_eq_true y10 with hb | hb
                       · have h := cond_t hb gy11; clear gy11
                         refine jd 65 hb ?_
                         obtain rfl := si h
                         refine jh [(1, vO 0 0 8 0 0), (70, vB true)] 5 [1, 70] J
                       · have h := cond_f hb gy11; clear gy11
                         refine jd 65 hb ?_
                         refine jh [(1, vO 0 0 8 0 0), (65, vB false), (69, vB (decide ((a0_7.length : Int) > (8 : Int))))] 4 [1, 65, 69] ?_
                         obtain rfl := si h
                         refine jh [(1, vO 0 0 8 0 0), (70, vB (decide ((a0_7.length : Int) > (8 : Int))))] 1 [1, 70] J
                   · intro J
                     clear h
                     rcases Bool.eq_false_or_eq_true y9 with hb | hb
                     · have h := cond_t hb gy10; clear gy10
                       refine jd 59 hb ?_
                       obtain rfl := si h
                       refine jh [(1, vO 0 0 8 0 0), (64, vB true)] 5 [1, 64] J
                     · have h := cond_f hb gy10; clear gy10
                       refine jd 59 hb ?_
                       refine jh [(1, vO 0 0 8 0 0), (59, vB false), (63, vB (decide ((a0_6.length : Int) > (4 : Int))))] 4 [1, 59, 63] ?_
                       obtain rfl := si h
                       refine jh [(1, vO 0 0 8 0 0), (64, vB (decide ((a0_6.length : Int) > (4 : Int))))] 1 [1, 64] J
                 · intro J
                   clear h
                   rcases Bool.eq_false_or_eq_true (decide ((a0_4.length : Int) > (64 : Int))) with hb | hb
                   · have h := cond_t hb gy9; clear gy9
                     refine jd 53 hb ?_
                     obtain rfl := si h
                     refine jh [(1, vO 0 0 8 0 0), (58, vB true)] 5 [1, 58] J
                   · have h := cond_f hb gy9; clear gy9
                     refine jd 53 hb ?_
                     refine jh [(1, vO 0 0 8 0 0), (53, vB false), (57, vB (decide ((a0_5.length : Int) > (64 : Int))))] 4 [1, 53, 57] ?_
                     obtain rfl := si h
                     refine jh [(1, vO 0 0 8 0 0), (58, vB (decide ((a0_5.length : Int) > (64 : Int))))] 1 [1, 58] J
             · intro J
               clear h
               rcases Bool.eq_false_or_eq_true y7 with hb | hb
               · have h := cond_t hb gy8; clear gy8
                 refine jd 44 hb ?_
                 obtain rfl := si h
                 refine jh [(1, vO 0 0 8 0 0), (48, vB true)] 4 [1, 48] J
               · have h := cond_f hb gy8; clear gy8
                 refine jd 44 hb ?_
                 refine jh [(1, vO 0 0 8 0 0), (44, vB false), (47, vB (decide (a0_3 > (16 : Int))))] 3 [1, 44, 47] ?_
                 obtain rfl := si h
                 refine jh [(1, vO 0 0 8 0 0), (48, vB (decide (a0_3 > (16 : Int))))] 1 [1, 48] J
           · intro J
             clear h
             rcases Bool.eq_false_or_eq_true y6 with hb | hb
             · have h := cond_t hb gy7; clear gy7
               refine jd 39 hb ?_
               obtain rfl := si h
               refine jh [(1, vO 0 0 8 0 0), (43, vB true)] 4 [1, 43] J
             · have h := cond_f hb gy7; clear gy7
               refine jd 39 hb ?_
               refine jh [(1, vO 0 0 8 0 0), (39, vB false), (42, vB (decide (a0_3 < (0 : Int))))] 3 [1, 39, 42] ?_
               obtain rfl := si h
               refine jh [(1, vO 0 0 8 0 0), (43, vB (decide (a0_3 < (0 : Int))))] 1 [1, 43] J
         · intro J
           clear h
           rcases Bool.eq_false_or_eq_true y5 with hb | hb
           · have h := cond_t hb gy6; clear gy6
             refine jd 34 hb ?_
             obtain rfl := si h
             refine jh [(1, vO 0 0 8 0 0), (38, vB true)] 4 [1, 38] J
           · have h := cond_f hb gy6; clear gy6
             refine jd 34 hb ?_
             refine jh [(1, vO 0 0 8 0 0), (34, vB false), (37, vB (decide (a0_2 > (64 : Int))))] 3 [1, 34, 37] ?_
             obtain rfl := si h
             refine jh [(1, vO 0 0 8 0 0), (38, vB (decide (a0_2 > (64 : Int))))] 1 [1, 38] J
       · intro J
         clear h
         rcases Bool.eq_false_or_eq_true y4 with hb | hb
         · have h := cond_t hb gy5; clear gy5
           refine jd 29 hb ?_
           obtain rfl := si h
           refine jh [(1, vO 0 0 8 0 0), (33, vB true)] 4 [1, 33] J
         · have h := cond_f hb gy5; clear gy5
           refine jd 29 hb ?_
           refine jh [(1, vO 0 0 8 0 0), (29, vB false), (32, vB (decide (a0_2 < (1 : Int))))] 3 [1, 29, 32] ?_
           obtain rfl := si h
           refine jh [(1, vO 0 0 8 0 0), (33, vB (decide (a0_2 < (1 : Int))))] 1 [1, 33] J
     · intro J
       clear h
       rcases Bool.eq_false_or_eq_true y3 with hb | hb
       · have h := cond_t hb gy4; clear gy4
         refine jD 21 hb ?_
         obtain rfl := si h
         refine jy 0 [(1, vO 0 0 8 0 0), (28, vB true)] 7 [1, 28] J
       · have h := cond_f hb gy4; clear gy4
         refine jD 21 hb ?_
         refine jy 3 [(1, vO 0 0 8 0 0), (21, vB false), (23, vI a0_1), (25, vI a0_0)] 4 [1, 21, 23, 25] ?_
         obtain ⟨r43, gr43, h⟩ := bind_some h
         refine jL 26 Tryd.call49 (p49 L _ _ gr43) ?_
         refine jy 1 [(1, vO 0 0 8 0 0), (21, vB false), (27, vB (decide (a0_1 > r43)))] 1 [1, 21, 27] ?_
         obtain rfl := si h
         refine jy 0 [(1, vO 0 0 8 0 0), (28, vB (decide (a0_1 > r43)))] 1 [1, 28] J
   · intro J
     clear h
     rcases Bool.eq_false_or_eq_true y2 with hb | hb
     · have h := cond_t hb gy3; clear gy3
       refine jD 16 hb ?_
       obtain rfl := si h
       refine jy 8 [(1, vO 0 0 8 0 0), (20, vB true)] 4 [1, 20] J
     · have h := cond_f hb gy3; clear gy3
       refine jD 16 hb ?_
       refine jy 9 [(1, vO 0 0 8 0 0), (16, vB false), (19, vB (decide (a0_1 > (13 : Int))))] 3 [1, 16, 19] ?_
       obtain rfl := si h
       refine jy 8 [(1, vO 0 0 8 0 0), (20, vB (decide (a0_1 > (13 : Int))))] 1 [1, 20] J
 · intro J
   clear h
   rcases Bool.eq_false_or_eq_true (!r1) with hb | hb
   · have h := cond_t hb gy2; clear gy2
     refine jD 11 hb ?_
     obtain rfl := si h
     refine jy 13 [(1, vO 0 0 8 0 0), (15, vB true)] 4 [1, 15] J
   · have h := cond_f hb gy2; clear gy2
     refine jD 11 hb ?_
     refine jy 14 [(1, vO 0 0 8 0 0), (11, vB false), (14, vB (decide (a0_1 < (1 : Int))))] 3 [1, 11, 14] ?_
     obtain rfl := si h
     refine jy 13 [(1, vO 0 0 8 0 0), (15, vB (decide (a0_1 < (1 : Int))))] 1 [1, 15] J

/- system.Words$1 -/
def s54_0 (L : LP) (a0 : (List Int)) (y1 : (Int × (List Int))) : Option ((Int × (List Int)) ⊕ (List Int)) :=
  (bif (decide (y1.1 < (a0.length : Int))) then
  (ck (0 ≤ y1.1 ∧ y1.1 < (a0.length : Int))).bind fun _ =>
  (ck (inR .u64 (a0.getD y1.1.toNat e3.d))).bind fun _ =>
  (ck ((y1.2.length + [(a0.getD y1.1.toNat e3.d)].length) * 8 ≤ 140737488355328 ∧ y1.2.length + [(a0.getD y1.1.toNat e3.d)].length ≤ 140737488355328)).bind fun _ =>
  (ck (inR .i64 (y1.1 + (1 : Int)))).bind fun _ =>
  some (.inl ((y1.1 + (1 : Int)), (y1.2 ++ [(a0.getD y1.1.toNat e3.d)])))
  else some (.inr y1.2))
def s54 (L : LP) (a0 : (List Int)) (z1 : (List Int)) : Option (List Int) :=
  (L.run (s54_0 L a0) ((0 : Int), z1)).bind (fun (v : (List Int)) => some v)
theorem w54 (L : LP) (a0 : (List Int)) (z1 : (List Int)) (r : (List Int)) (h : s54 L a0 z1 = some r) : Work X 54 [vS e3 a0, vO 0 1000 1 0 0] [some (.lit 1000 28 [.sl 1 1000 z1.length]), some (rwB e44 1000 44 z1)] [some (.lit 1000 28 [.sl 1 0 r.length]), some (rwB e44 0 44 r)] (tupV []) := by
 refine Work_of_W (c := cd Tryd.f54 []) Tryd.func54 (by kernel_rfl) (N := 17) (by kernel_rfl) (Nat.le_of_ble_eq_true (by kernel_rfl)) ?_
 unfold s54 at h
 refine js ?_
 refine jr ?_
 refine jg [(1, vO 0 1000 1 0 0), (5, vS e3 a0), (6, vI (a0.length : Int)), (7, vI 0)] 3 [1, 5, 6, 7] ?_
 refine thenQ_n ?_
 refine jb 0 ?_
 obtain ⟨b2, gb2, kb2⟩ := bind_some h
 refine W_loop_at (S := fun (y1 : (Int × (List Int))) => ([some (.lit 1000 28 [.sl 1 0 y1.2.length]), some (rwB e44 0 44 y1.2)], [(1, vO 0 1000 1 0 0), (5, vS e3 a0), (6, vI (a0.length : Int)), (7, vI y1.1)])) (step := _) (x0 := ((0 : Int), z1)) (b := b2) (L.ok _ _ _ gb2) (by kernel_rfl) (jE [.keep [1, 5, 6, 7], .take 2, .ver0 1]) ?_
 clear gb2 h; intro y1 o h; unfold s54_0 at h
 refine js ?_
 refine jr ?_
 refine jg [(1, vO 0 1000 1 0 0), (5, vS e3 a0), (6, vI (a0.length : Int)), (7, vI y1.1), (8, vB (decide (y1.1 < (a0.length : Int))))] 1 [1, 5, 6, 7, 8] ?_
 refine thenQ_n ?_
 refine js ?_
 refine jc (decide (y1.1 < (a0.length : Int))) (fun hb => ?_) (fun hb => ?_)
 · have h := cond_t hb h
   refine jk ?_
   refine thenQ_n ?_
   refine js ?_
   refine jb 1 ?_
   refine js ?_
   refine jr ?_
   obtain ⟨c3, h⟩ := ck_bind h
   refine jG [(1, vO 0 1000 1 0 0), (4, vI (a0.getD y1.1.toNat e3.d)), (5, vS e3 a0), (6, vI (a0.length : Int)), (7, vI y1.1)] ((0 ≤ y1.1 ∧ y1.1 < (a0.length : Int)) ∧ (True)) 3 [1, 4, 5, 6, 7] ⟨c3, trivial⟩ ?_
   refine thenQ_n ?_
   refine jr ?_
   obtain ⟨c4, h⟩ := ck_bind h
   refine jH [(1, vO 0 1000 1 0 0), (5, vS e3 a0), (6, vI (a0.length : Int)), (7, vI y1.1), (11, vW 1 0 y1.2.length), (13, vU (a0.getD y1.1.toNat e3.d))] ((inR .u64 (a0.getD y1.1.toNat e3.d)) ∧ (True)) 3 [1, 5, 6, 7, 11, 13] ⟨c4, trivial⟩ ?_
   refine WO_q1 (r := .cell (.c (rawC 1 1 [.int .u64 (a0.getD y1.1.toNat e3.d)]))) (r' := vS e44 [(a0.getD y1.1.toNat e3.d)]) (d := some 14) (φ := True) (raw_weak e44 (xs := [(a0.getD y1.1.toNat e3.d)]) rfl rfl (by kernel_rfl) (by kernel_rfl)) (by kernel_rfl) trivial ?_
   obtain ⟨c5, h⟩ := ck_bind h
   refine WO_app e44 y1.2 [(a0.getD y1.1.toNat e3.d)] (b := 1) (ver := 0) (e := 44) (d := 15) (row2 := fun i j => (e44.row ([(a0.getD y1.1.toNat e3.d)].getD i e44.d)).getD j .jk) (Φ := (0 = 0 ∧ (y1.2.length + [(a0.getD y1.1.toNat e3.d)].length) * 8 ≤ 140737488355328 ∧ y1.2.length + [(a0.getD y1.1.toNat e3.d)].length ≤ 140737488355328) ∧ True) (σ' := [some (.lit 1000 28 [.sl 1 0 y1.2.length]), some (rwB e44 1 44 (y1.2 ++ [(a0.getD y1.1.toNat e3.d)]))]) (T' := [(15, vW 1 1 ((y1.2 ++ [(a0.getD y1.1.toNat e3.d)]).length)), (14, vS e44 [(a0.getD y1.1.toNat e3.d)]), (1, vO 0 1000 1 0 0), (5, vS e3 a0), (6, vI (a0.length : Int)), (7, vI y1.1), (11, vW 1 0 y1.2.length), (13, vU (a0.getD y1.1.toNat e3.d))]) (by kernel_rfl) ⟨⟨rfl, c5⟩, trivial⟩ (Nat.le_of_ble_eq_true (by kernel_rfl)) (fun _ _ _ _ => rfl) (by kernel_rfl) (by kernel_rfl) ?_
   refine jf [some (.lit 1000 28 [.sl 1 1 ((y1.2 ++ [(a0.getD y1.1.toNat e3.d)]).length)]), some (rwB e44 1 44 (y1.2 ++ [(a0.getD y1.1.toNat e3.d)]))] [(1, vO 0 1000 1 0 0), (5, vS e3 a0), (6, vI (a0.length : Int)), (7, vI y1.1)] 1 [1, 5, 6, 7] ?_
   refine blockQ_n ?_
   refine thenQ_n ?_
   refine jr ?_
   obtain ⟨c6, h⟩ := ck_bind h
   refine jG [(1, vO 0 1000 1 0 0), (5, vS e3 a0), (6, vI (a0.length : Int)), (7, vI (y1.1 + (1 : Int)))] ((inR .i64 (y1.1 + (1 : Int))) ∧ (True)) 2 [1, 5, 6, 7] ⟨c6, trivial⟩ ?_
   obtain rfl := si h
   exact round_n _ rfl (jE [.keep [1, 5, 6, 7], .take 2, .ver0 1])
 · have h := cond_f hb h
   refine je 0 ?_
   refine thenQ_e ?_
   obtain rfl := si h; refine round_e rfl (fun hb => ?_); subst hb; have h := kb2
   refine blockQ_hit ?_
   obtain rfl := si h
   exact qwork_n [] [] ([]) (jE [.keep [], .take 2, .ver0 1]) (by kernel_rfl) (by kernel_rfl)

/- system.Words$2 -/
def s55_0 (L : LP) (a0 : (List (Int × Int))) (y1 : (Int × (List Int))) : Option ((Int × (List Int)) ⊕ (List Int)) :=
  (bif (decide (y1.1 < (a0.length : Int))) then
  (ck (0 ≤ y1.1 ∧ y1.1 < (a0.length : Int))).bind fun _ =>
  (ck (inR .i64 ((a0.getD y1.1.toNat e61.d).1))).bind fun _ =>
  (s54 L [(a0.getD y1.1.toNat e61.d).1, (a0.getD y1.1.toNat e61.d).2] y1.2).bind fun r5 =>
  (ck (inR .i64 (y1.1 + (1 : Int)))).bind fun _ =>
  some (.inl ((y1.1 + (1 : Int)), r5))
  else some (.inr y1.2))
def s55 (L : LP) (a0 : (List (Int × Int))) (z2 : (List Int)) : Option (List Int) :=
  (L.run (s55_0 L a0) ((0 : Int), z2)).bind (fun (v : (List Int)) => some v)
theorem w55 (L : LP) (a0 : (List (Int × Int))) (z2 : (List Int)) (r : (List Int)) (h : s55 L a0 z2 = some r) : Work X 55 [vS e61 a0, vO 0 1000 1 0 0] [some (.lit 1000 95 [.clos 54 1 (fun i => ([.op 1 1000 1 0 0] : List A).getD i (.c .jk))]), some (.lit 1000 28 [.sl 2 1000 z2.length]), some (rwB e44 1000 44 z2)] [some (.lit 1000 95 [.clos 54 1 (fun i => ([.op 1 1000 1 0 0] : List A).getD i (.c .jk))]), some (.lit 1000 28 [.sl 2 0 r.length]), some (rwB e44 0 44 r)] (tupV []) := by
 refine Work_of_W (c := cd Tryd.f55 []) Tryd.func55 (by kernel_rfl) (N := 20) (by kernel_rfl) (Nat.le_of_ble_eq_true (by kernel_rfl)) ?_
 unfold s55 at h
 refine js ?_
 refine jr ?_
 refine jg [(1, vO 0 1000 1 0 0), (5, vS e61 a0), (6, vI (a0.length : Int)), (7, vI 0)] 3 [1, 5, 6, 7] ?_
 refine thenQ_n ?_
 refine jb 0 ?_
 obtain ⟨b2, gb2, kb2⟩ := bind_some h
 refine W_loop_at (S := fun (y1 : (Int × (List Int))) => ([some (.lit 1000 95 [.clos 54 1 (fun i => ([.op 1 1000 1 0 0] : List A).getD i (.c .jk))]), some (.lit 1000 28 [.sl 2 0 y1.2.length]), some (rwB e44 0 44 y1.2)], [(1, vO 0 1000 1 0 0), (5, vS e61 a0), (6, vI (a0.length : Int)), (7, vI y1.1)])) (step := _) (x0 := ((0 : Int), z2)) (b := b2) (L.ok _ _ _ gb2) (by kernel_rfl) (jE [.keep [1, 5, 6, 7], .take 3, .ver0 2]) ?_
 clear gb2 h; intro y1 o h; unfold s55_0 at h
 refine js ?_
 refine jr ?_
 refine jg [(1, vO 0 1000 1 0 0), (5, vS e61 a0), (6, vI (a0.length : Int)), (7, vI y1.1), (8, vB (decide (y1.1 < (a0.length : Int))))] 1 [1, 5, 6, 7, 8] ?_
 refine thenQ_n ?_
 refine js ?_
 refine jc (decide (y1.1 < (a0.length : Int))) (fun hb => ?_) (fun hb => ?_)
 · have h := cond_t hb h
   refine jk ?_
   refine thenQ_n ?_
   refine js ?_
   refine jb 1 ?_
   refine js ?_
   refine jr ?_
   obtain ⟨c3, h⟩ := ck_bind h
   refine jF [some (.lit 1000 95 [.clos 54 1 (fun i => ([.op 1 1000 1 0 0] : List A).getD i (.c .jk))]), some (.lit 1000 28 [.sl 2 0 y1.2.length]), some (rwB e44 0 44 y1.2), bL 61 [aY ((a0.getD y1.1.toNat e61.d).1), aI ((a0.getD y1.1.toNat e61.d).2)]] [(1, vO 0 1000 1 0 0), (4, vO 3 0 2 0 0), (5, vS e61 a0), (6, vI (a0.length : Int)), (7, vI y1.1)] ((0 ≤ y1.1 ∧ y1.1 < (a0.length : Int)) ∧ (True)) 4 [1, 4, 5, 6, 7] ⟨c3, trivial⟩ ?_
   refine thenQ_n ?_
   refine jr ?_
   obtain ⟨c4, h⟩ := ck_bind h
   refine jH [(1, vO 0 1000 1 0 0), (5, vS e61 a0), (6, vI (a0.length : Int)), (7, vI y1.1), (11, .cell (.clos 54 1 (fun i => ([.op 1 1000 1 0 0] : List A).getD i (.c .jk)))), (14, vI ((a0.getD y1.1.toNat e61.d).1)), (16, vI ((a0.getD y1.1.toNat e61.d).2))] ((inR .i64 ((a0.getD y1.1.toNat e61.d).1)) ∧ (True)) 6 [1, 5, 6, 7, 11, 14, 16] ⟨c4, trivial⟩ ?_
   refine WO_q1 (r := .cell (.c (rawC 2 1 [.int .i64 ((a0.getD y1.1.toNat e61.d).1), .int .i64 ((a0.getD y1.1.toNat e61.d).2)]))) (r' := vS e3 [(a0.getD y1.1.toNat e61.d).1, (a0.getD y1.1.toNat e61.d).2]) (d := some 17) (φ := True) (raw_weak e3 (xs := [(a0.getD y1.1.toNat e61.d).1, (a0.getD y1.1.toNat e61.d).2]) rfl rfl (by kernel_rfl) (by kernel_rfl)) (by kernel_rfl) trivial ?_
   obtain ⟨r5, gr5, h⟩ := bind_some h
   refine WO_work [1, 2] [1000, 0] [1000, 1] [1000, 0] [17, 1, 5, 6, 7, 11, 14, 16] (f := 54) (args := [vS e3 [(a0.getD y1.1.toNat e61.d).1, (a0.getD y1.1.toNat e61.d).2], vO 0 1000 1 0 0]) (all := [vS e3 [(a0.getD y1.1.toNat e61.d).1, (a0.getD y1.1.toNat e61.d).2], vO 1 1000 1 0 0]) (d := some 18) (r := tupV []) (σin := [some (.lit 1000 28 [.sl 1 1000 y1.2.length]), some (rwB e44 1000 44 y1.2)]) (σo := [some (.lit 1000 28 [.sl 1 0 r5.length]), some (rwB e44 0 44 r5)]) (n := 2) (T1 := [(17, vS e3 [(a0.getD y1.1.toNat e61.d).1, (a0.getD y1.1.toNat e61.d).2]), (1, vO 0 1000 1 0 0), (5, vS e61 a0), (6, vI (a0.length : Int)), (7, vI y1.1), (11, .cell (.clos 54 1 (fun i => ([.op 1 1000 1 0 0] : List A).getD i (.c .jk)))), (14, vI ((a0.getD y1.1.toNat e61.d).1)), (16, vI ((a0.getD y1.1.toNat e61.d).2))]) (σ' := [some (.lit 1000 95 [.clos 54 1 (fun i => ([.op 1 1000 1 0 0] : List A).getD i (.c .jk))]), some (.lit 1000 28 [.sl 2 1 r5.length]), some (rwB e44 1 44 r5), bL 61 [aY ((a0.getD y1.1.toNat e61.d).1), aI ((a0.getD y1.1.toNat e61.d).2)]]) (T' := [(18, tupV []), (17, vS e3 [(a0.getD y1.1.toNat e61.d).1, (a0.getD y1.1.toNat e61.d).2]), (1, vO 0 1000 1 0 0), (5, vS e61 a0), (6, vI (a0.length : Int)), (7, vI y1.1), (11, .cell (.clos 54 1 (fun i => ([.op 1 1000 1 0 0] : List A).getD i (.c .jk)))), (14, vI ((a0.getD y1.1.toNat e61.d).1)), (16, vI ((a0.getD y1.1.toNat e61.d).2))]) (by kernel_rfl) Tryd.call54 (w54 L _ _ _ gr5) (by kernel_rfl) (by kernel_rfl) (by kernel_rfl) ⟨by kernel_rfl, by decide, by kernel_rfl, by kernel_rfl, by kernel_rfl, by kernel_rfl, by kernel_rfl, by kernel_rfl, by kernel_rfl, by kernel_rfl, by kernel_rfl, by kernel_rfl⟩ (by kernel_rfl) (by kernel_rfl) (by kernel_rfl) (by kernel_rfl) ?_
   refine jg [(1, vO 0 1000 1 0 0), (5, vS e61 a0), (6, vI (a0.length : Int)), (7, vI y1.1)] 0 [1, 5, 6, 7] ?_
   refine blockQ_n ?_
   refine thenQ_n ?_
   refine jr ?_
   obtain ⟨c6, h⟩ := ck_bind h
   refine jG [(1, vO 0 1000 1 0 0), (5, vS e61 a0), (6, vI (a0.length : Int)), (7, vI (y1.1 + (1 : Int)))] ((inR .i64 (y1.1 + (1 : Int))) ∧ (True)) 2 [1, 5, 6, 7] ⟨c6, trivial⟩ ?_
   obtain rfl := si h
   exact round_n _ rfl (jE [.keep [1, 5, 6, 7], .take 3, .ver0 2])
 · have h := cond_f hb h
   refine je 0 ?_
   refine thenQ_e ?_
   obtain rfl := si h; refine round_e rfl (fun hb => ?_); subst hb; have h := kb2
   refine blockQ_hit ?_
   obtain rfl := si h
   exact qwork_n [] [] ([]) (jE [.keep [], .take 3, .ver0 2]) (by kernel_rfl) (by kernel_rfl)

/- system.Words -/
def s16_0 (L : LP) (a0_7 : (List ((List (Int × Int)) × (List (Int × Int)) × Int × Int))) (y6 : (Int × (List Int))) : Option ((Int × (List Int)) ⊕ (List Int)) :=
  (bif (decide (y6.1 < (a0_7.length : Int))) then
  (ck (0 ≤ y6.1 ∧ y6.1 < (a0_7.length : Int))).bind fun _ =>
  (s54 L [(((a0_7.getD y6.1.toNat e77.d).1).length : Int)] y6.2).bind fun r9 =>
  (s55 L ((a0_7.getD y6.1.toNat e77.d).1) r9).bind fun r10 =>
  (s55 L ((a0_7.getD y6.1.toNat e77.d).2.1) r10).bind fun r11 =>
  (s55 L [((a0_7.getD y6.1.toNat e77.d).2.2.1, (a0_7.getD y6.1.toNat e77.d).2.2.2)] r11).bind fun r12 =>
  (ck (inR .i64 (y6.1 + (1 : Int)))).bind fun _ =>
  some (.inl ((y6.1 + (1 : Int)), r12))
  else some (.inr y6.2))
def s16_2 (L : LP) (r21 : (List (List (Int × Int)))) (y22 : (Int × (List Int))) : Option ((Int × (List Int)) ⊕ (List Int)) :=
  (bif (decide (y22.1 < (r21.length : Int))) then
  (ck (0 ≤ y22.1 ∧ y22.1 < (r21.length : Int))).bind fun _ =>
  (s55 L (r21.getD y22.1.toNat e62.d) y22.2).bind fun r25 =>
  (ck (inR .i64 (y22.1 + (1 : Int)))).bind fun _ =>
  some (.inl ((y22.1 + (1 : Int)), r25))
  else some (.inr y22.2))
def s16_1 (L : LP) (a0_6 : (List ((List (List (Int × Int))) × (List (List (Int × Int)))))) (y14 : (Int × (List Int))) : Option ((Int × (List Int)) ⊕ (List Int)) :=
  (bif (decide (y14.1 < (a0_6.length : Int))) then
  ((ck (0 ≤ y14.1 ∧ y14.1 < (a0_6.length : Int))).bind fun _ =>
  (ck (0 ≤ (0 : Int) ∧ (0 : Int) < (((a0_6.getD y14.1.toNat e65.d).1).length : Int))).bind fun _ =>
  (s54 L [(((a0_6.getD y14.1.toNat e65.d).1).length : Int), ((((a0_6.getD y14.1.toNat e65.d).1).getD (0 : Int).toNat e62.d).length : Int)] y14.2).bind fun r20 =>
  (s56 L [(a0_6.getD y14.1.toNat e65.d).1, (a0_6.getD y14.1.toNat e65.d).2]).bind fun r21 =>
  (L.run (s16_2 L r21) ((0 : Int), r20)).bind (fun (v : (List Int)) => some v)).bind fun (y16 : (List Int)) =>
  (ck (inR .i64 (y14.1 + (1 : Int)))).bind fun _ =>
  some (.inl ((y14.1 + (1 : Int)), y16))
  else some (.inr y14.2))
def s16_4 (L : LP) (a0_5 : (List (Int × (List (Int × (List (Int × Int))))))) (y27 : (Int × (List Int))) (y34 : (Int × (List Int))) : Option ((Int × (List Int)) ⊕ (List Int)) :=
  (bif (decide (y34.1 < (((a0_5.getD y27.1.toNat e72.d).2).length : Int))) then
  (ck (0 ≤ y34.1 ∧ y34.1 < (((a0_5.getD y27.1.toNat e72.d).2).length : Int))).bind fun _ =>
  (ck ((y34.2.length + [(((a0_5.getD y27.1.toNat e72.d).2).getD y34.1.toNat e74.d).1].length) * 8 ≤ 140737488355328 ∧ y34.2.length + [(((a0_5.getD y27.1.toNat e72.d).2).getD y34.1.toNat e74.d).1].length ≤ 140737488355328)).bind fun _ =>
  (s54 L [(((((a0_5.getD y27.1.toNat e72.d).2).getD y34.1.toNat e74.d).2).length : Int)] (y34.2 ++ [(((a0_5.getD y27.1.toNat e72.d).2).getD y34.1.toNat e74.d).1])).bind fun r38 =>
  (s55 L ((((a0_5.getD y27.1.toNat e72.d).2).getD y34.1.toNat e74.d).2) r38).bind fun r39 =>
  (ck (inR .i64 (y34.1 + (1 : Int)))).bind fun _ =>
  some (.inl ((y34.1 + (1 : Int)), r39))
  else some (.inr y34.2))
def s16_3 (L : LP) (a0_5 : (List (Int × (List (Int × (List (Int × Int))))))) (y27 : (Int × (List Int))) : Option ((Int × (List Int)) ⊕ (List Int)) :=
  (bif (decide (y27.1 < (a0_5.length : Int))) then
  ((ck (0 ≤ y27.1 ∧ y27.1 < (a0_5.length : Int))).bind fun _ =>
  (ck (inR .i64 ((a0_5.getD y27.1.toNat e72.d).1))).bind fun _ =>
  (s54 L [(a0_5.getD y27.1.toNat e72.d).1, (((a0_5.getD y27.1.toNat e72.d).2).length : Int)] y27.2).bind fun r33 =>
  (L.run (s16_4 L a0_5 y27) ((0 : Int), r33)).bind (fun (v : (List Int)) => some v)).bind fun (y29 : (List Int)) =>
  (ck (inR .i64 (y27.1 + (1 : Int)))).bind fun _ =>
  some (.inl ((y27.1 + (1 : Int)), y29))
  else some (.inr y27.2))
def s16 (L : LP) (a0_0 : Int) (a0_1 : Int) (a0_2 : Int) (a0_3 : Int) (a0_4 : (List (List Int))) (a0_5 : (List (Int × (List (Int × (List (Int × Int))))))) (a0_6 : (List ((List (List (Int × Int))) × (List (List (Int × Int)))))) (a0_7 : (List ((List (Int × Int)) × (List (Int × Int)) × Int × Int))) : Option (List Int) :=
  (s18 L a0_0 a0_1 a0_2 a0_3 a0_4 a0_5 a0_6 a0_7).bind fun r1 =>
  (bif (!r1) then
  some []
  else (s54 L [a0_0, a0_1, a0_2, a0_3, (a0_4.length : Int), (a0_5.length : Int), (a0_6.length : Int), (a0_7.length : Int)] ([] : List Int)).bind fun r2 =>
  ((L.run (s16_3 L a0_5) ((0 : Int), r2)).bind (fun (v : (List Int)) => some v)).bind fun (y3 : (List Int)) =>
  ((L.run (s16_1 L a0_6) ((0 : Int), y3)).bind (fun (v : (List Int)) => some v)).bind fun (y4 : (List Int)) =>
  ((L.run (s16_0 L a0_7) ((0 : Int), y4)).bind (fun (v : (List Int)) => some v)).bind fun (y5 : (List Int)) =>
  some y5)
theorem p16 (L : LP) (a0_0 : Int) (a0_1 : Int) (a0_2 : Int) (a0_3 : Int) (a0_4 : (List (List Int))) (a0_5 : (List (Int × (List (Int × (List (Int × Int))))))) (a0_6 : (List ((List (List (Int × Int))) × (List (List (Int × Int)))))) (a0_7 : (List ((List (Int × Int)) × (List (Int × Int)) × Int × Int))) (r : (List Int)) (h : s16 L a0_0 a0_1 a0_2 a0_3 a0_4 a0_5 a0_6 a0_7 = some r) : Pure X 16 [.agg [aI a0_0, aI a0_1, aI a0_2, aI a0_3, aS e28 a0_4, aS e72 a0_5, aS e65 a0_6, aS e77 a0_7]] (vS e44 r) := by
 refine Pure_of_W (c := cd Tryd.f16 []) Tryd.func16 (by kernel_rfl) (N := 146) (by kernel_rfl) (Nat.le_of_ble_eq_true (by kernel_rfl)) ?_
 unfold s16 at h
 refine js ?_
 refine jr ?_
 refine jf [bL 27 [aI a0_0, aI a0_1, aI a0_2, aI a0_3, aS e28 a0_4, aS e72 a0_5, aS e65 a0_6, aS e77 a0_7]] [(1, vO 0 0 8 0 0)] 2 [1] ?_
 refine thenQ_n ?_
 refine js ?_
 refine js ?_
 refine jr ?_
 refine jh [(1, vO 0 0 8 0 0), (16, .agg [aI a0_0, aI a0_1, aI a0_2, aI a0_3, aS e28 a0_4, aS e72 a0_5, aS e65 a0_6, aS e77 a0_7])] 1 [1, 16] ?_
 obtain ⟨r1, gr1, h⟩ := bind_some h
 refine jl 17 Tryd.call18 (p18 L _ _ _ _ _ _ _ _ _ gr1) ?_
 refine jg [(1, vO 0 0 8 0 0), (18, vB (!r1))] 1 [1, 18] ?_
 refine thenQ_n ?_
 refine jc (!r1) (fun hb => ?_) (fun hb => ?_)
 · have h := cond_t hb h
   refine js ?_
   refine jr ?_
   refine jg [(2, .cell (.c (.nsl)))] 1 [2] ?_
   refine thenQ_n ?_
   refine jt ?_
   refine thenQ_r ?_
   obtain rfl := si h
   exact jQ [.cell (.c (.nsl))] ([.sl 1 (fun i j => (e44.row (([] : List Int).getD i e44.d)).getD j .jk)])
 · have h := cond_f hb h
   refine jk ?_
   refine thenQ_n ?_
   refine js ?_
   refine jr ?_
   refine jf [bL 27 [aI a0_0, aI a0_1, aI a0_2, aI a0_3, aS e28 a0_4, aS e72 a0_5, aS e65 a0_6, aS e77 a0_7], bL 28 [.c (.nsl)]] [(1, vO 0 0 8 0 0), (3, vO 1 0 1 0 0)] 1 [1, 3] ?_
   refine thenQ_n ?_
   refine js ?_
   refine jr ?_
   refine jf [bL 27 [aI a0_0, aI a0_1, aI a0_2, aI a0_3, aS e28 a0_4, aS e72 a0_5, aS e65 a0_6, aS e77 a0_7], bL 28 [.c (.nsl)], bL 95 [.clos 54 1 (fun i => ([.op 1 0 1 0 0] : List A).getD i (.c .jk))]] [(1, vO 0 0 8 0 0), (3, vO 1 0 1 0 0), (4, vO 2 0 1 0 0)] 3 [1, 3, 4] ?_
   refine thenQ_n ?_
   refine js ?_
   refine jr ?_
   refine jg [(1, vO 0 0 8 0 0), (3, vO 1 0 1 0 0), (4, vO 2 0 1 0 0), (5, .cell (.clos 55 1 (fun i => ([.op 2 0 1 0 0] : List A).getD i (.c .jk))))] 2 [1, 3, 4, 5] ?_
   refine thenQ_n ?_
   refine js ?_
   refine jr ?_
   refine jh [(1, vO 0 0 8 0 0), (3, vO 1 0 1 0 0), (4, vO 2 0 1 0 0), (5, .cell (.clos 55 1 (fun i => ([.op 2 0 1 0 0] : List A).getD i (.c .jk)))), (21, .cell (.clos 54 1 (fun i => ([.op 1 0 1 0 0] : List A).getD i (.c .jk)))), (23, vI a0_0), (25, vI a0_1), (27, vI a0_2), (29, vI a0_3), (32, vI (a0_4.length : Int)), (35, vI (a0_5.length : Int)), (38, vI (a0_6.length : Int)), (41, vI (a0_7.length : Int))] 21 [1, 3, 4, 5, 21, 23, 25, 27, 29, 32, 35, 38, 41] ?_
   refine WO_q1 (r := .cell (.c (rawC 8 1 [.int .i64 a0_0, .int .i64 a0_1, .int .i64 a0_2, .int .i64 a0_3, .int .i64 (a0_4.length : Int), .int .i64 (a0_5.length : Int), .int .i64 (a0_6.length : Int), .int .i64 (a0_7.length : Int)]))) (r' := vS e3 [a0_0, a0_1, a0_2, a0_3, (a0_4.length : Int), (a0_5.length : Int), (a0_6.length : Int), (a0_7.length : Int)]) (d := some 42) (φ := True) (raw_weak e3 (xs := [a0_0, a0_1, a0_2, a0_3, (a0_4.length : Int), (a0_5.length : Int), (a0_6.length : Int), (a0_7.length : Int)]) rfl rfl (by kernel_rfl) (by kernel_rfl)) (by kernel_rfl) trivial ?_
   refine WO_ent (ent_cellnil 1 0 44 1 (fun i j => (e44.row (([] : List Int).getD i e44.d)).getD j .jk) (ver := 0) (e' := 28) (cs := [.c (.nsl)]) (cs' := [.sl 3 0 0]) (σ' := [bL 27 [aI a0_0, aI a0_1, aI a0_2, aI a0_3, aS e28 a0_4, aS e72 a0_5, aS e65 a0_6, aS e77 a0_7], bL 28 [.sl 3 0 0], bL 95 [.clos 54 1 (fun i => ([.op 1 0 1 0 0] : List A).getD i (.c .jk))], some (rwB e44 0 44 ([] : List Int))]) (by kernel_rfl) (by kernel_rfl) (by kernel_rfl) (by kernel_rfl) (by kernel_rfl)) ?_
   obtain ⟨r2, gr2, h⟩ := bind_some h
   refine WO_work [1, 3] [0, 0] [0, 1] [1000, 0] [42, 1, 3, 4, 5, 21, 23, 25, 27, 29, 32, 35, 38, 41] (f := 54) (args := [vS e3 [a0_0, a0_1, a0_2, a0_3, (a0_4.length : Int), (a0_5.length : Int), (a0_6.length : Int), (a0_7.length : Int)], vO 0 1000 1 0 0]) (all := [vS e3 [a0_0, a0_1, a0_2, a0_3, (a0_4.length : Int), (a0_5.length : Int), (a0_6.length : Int), (a0_7.length : Int)], vO 1 0 1 0 0]) (d := some 43) (r := tupV []) (σin := [some (.lit 1000 28 [.sl 1 1000 0]), some (rwB e44 1000 44 ([] : List Int))]) (σo := [some (.lit 1000 28 [.sl 1 0 r2.length]), some (rwB e44 0 44 r2)]) (n := 2) (T1 := [(42, vS e3 [a0_0, a0_1, a0_2, a0_3, (a0_4.length : Int), (a0_5.length : Int), (a0_6.length : Int), (a0_7.length : Int)]), (1, vO 0 0 8 0 0), (3, vO 1 0 1 0 0), (4, vO 2 0 1 0 0), (5, .cell (.clos 55 1 (fun i => ([.op 2 0 1 0 0] : List A).getD i (.c .jk)))), (21, .cell (.clos 54 1 (fun i => ([.op 1 0 1 0 0] : List A).getD i (.c .jk)))), (23, vI a0_0), (25, vI a0_1), (27, vI a0_2), (29, vI a0_3), (32, vI (a0_4.length : Int)), (35, vI (a0_5.length : Int)), (38, vI (a0_6.length : Int)), (41, vI (a0_7.length : Int))]) (σ' := [bL 27 [aI a0_0, aI a0_1, aI a0_2, aI a0_3, aS e28 a0_4, aS e72 a0_5, aS e65 a0_6, aS e77 a0_7], bL 28 [.sl 3 1 r2.length], bL 95 [.clos 54 1 (fun i => ([.op 1 0 1 0 0] : List A).getD i (.c .jk))], some (rwB e44 1 44 r2)]) (T' := [(43, tupV []), (42, vS e3 [a0_0, a0_1, a0_2, a0_3, (a0_4.length : Int), (a0_5.length : Int), (a0_6.length : Int), (a0_7.length : Int)]), (1, vO 0 0 8 0 0), (3, vO 1 0 1 0 0), (4, vO 2 0 1 0 0), (5, .cell (.clos 55 1 (fun i => ([.op 2 0 1 0 0] : List A).getD i (.c .jk)))), (21, .cell (.clos 54 1 (fun i => ([.op 1 0 1 0 0] : List A).getD i (.c .jk)))), (23, vI a0_0), (25, vI a0_1), (27, vI a0_2), (29, vI a0_3), (32, vI (a0_4.length : Int)), (35, vI (a0_5.length : Int)), (38, vI (a0_6.length : Int)), (41, vI (a0_7.length : Int))]) (by kernel_rfl) Tryd.call54 (w54 L _ _ _ gr2) (by kernel_rfl) (by kernel_rfl) (by kernel_rfl) ⟨by kernel_rfl, by decide, by kernel_rfl, by kernel_rfl, by kernel_rfl, by kernel_rfl, by kernel_rfl, by kernel_rfl, by kernel_rfl, by kernel_rfl, by kernel_rfl, by kernel_rfl⟩ (by kernel_rfl) (by kernel_rfl) (by kernel_rfl) (by kernel_rfl) ?_
   refine jg [(1, vO 0 0 8 0 0), (3, vO 1 0 1 0 0), (4, vO 2 0 1 0 0), (5, .cell (.clos 55 1 (fun i => ([.op 2 0 1 0 0] : List A).getD i (.c .jk))))] 0 [1, 3, 4, 5] ?_
   refine thenQ_n ?_
   obtain ⟨y3, gy3, ky3⟩ := bind_some h
   refine W_cut (by kernel_rfl) [bL 27 [aI a0_0, aI a0_1, aI a0_2, aI a0_3, aS e28 a0_4, aS e72 a0_5, aS e65 a0_6, aS e77 a0_7], bL 28 [.sl 3 0 y3.length], bL 95 [.clos 54 1 (fun i => ([.op 1 0 1 0 0] : List A).getD i (.c .jk))], some (rwB e44 0 44 y3)] [(1, vO 0 0 8 0 0), (3, vO 1 0 1 0 0), (4, vO 2 0 1 0 0), (5, .cell (.clos 55 1 (fun i => ([.op 2 0 1 0 0] : List A).getD i (.c .jk))))] ?_ ?_
   · have h := ky3; clear gy3 ky3
     obtain ⟨y4, gy4, ky4⟩ := bind_some h
     refine W_cut (by kernel_rfl) [bL 27 [aI a0_0, aI a0_1, aI a0_2, aI a0_3, aS e28 a0_4, aS e72 a0_5, aS e65 a0_6, aS e77 a0_7], bL 28 [.sl 3 0 y4.length], bL 95 [.clos 54 1 (fun i => ([.op 1 0 1 0 0] : List A).getD i (.c .jk))], some (rwB e44 0 44 y4)] [(1, vO 0 0 8 0 0), (3, vO 1 0 1 0 0), (4, vO 2 0 1 0 0), (5, .cell (.clos 55 1 (fun i => ([.op 2 0 1 0 0] : List A).getD i (.c .jk))))] ?_ ?_
     · have h := ky4; clear gy4 ky4
       obtain ⟨y5, gy5, ky5⟩ := bind_some h
       refine W_cut (by kernel_rfl) [bL 27 [aI a0_0, aI a0_1, aI a0_2, aI a0_3, aS e28 a0_4, aS e72 a0_5, aS e65 a0_6, aS e77 a0_7], bL 28 [.sl 3 0 y5.length], bL 95 [.clos 54 1 (fun i => ([.op 1 0 1 0 0] : List A).getD i (.c .jk))], some (rwB e44 0 44 y5)] [(3, vO 1 0 1 0 0)] ?_ ?_
       · have h := ky5; clear gy5 ky5
         refine js ?_
         refine jr ?_
         refine jg [(2, vW 3 0 y5.length)] 2 [2] ?_
         refine thenQ_n ?_
         refine jt ?_
         obtain rfl := si h
         exact jq [vW 3 0 y5.length]
       · have h := gy5; clear gy5 ky5
         refine js ?_
         refine jr ?_
         refine jg [(3, vO 1 0 1 0 0), (4, vO 2 0 1 0 0), (5, .cell (.clos 55 1 (fun i => ([.op 2 0 1 0 0] : List A).getD i (.c .jk)))), (119, vS e77 a0_7), (120, vI (a0_7.length : Int)), (121, vI 0)] 4 [3, 4, 5, 119, 120, 121] ?_
         refine thenQ_n ?_
         refine jb 8 ?_
         obtain ⟨b7, gb7, kb7⟩ := bind_some h
         refine W_loop_at (S := fun (y6 : (Int × (List Int))) => ([bL 27 [aI a0_0, aI a0_1, aI a0_2, aI a0_3, aS e28 a0_4, aS e72 a0_5, aS e65 a0_6, aS e77 a0_7], bL 28 [.sl 3 0 y6.2.length], bL 95 [.clos 54 1 (fun i => ([.op 1 0 1 0 0] : List A).getD i (.c .jk))], some (rwB e44 0 44 y6.2)], [(3, vO 1 0 1 0 0), (4, vO 2 0 1 0 0), (5, .cell (.clos 55 1 (fun i => ([.op 2 0 1 0 0] : List A).getD i (.c .jk)))), (119, vS e77 a0_7), (120, vI (a0_7.length : Int)), (121, vI y6.1)])) (step := _) (x0 := ((0 : Int), y4)) (b := b7) (L.ok _ _ _ gb7) (by kernel_rfl) (jE [.keep [3, 4, 5, 119, 120, 121], .take 4, .ver0 3]) ?_
         clear gb7 h; intro y6 o h; unfold s16_0 at h
         refine js ?_
         refine jr ?_
         refine jg [(3, vO 1 0 1 0 0), (4, vO 2 0 1 0 0), (5, .cell (.clos 55 1 (fun i => ([.op 2 0 1 0 0] : List A).getD i (.c .jk)))), (119, vS e77 a0_7), (120, vI (a0_7.length : Int)), (121, vI y6.1), (122, vB (decide (y6.1 < (a0_7.length : Int))))] 1 [3, 4, 5, 119, 120, 121, 122] ?_
         refine thenQ_n ?_
         refine js ?_
         refine jc (decide (y6.1 < (a0_7.length : Int))) (fun hb => ?_) (fun hb => ?_)
         · have h := cond_t hb h
           refine jk ?_
           refine thenQ_n ?_
           refine js ?_
           refine jb 9 ?_
           refine js ?_
           refine jr ?_
           obtain ⟨c8, h⟩ := ck_bind h
           refine jF [bL 27 [aI a0_0, aI a0_1, aI a0_2, aI a0_3, aS e28 a0_4, aS e72 a0_5, aS e65 a0_6, aS e77 a0_7], bL 28 [.sl 3 0 y6.2.length], bL 95 [.clos 54 1 (fun i => ([.op 1 0 1 0 0] : List A).getD i (.c .jk))], some (rwB e44 0 44 y6.2), bL 77 [aS e61 ((a0_7.getD y6.1.toNat e77.d).1), aS e61 ((a0_7.getD y6.1.toNat e77.d).2.1), aY ((a0_7.getD y6.1.toNat e77.d).2.2.1), aI ((a0_7.getD y6.1.toNat e77.d).2.2.2)]] [(3, vO 1 0 1 0 0), (4, vO 2 0 1 0 0), (5, .cell (.clos 55 1 (fun i => ([.op 2 0 1 0 0] : List A).getD i (.c .jk)))), (15, vO 4 0 4 0 0), (119, vS e77 a0_7), (120, vI (a0_7.length : Int)), (121, vI y6.1)] ((0 ≤ y6.1 ∧ y6.1 < (a0_7.length : Int)) ∧ (True)) 4 [3, 4, 5, 15, 119, 120, 121] ⟨c8, trivial⟩ ?_
           refine thenQ_n ?_
           refine js ?_
           refine jr ?_
           refine jh [(3, vO 1 0 1 0 0), (4, vO 2 0 1 0 0), (5, .cell (.clos 55 1 (fun i => ([.op 2 0 1 0 0] : List A).getD i (.c .jk)))), (15, vO 4 0 4 0 0), (119, vS e77 a0_7), (120, vI (a0_7.length : Int)), (121, vI y6.1), (125, .cell (.clos 54 1 (fun i => ([.op 1 0 1 0 0] : List A).getD i (.c .jk)))), (128, vI (((a0_7.getD y6.1.toNat e77.d).1).length : Int))] 4 [3, 4, 5, 15, 119, 120, 121, 125, 128] ?_
           refine WO_q1 (r := .cell (.c (rawC 1 1 [.int .i64 (((a0_7.getD y6.1.toNat e77.d).1).length : Int)]))) (r' := vS e3 [(((a0_7.getD y6.1.toNat e77.d).1).length : Int)]) (d := some 129) (φ := True) (raw_weak e3 (xs := [(((a0_7.getD y6.1.toNat e77.d).1).length : Int)]) rfl rfl (by kernel_rfl) (by kernel_rfl)) (by kernel_rfl) trivial ?_
           obtain ⟨r9, gr9, h⟩ := bind_some h
           refine WO_work [1, 3] [0, 0] [0, 1] [1000, 0] [129, 3, 4, 5, 15, 119, 120, 121, 125, 128] (f := 54) (args := [vS e3 [(((a0_7.getD y6.1.toNat e77.d).1).length : Int)], vO 0 1000 1 0 0]) (all := [vS e3 [(((a0_7.getD y6.1.toNat e77.d).1).length : Int)], vO 1 0 1 0 0]) (d := some 130) (r := tupV []) (σin := [some (.lit 1000 28 [.sl 1 1000 y6.2.length]), some (rwB e44 1000 44 y6.2)]) (σo := [some (.lit 1000 28 [.sl 1 0 r9.length]), some (rwB e44 0 44 r9)]) (n := 2) (T1 := [(129, vS e3 [(((a0_7.getD y6.1.toNat e77.d).1).length : Int)]), (3, vO 1 0 1 0 0), (4, vO 2 0 1 0 0), (5, .cell (.clos 55 1 (fun i => ([.op 2 0 1 0 0] : List A).getD i (.c .jk)))), (15, vO 4 0 4 0 0), (119, vS e77 a0_7), (120, vI (a0_7.length : Int)), (121, vI y6.1), (125, .cell (.clos 54 1 (fun i => ([.op 1 0 1 0 0] : List A).getD i (.c .jk)))), (128, vI (((a0_7.getD y6.1.toNat e77.d).1).length : Int))]) (σ' := [bL 27 [aI a0_0, aI a0_1, aI a0_2, aI a0_3, aS e28 a0_4, aS e72 a0_5, aS e65 a0_6, aS e77 a0_7], bL 28 [.sl 3 1 r9.length], bL 95 [.clos 54 1 (fun i => ([.op 1 0 1 0 0] : List A).getD i (.c .jk))], some (rwB e44 1 44 r9), bL 77 [aS e61 ((a0_7.getD y6.1.toNat e77.d).1), aS e61 ((a0_7.getD y6.1.toNat e77.d).2.1), aY ((a0_7.getD y6.1.toNat e77.d).2.2.1), aI ((a0_7.getD y6.1.toNat e77.d).2.2.2)]]) (T' := [(130, tupV []), (129, vS e3 [(((a0_7.getD y6.1.toNat e77.d).1).length : Int)]), (3, vO 1 0 1 0 0), (4, vO 2 0 1 0 0), (5, .cell (.clos 55 1 (fun i => ([.op 2 0 1 0 0] : List A).getD i (.c .jk)))), (15, vO 4 0 4 0 0), (119, vS e77 a0_7), (120, vI (a0_7.length : Int)), (121, vI y6.1), (125, .cell (.clos 54 1 (fun i => ([.op 1 0 1 0 0] : List A).getD i (.c .jk)))), (128, vI (((a0_7.getD y6.1.toNat e77.d).1).length : Int))]) (by kernel_rfl) Tryd.call54 (w54 L _ _ _ gr9) (by kernel_rfl) (by kernel_rfl) (by kernel_rfl) ⟨by kernel_rfl, by decide, by kernel_rfl, by kernel_rfl, by kernel_rfl, by kernel_rfl, by kernel_rfl, by kernel_rfl, by kernel_rfl, by kernel_rfl, by kernel_rfl, by kernel_rfl⟩ (by kernel_rfl) (by kernel_rfl) (by kernel_rfl) (by kernel_rfl) ?_
           refine jg [(3, vO 1 0 1 0 0), (4, vO 2 0 1 0 0), (5, .cell (.clos 55 1 (fun i => ([.op 2 0 1 0 0] : List A).getD i (.c .jk)))), (15, vO 4 0 4 0 0), (119, vS e77 a0_7), (120, vI (a0_7.length : Int)), (121, vI y6.1)] 0 [3, 4, 5, 15, 119, 120, 121] ?_
           refine thenQ_n ?_
           refine js ?_
           refine jr ?_
           refine jh [(3, vO 1 0 1 0 0), (4, vO 2 0 1 0 0), (5, .cell (.clos 55 1 (fun i => ([.op 2 0 1 0 0] : List A).getD i (.c .jk)))), (15, vO 4 0 4 0 0), (119, vS e77 a0_7), (120, vI (a0_7.length : Int)), (121, vI y6.1), (131, .cell (.clos 55 1 (fun i => ([.op 2 0 1 0 0] : List A).getD i (.c .jk)))), (133, vS e61 ((a0_7.getD y6.1.toNat e77.d).1))] 3 [3, 4, 5, 15, 119, 120, 121, 131, 133] ?_
           obtain ⟨r10, gr10, h⟩ := bind_some h
           refine WO_work [2, 1, 3] [0, 0, 1] [0, 0, 2] [1000, 1000, 0] [3, 4, 5, 15, 119, 120, 121, 131, 133] (f := 55) (args := [vS e61 ((a0_7.getD y6.1.toNat e77.d).1), vO 0 1000 1 0 0]) (all := [vS e61 ((a0_7.getD y6.1.toNat e77.d).1), vO 2 0 1 0 0]) (d := some 134) (r := tupV []) (σin := [some (.lit 1000 95 [.clos 54 1 (fun i => ([.op 1 1000 1 0 0] : List A).getD i (.c .jk))]), some (.lit 1000 28 [.sl 2 1000 r9.length]), some (rwB e44 1000 44 r9)]) (σo := [some (.lit 1000 95 [.clos 54 1 (fun i => ([.op 1 1000 1 0 0] : List A).getD i (.c .jk))]), some (.lit 1000 28 [.sl 2 0 r10.length]), some (rwB e44 0 44 r10)]) (n := 3) (T1 := [(3, vO 1 0 1 0 0), (4, vO 2 0 1 0 0), (5, .cell (.clos 55 1 (fun i => ([.op 2 0 1 0 0] : List A).getD i (.c .jk)))), (15, vO 4 0 4 0 0), (119, vS e77 a0_7), (120, vI (a0_7.length : Int)), (121, vI y6.1), (131, .cell (.clos 55 1 (fun i => ([.op 2 0 1 0 0] : List A).getD i (.c .jk)))), (133, vS e61 ((a0_7.getD y6.1.toNat e77.d).1))]) (σ' := [bL 27 [aI a0_0, aI a0_1, aI a0_2, aI a0_3, aS e28 a0_4, aS e72 a0_5, aS e65 a0_6, aS e77 a0_7], bL 28 [.sl 3 2 r10.length], bL 95 [.clos 54 1 (fun i => ([.op 1 0 1 0 0] : List A).getD i (.c .jk))], some (rwB e44 2 44 r10), bL 77 [aS e61 ((a0_7.getD y6.1.toNat e77.d).1), aS e61 ((a0_7.getD y6.1.toNat e77.d).2.1), aY ((a0_7.getD y6.1.toNat e77.d).2.2.1), aI ((a0_7.getD y6.1.toNat e77.d).2.2.2)]]) (T' := [(134, tupV []), (3, vO 1 0 1 0 0), (4, vO 2 0 1 0 0), (5, .cell (.clos 55 1 (fun i => ([.op 2 0 1 0 0] : List A).getD i (.c .jk)))), (15, vO 4 0 4 0 0), (119, vS e77 a0_7), (120, vI (a0_7.length : Int)), (121, vI y6.1), (131, .cell (.clos 55 1 (fun i => ([.op 2 0 1 0 0] : List A).getD i (.c .jk)))), (133, vS e61 ((a0_7.getD y6.1.toNat e77.d).1))]) (by kernel_rfl) Tryd.call55 (w55 L _ _ _ gr10) (by kernel_rfl) (by kernel_rfl) (by kernel_rfl) ⟨by kernel_rfl, by decide, by kernel_rfl, by kernel_rfl, by kernel_rfl, by kernel_rfl, by kernel_rfl, by kernel_rfl, by kernel_rfl, by kernel_rfl, by kernel_rfl, by kernel_rfl⟩ (by kernel_rfl) (by kernel_rfl) (by kernel_rfl) (by kernel_rfl) ?_
           refine jg [(3, vO 1 0 1 0 0), (4, vO 2 0 1 0 0), (5, .cell (.clos 55 1 (fun i => ([.op 2 0 1 0 0] : List A).getD i (.c .jk)))), (15, vO 4 0 4 0 0), (119, vS e77 a0_7), (120, vI (a0_7.length : Int)), (121, vI y6.1)] 0 [3, 4, 5, 15, 119, 120, 121] ?_
           refine thenQ_n ?_
           refine js ?_
           refine jr ?_
           refine jh [(3, vO 1 0 1 0 0), (4, vO 2 0 1 0 0), (5, .cell (.clos 55 1 (fun i => ([.op 2 0 1 0 0] : List A).getD i (.c .jk)))), (15, vO 4 0 4 0 0), (119, vS e77 a0_7), (120, vI (a0_7.length : Int)), (121, vI y6.1), (135, .cell (.clos 55 1 (fun i => ([.op 2 0 1 0 0] : List A).getD i (.c .jk)))), (137, vS e61 ((a0_7.getD y6.1.toNat e77.d).2.1))] 3 [3, 4, 5, 15, 119, 120, 121, 135, 137] ?_
           obtain ⟨r11, gr11, h⟩ := bind_some h
           refine WO_work [2, 1, 3] [0, 0, 2] [0, 0, 3] [1000, 1000, 0] [3, 4, 5, 15, 119, 120, 121, 135, 137] (f := 55) (args := [vS e61 ((a0_7.getD y6.1.toNat e77.d).2.1), vO 0 1000 1 0 0]) (all := [vS e61 ((a0_7.getD y6.1.toNat e77.d).2.1), vO 2 0 1 0 0]) (d := some 138) (r := tupV []) (σin := [some (.lit 1000 95 [.clos 54 1 (fun i => ([.op 1 1000 1 0 0] : List A).getD i (.c .jk))]), some (.lit 1000 28 [.sl 2 1000 r10.length]), some (rwB e44 1000 44 r10)]) (σo := [some (.lit 1000 95 [.clos 54 1 (fun i => ([.op 1 1000 1 0 0] : List A).getD i (.c .jk))]), some (.lit 1000 28 [.sl 2 0 r11.length]), some (rwB e44 0 44 r11)]) (n := 3) (T1 := [(3, vO 1 0 1 0 0), (4, vO 2 0 1 0 0), (5, .cell (.clos 55 1 (fun i => ([.op 2 0 1 0 0] : List A).getD i (.c .jk)))), (15, vO 4 0 4 0 0), (119, vS e77 a0_7), (120, vI (a0_7.length : Int)), (121, vI y6.1), (135, .cell (.clos 55 1 (fun i => ([.op 2 0 1 0 0] : List A).getD i (.c .jk)))), (137, vS e61 ((a0_7.getD y6.1.toNat e77.d).2.1))]) (σ' := [bL 27 [aI a0_0, aI a0_1, aI a0_2, aI a0_3, aS e28 a0_4, aS e72 a0_5, aS e65 a0_6, aS e77 a0_7], bL 28 [.sl 3 3 r11.length], bL 95 [.clos 54 1 (fun i => ([.op 1 0 1 0 0] : List A).getD i (.c .jk))], some (rwB e44 3 44 r11), bL 77 [aS e61 ((a0_7.getD y6.1.toNat e77.d).1), aS e61 ((a0_7.getD y6.1.toNat e77.d).2.1), aY ((a0_7.getD y6.1.toNat e77.d).2.2.1), aI ((a0_7.getD y6.1.toNat e77.d).2.2.2)]]) (T' := [(138, tupV []), (3, vO 1 0 1 0 0), (4, vO 2 0 1 0 0), (5, .cell (.clos 55 1 (fun i => ([.op 2 0 1 0 0] : List A).getD i (.c .jk)))), (15, vO 4 0 4 0 0), (119, vS e77 a0_7), (120, vI (a0_7.length : Int)), (121, vI y6.1), (135, .cell (.clos 55 1 (fun i => ([.op 2 0 1 0 0] : List A).getD i (.c .jk)))), (137, vS e61 ((a0_7.getD y6.1.toNat e77.d).2.1))]) (by kernel_rfl) Tryd.call55 (w55 L _ _ _ gr11) (by kernel_rfl) (by kernel_rfl) (by kernel_rfl) ⟨by kernel_rfl, by decide, by kernel_rfl, by kernel_rfl, by kernel_rfl, by kernel_rfl, by kernel_rfl, by kernel_rfl, by kernel_rfl, by kernel_rfl, by kernel_rfl, by kernel_rfl⟩ (by kernel_rfl) (by kernel_rfl) (by kernel_rfl) (by kernel_rfl) ?_
           refine jg [(3, vO 1 0 1 0 0), (4, vO 2 0 1 0 0), (5, .cell (.clos 55 1 (fun i => ([.op 2 0 1 0 0] : List A).getD i (.c .jk)))), (15, vO 4 0 4 0 0), (119, vS e77 a0_7), (120, vI (a0_7.length : Int)), (121, vI y6.1)] 0 [3, 4, 5, 15, 119, 120, 121] ?_
           refine thenQ_n ?_
           refine jr ?_
           refine jh [(3, vO 1 0 1 0 0), (4, vO 2 0 1 0 0), (5, .cell (.clos 55 1 (fun i => ([.op 2 0 1 0 0] : List A).getD i (.c .jk)))), (119, vS e77 a0_7), (120, vI (a0_7.length : Int)), (121, vI y6.1), (139, .cell (.clos 55 1 (fun i => ([.op 2 0 1 0 0] : List A).getD i (.c .jk)))), (141, .agg [aY ((a0_7.getD y6.1.toNat e77.d).2.2.1), aI ((a0_7.getD y6.1.toNat e77.d).2.2.2)])] 3 [3, 4, 5, 119, 120, 121, 139, 141] ?_
           refine WO_q1 (r := .cell (.c (rawC 1 2 [.int .u8 ((a0_7.getD y6.1.toNat e77.d).2.2.1), .int .i64 ((a0_7.getD y6.1.toNat e77.d).2.2.2)]))) (r' := vS e61 [((a0_7.getD y6.1.toNat e77.d).2.2.1, (a0_7.getD y6.1.toNat e77.d).2.2.2)]) (d := some 142) (φ := True) (raw_weak e61 (xs := [((a0_7.getD y6.1.toNat e77.d).2.2.1, (a0_7.getD y6.1.toNat e77.d).2.2.2)]) rfl rfl (by kernel_rfl) (by kernel_rfl)) (by kernel_rfl) trivial ?_
           obtain ⟨r12, gr12, h⟩ := bind_some h
           refine WO_work [2, 1, 3] [0, 0, 3] [0, 0, 4] [1000, 1000, 0] [142, 3, 4, 5, 119, 120, 121, 139, 141] (f := 55) (args := [vS e61 [((a0_7.getD y6.1.toNat e77.d).2.2.1, (a0_7.getD y6.1.toNat e77.d).2.2.2)], vO 0 1000 1 0 0]) (all := [vS e61 [((a0_7.getD y6.1.toNat e77.d).2.2.1, (a0_7.getD y6.1.toNat e77.d).2.2.2)], vO 2 0 1 0 0]) (d := some 143) (r := tupV []) (σin := [some (.lit 1000 95 [.clos 54 1 (fun i => ([.op 1 1000 1 0 0] : List A).getD i (.c .jk))]), some (.lit 1000 28 [.sl 2 1000 r11.length]), some (rwB e44 1000 44 r11)]) (σo := [some (.lit 1000 95 [.clos 54 1 (fun i => ([.op 1 1000 1 0 0] : List A).getD i (.c .jk))]), some (.lit 1000 28 [.sl 2 0 r12.length]), some (rwB e44 0 44 r12)]) (n := 3) (T1 := [(142, vS e61 [((a0_7.getD y6.1.toNat e77.d).2.2.1, (a0_7.getD y6.1.toNat e77.d).2.2.2)]), (3, vO 1 0 1 0 0), (4, vO 2 0 1 0 0), (5, .cell (.clos 55 1 (fun i => ([.op 2 0 1 0 0] : List A).getD i (.c .jk)))), (119, vS e77 a0_7), (120, vI (a0_7.length : Int)), (121, vI y6.1), (139, .cell (.clos 55 1 (fun i => ([.op 2 0 1 0 0] : List A).getD i (.c .jk)))), (141, .agg [aY ((a0_7.getD y6.1.toNat e77.d).2.2.1), aI ((a0_7.getD y6.1.toNat e77.d).2.2.2)])]) (σ' := [bL 27 [aI a0_0, aI a0_1, aI a0_2, aI a0_3, aS e28 a0_4, aS e72 a0_5, aS e65 a0_6, aS e77 a0_7], bL 28 [.sl 3 4 r12.length], bL 95 [.clos 54 1 (fun i => ([.op 1 0 1 0 0] : List A).getD i (.c .jk))], some (rwB e44 4 44 r12), bL 77 [aS e61 ((a0_7.getD y6.1.toNat e77.d).1), aS e61 ((a0_7.getD y6.1.toNat e77.d).2.1), aY ((a0_7.getD y6.1.toNat e77.d).2.2.1), aI ((a0_7.getD y6.1.toNat e77.d).2.2.2)]]) (T' := [(143, tupV []), (142, vS e61 [((a0_7.getD y6.1.toNat e77.d).2.2.1, (a0_7.getD y6.1.toNat e77.d).2.2.2)]), (3, vO 1 0 1 0 0), (4, vO 2 0 1 0 0), (5, .cell (.clos 55 1 (fun i => ([.op 2 0 1 0 0] : List A).getD i (.c .jk)))), (119, vS e77 a0_7), (120, vI (a0_7.length : Int)), (121, vI y6.1), (139, .cell (.clos 55 1 (fun i => ([.op 2 0 1 0 0] : List A).getD i (.c .jk)))), (141, .agg [aY ((a0_7.getD y6.1.toNat e77.d).2.2.1), aI ((a0_7.getD y6.1.toNat e77.d).2.2.2)])]) (by kernel_rfl) Tryd.call55 (w55 L _ _ _ gr12) (by kernel_rfl) (by kernel_rfl) (by kernel_rfl) ⟨by kernel_rfl, by decide, by kernel_rfl, by kernel_rfl, by kernel_rfl, by kernel_rfl, by kernel_rfl, by kernel_rfl, by kernel_rfl, by kernel_rfl, by kernel_rfl, by kernel_rfl⟩ (by kernel_rfl) (by kernel_rfl) (by kernel_rfl) (by kernel_rfl) ?_
           refine jg [(3, vO 1 0 1 0 0), (4, vO 2 0 1 0 0), (5, .cell (.clos 55 1 (fun i => ([.op 2 0 1 0 0] : List A).getD i (.c .jk)))), (119, vS e77 a0_7), (120, vI (a0_7.length : Int)), (121, vI y6.1)] 0 [3, 4, 5, 119, 120, 121] ?_
           refine blockQ_n ?_
           refine thenQ_n ?_
           refine jr ?_
           obtain ⟨c13, h⟩ := ck_bind h
           refine jG [(3, vO 1 0 1 0 0), (4, vO 2 0 1 0 0), (5, .cell (.clos 55 1 (fun i => ([.op 2 0 1 0 0] : List A).getD i (.c .jk)))), (119, vS e77 a0_7), (120, vI (a0_7.length : Int)), (121, vI (y6.1 + (1 : Int)))] ((inR .i64 (y6.1 + (1 : Int))) ∧ (True)) 2 [3, 4, 5, 119, 120, 121] ⟨c13, trivial⟩ ?_
           obtain rfl := si h
           exact round_n _ rfl (jE [.keep [3, 4, 5, 119, 120, 121], .take 4, .ver0 3])
         · have h := cond_f hb h
           refine je 8 ?_
           refine thenQ_e ?_
           obtain rfl := si h; refine round_e rfl (fun hb => ?_); subst hb; have h := kb7
           refine blockQ_hit ?_
           obtain rfl := si h
           exact thenQ_n (jE [.keep [3], .take 4, .ver0 3])
     · have h := gy4; clear gy4 ky4
       refine js ?_
       refine jr ?_
       refine jg [(1, vO 0 0 8 0 0), (3, vO 1 0 1 0 0), (4, vO 2 0 1 0 0), (5, .cell (.clos 55 1 (fun i => ([.op 2 0 1 0 0] : List A).getD i (.c .jk)))), (85, vS e65 a0_6), (86, vI (a0_6.length : Int)), (87, vI 0)] 4 [1, 3, 4, 5, 85, 86, 87] ?_
       refine thenQ_n ?_
       refine jb 4 ?_
       obtain ⟨b15, gb15, kb15⟩ := bind_some h
       refine W_loop_at (S := fun (y14 : (Int × (List Int))) => ([bL 27 [aI a0_0, aI a0_1, aI a0_2, aI a0_3, aS e28 a0_4, aS e72 a0_5, aS e65 a0_6, aS e77 a0_7], bL 28 [.sl 3 0 y14.2.length], bL 95 [.clos 54 1 (fun i => ([.op 1 0 1 0 0] : List A).getD i (.c .jk))], some (rwB e44 0 44 y14.2)], [(1, vO 0 0 8 0 0), (3, vO 1 0 1 0 0), (4, vO 2 0 1 0 0), (5, .cell (.clos 55 1 (fun i => ([.op 2 0 1 0 0] : List A).getD i (.c .jk)))), (85, vS e65 a0_6), (86, vI (a0_6.length : Int)), (87, vI y14.1)])) (step := _) (x0 := ((0 : Int), y3)) (b := b15) (L.ok _ _ _ gb15) (by kernel_rfl) (jE [.keep [1, 3, 4, 5, 85, 86, 87], .take 4, .ver0 3]) ?_
       clear gb15 h; intro y14 o h; unfold s16_1 at h
       refine js ?_
       refine jr ?_
       refine jg [(1, vO 0 0 8 0 0), (3, vO 1 0 1 0 0), (4, vO 2 0 1 0 0), (5, .cell (.clos 55 1 (fun i => ([.op 2 0 1 0 0] : List A).getD i (.c .jk)))), (85, vS e65 a0_6), (86, vI (a0_6.length : Int)), (87, vI y14.1), (88, vB (decide (y14.1 < (a0_6.length : Int))))] 1 [1, 3, 4, 5, 85, 86, 87, 88] ?_
       refine thenQ_n ?_
       refine js ?_
       refine jc (decide (y14.1 < (a0_6.length : Int))) (fun hb => ?_) (fun hb => ?_)
       · have h := cond_t hb h
         refine jk ?_
         refine thenQ_n ?_
         obtain ⟨y16, gy16, ky16⟩ := bind_some h
         refine W_cut (by kernel_rfl) [bL 27 [aI a0_0, aI a0_1, aI a0_2, aI a0_3, aS e28 a0_4, aS e72 a0_5, aS e65 a0_6, aS e77 a0_7], bL 28 [.sl 3 0 y16.length], bL 95 [.clos 54 1 (fun i => ([.op 1 0 1 0 0] : List A).getD i (.c .jk))], some (rwB e44 0 44 y16)] [(1, vO 0 0 8 0 0), (3, vO 1 0 1 0 0), (4, vO 2 0 1 0 0), (5, .cell (.clos 55 1 (fun i => ([.op 2 0 1 0 0] : List A).getD i (.c .jk)))), (85, vS e65 a0_6), (86, vI (a0_6.length : Int)), (87, vI y14.1)] ?_ ?_
         · have h := ky16; clear gy16 ky16
           refine jr ?_
           obtain ⟨c17, h⟩ := ck_bind h
           refine jG [(1, vO 0 0 8 0 0), (3, vO 1 0 1 0 0), (4, vO 2 0 1 0 0), (5, .cell (.clos 55 1 (fun i => ([.op 2 0 1 0 0] : List A).getD i (.c .jk)))), (85, vS e65 a0_6), (86, vI (a0_6.length : Int)), (87, vI (y14.1 + (1 : Int)))] ((inR .i64 (y14.1 + (1 : Int))) ∧ (True)) 2 [1, 3, 4, 5, 85, 86, 87] ⟨c17, trivial⟩ ?_
           obtain rfl := si h
           exact round_n _ rfl (jE [.keep [1, 3, 4, 5, 85, 86, 87], .take 4, .ver0 3])
         · have h := gy16; clear gy16 ky16
           refine jb 5 ?_
           refine js ?_
           refine jr ?_
           obtain ⟨c18, h⟩ := ck_bind h
           refine jF [bL 27 [aI a0_0, aI a0_1, aI a0_2, aI a0_3, aS e28 a0_4, aS e72 a0_5, aS e65 a0_6, aS e77 a0_7], bL 28 [.sl 3 0 y14.2.length], bL 95 [.clos 54 1 (fun i => ([.op 1 0 1 0 0] : List A).getD i (.c .jk))], some (rwB e44 0 44 y14.2), bL 65 [aS e62 ((a0_6.getD y14.1.toNat e65.d).1), aS e62 ((a0_6.getD y14.1.toNat e65.d).2)]] [(1, vO 0 0 8 0 0), (3, vO 1 0 1 0 0), (4, vO 2 0 1 0 0), (5, .cell (.clos 55 1 (fun i => ([.op 2 0 1 0 0] : List A).getD i (.c .jk)))), (11, vO 4 0 2 0 0), (85, vS e65 a0_6), (86, vI (a0_6.length : Int)), (87, vI y14.1)] ((0 ≤ y14.1 ∧ y14.1 < (a0_6.length : Int)) ∧ (True)) 4 [1, 3, 4, 5, 11, 85, 86, 87] ⟨c18, trivial⟩ ?_
           refine thenQ_n ?_
           refine js ?_
           refine jdr 10 mixed ?_
           obtain ⟨c19, h⟩ := ck_bind h
           refine jY 1 [(1, vO 0 0 8 0 0), (3, vO 1 0 1 0 0), (4, vO 2 0 1 0 0), (5, .cell (.clos 55 1 (fun i => ([.op 2 0 1 0 0] : List A).getD i (.c .jk)))), (11, vO 4 0 2 0 0), (85, vS e65 a0_6), (86, vI (a0_6.length : Int)), (87, vI y14.1), (91, .cell (.clos 54 1 (fun i => ([.op 1 0 1 0 0] : List A).getD i (.c .jk)))), (94, vI (((a0_6.getD y14.1.toNat e65.d).1).length : Int)), (99, vI ((((a0_6.getD y14.1.toNat e65.d).1).getD (0 : Int).toNat e62.d).length : Int))] ((0 ≤ (0 : Int) ∧ (0 : Int) < (((a0_6.getD y14.1.toNat e65.d).1).length : Int)) ∧ (True)) 9 [1, 3, 4, 5, 11, 85, 86, 87, 91, 94, 99] ⟨c19, trivial⟩ ?_
           refine WQ_q1 (r := .cell (.c (rawC 2 1 [.int .i64 (((a0_6.getD y14.1.toNat e65.d).1).length : Int), .int .i64 ((((a0_6.getD y14.1.toNat e65.d).1).getD (0 : Int).toNat e62.d).length : Int)]))) (r' := vS e3 [(((a0_6.getD y14.1.toNat e65.d).1).length : Int), ((((a0_6.getD y14.1.toNat e65.d).1).getD (0 : Int).toNat e62.d).length : Int)]) (d := some 100) (φ := True) (raw_weak e3 (xs := [(((a0_6.getD y14.1.toNat e65.d).1).length : Int), ((((a0_6.getD y14.1.toNat e65.d).1).getD (0 : Int).toNat e62.d).length : Int)]) rfl rfl (by kernel_rfl) (by kernel_rfl)) (by kernel_rfl) trivial ?_
           refine WQ_done ?_
           obtain ⟨r20, gr20, h⟩ := bind_some h
           refine WO_work [1, 3] [0, 0] [0, 1] [1000, 0] [100, 1, 3, 4, 5, 11, 85, 86, 87, 91, 94, 99] (f := 54) (args := [vS e3 [(((a0_6.getD y14.1.toNat e65.d).1).length : Int), ((((a0_6.getD y14.1.toNat e65.d).1).getD (0 : Int).toNat e62.d).length : Int)], vO 0 1000 1 0 0]) (all := [vS e3 [(((a0_6.getD y14.1.toNat e65.d).1).length : Int), ((((a0_6.getD y14.1.toNat e65.d).1).getD (0 : Int).toNat e62.d).length : Int)], vO 1 0 1 0 0]) (d := some 101) (r := tupV []) (σin := [some (.lit 1000 28 [.sl 1 1000 y14.2.length]), some (rwB e44 1000 44 y14.2)]) (σo := [some (.lit 1000 28 [.sl 1 0 r20.length]), some (rwB e44 0 44 r20)]) (n := 2) (T1 := [(100, vS e3 [(((a0_6.getD y14.1.toNat e65.d).1).length : Int), ((((a0_6.getD y14.1.toNat e65.d).1).getD (0 : Int).toNat e62.d).length : Int)]), (1, vO 0 0 8 0 0), (3, vO 1 0 1 0 0), (4, vO 2 0 1 0 0), (5, .cell (.clos 55 1 (fun i => ([.op 2 0 1 0 0] : List A).getD i (.c .jk)))), (11, vO 4 0 2 0 0), (85, vS e65 a0_6), (86, vI (a0_6.length : Int)), (87, vI y14.1), (91, .cell (.clos 54 1 (fun i => ([.op 1 0 1 0 0] : List A).getD i (.c .jk)))), (94, vI (((a0_6.getD y14.1.toNat e65.d).1).length : Int)), (99, vI ((((a0_6.getD y14.1.toNat e65.d).1).getD (0 : Int).toNat e62.d).length : Int))]) (σ' := [bL 27 [aI a0_0, aI a0_1, aI a0_2, aI a0_3, aS e28 a0_4, aS e72 a0_5, aS e65 a0_6, aS e77 a0_7], bL 28 [.sl 3 1 r20.length], bL 95 [.clos 54 1 (fun i => ([.op 1 0 1 0 0] : List A).getD i (.c .jk))], some (rwB e44 1 44 r20), bL 65 [aS e62 ((a0_6.getD y14.1.toNat e65.d).1), aS e62 ((a0_6.getD y14.1.toNat e65.d).2)]]) (T' := [(101, tupV []), (100, vS e3 [(((a0_6.getD y14.1.toNat e65.d).1).length : Int), ((((a0_6.getD y14.1.toNat e65.d).1).getD (0 : Int).toNat e62.d).length : Int)]), (1, vO 0 0 8 0 0), (3, vO 1 0 1 0 0), (4, vO 2 0 1 0 0), (5, .cell (.clos 55 1 (fun i => ([.op 2 0 1 0 0] : List A).getD i (.c .jk)))), (11, vO 4 0 2 0 0), (85, vS e65 a0_6), (86, vI (a0_6.length : Int)), (87, vI y14.1), (91, .cell (.clos 54 1 (fun i => ([.op 1 0 1 0 0] : List A).getD i (.c .jk)))), (94, vI (((a0_6.getD y14.1.toNat e65.d).1).length : Int)), (99, vI ((((a0_6.getD y14.1.toNat e65.d).1).getD (0 : Int).toNat e62.d).length : Int))]) (by kernel_rfl) Tryd.call54 (w54 L _ _ _ gr20) (by kernel_rfl) (by kernel_rfl) (by kernel_rfl) ⟨by kernel_rfl, by decide, by kernel_rfl, by kernel_rfl, by kernel_rfl, by kernel_rfl, by kernel_rfl, by kernel_rfl, by kernel_rfl, by kernel_rfl, by kernel_rfl, by kernel_rfl⟩ (by kernel_rfl) (by kernel_rfl) (by kernel_rfl) (by kernel_rfl) ?_
           refine jg [(1, vO 0 0 8 0 0), (3, vO 1 0 1 0 0), (4, vO 2 0 1 0 0), (5, .cell (.clos 55 1 (fun i => ([.op 2 0 1 0 0] : List A).getD i (.c .jk)))), (11, vO 4 0 2 0 0), (85, vS e65 a0_6), (86, vI (a0_6.length : Int)), (87, vI y14.1)] 0 [1, 3, 4, 5, 11, 85, 86, 87] ?_
           refine thenQ_n ?_
           refine js ?_
           refine jr ?_
           refine jh [(1, vO 0 0 8 0 0), (3, vO 1 0 1 0 0), (4, vO 2 0 1 0 0), (5, .cell (.clos 55 1 (fun i => ([.op 2 0 1 0 0] : List A).getD i (.c .jk)))), (85, vS e65 a0_6), (86, vI (a0_6.length : Int)), (87, vI y14.1), (103, vS e62 ((a0_6.getD y14.1.toNat e65.d).1)), (105, vS e62 ((a0_6.getD y14.1.toNat e65.d).2))] 4 [1, 3, 4, 5, 85, 86, 87, 103, 105] ?_
           refine WO_q1 (r := .cell (.c (rawC 2 1 [slC e62 ((a0_6.getD y14.1.toNat e65.d).1), slC e62 ((a0_6.getD y14.1.toNat e65.d).2)]))) (r' := vS e63 [(a0_6.getD y14.1.toNat e65.d).1, (a0_6.getD y14.1.toNat e65.d).2]) (d := some 106) (φ := True) (raw_weak e63 (xs := [(a0_6.getD y14.1.toNat e65.d).1, (a0_6.getD y14.1.toNat e65.d).2]) rfl rfl (by kernel_rfl) (by kernel_rfl)) (by kernel_rfl) trivial ?_
           obtain ⟨r21, gr21, h⟩ := bind_some h
           refine jl 107 Tryd.call56 (p56 L _ _ gr21) ?_
           refine jg [(1, vO 0 0 8 0 0), (3, vO 1 0 1 0 0), (4, vO 2 0 1 0 0), (5, .cell (.clos 55 1 (fun i => ([.op 2 0 1 0 0] : List A).getD i (.c .jk)))), (85, vS e65 a0_6), (86, vI (a0_6.length : Int)), (87, vI y14.1), (107, vS e62 r21), (108, vI (r21.length : Int)), (109, vI 0)] 2 [1, 3, 4, 5, 85, 86, 87, 107, 108, 109] ?_
           refine thenQ_n ?_
           refine jb 6 ?_
           obtain ⟨b23, gb23, kb23⟩ := bind_some h
           refine W_loop_at (S := fun (y22 : (Int × (List Int))) => ([bL 27 [aI a0_0, aI a0_1, aI a0_2, aI a0_3, aS e28 a0_4, aS e72 a0_5, aS e65 a0_6, aS e77 a0_7], bL 28 [.sl 3 0 y22.2.length], bL 95 [.clos 54 1 (fun i => ([.op 1 0 1 0 0] : List A).getD i (.c .jk))], some (rwB e44 0 44 y22.2), bL 65 [aS e62 ((a0_6.getD y14.1.toNat e65.d).1), aS e62 ((a0_6.getD y14.1.toNat e65.d).2)]], [(1, vO 0 0 8 0 0), (3, vO 1 0 1 0 0), (4, vO 2 0 1 0 0), (5, .cell (.clos 55 1 (fun i => ([.op 2 0 1 0 0] : List A).getD i (.c .jk)))), (85, vS e65 a0_6), (86, vI (a0_6.length : Int)), (87, vI y14.1), (107, vS e62 r21), (108, vI (r21.length : Int)), (109, vI y22.1)])) (step := _) (x0 := ((0 : Int), r20)) (b := b23) (L.ok _ _ _ gb23) (by kernel_rfl) (jE [.keep [1, 3, 4, 5, 85, 86, 87, 107, 108, 109], .take 5, .ver0 3]) ?_
           clear gb23 h; intro y22 o h; unfold s16_2 at h
           refine js ?_
           refine jr ?_
           refine jg [(1, vO 0 0 8 0 0), (3, vO 1 0 1 0 0), (4, vO 2 0 1 0 0), (5, .cell (.clos 55 1 (fun i => ([.op 2 0 1 0 0] : List A).getD i (.c .jk)))), (85, vS e65 a0_6), (86, vI (a0_6.length : Int)), (87, vI y14.1), (107, vS e62 r21), (108, vI (r21.length : Int)), (109, vI y22.1), (110, vB (decide (y22.1 < (r21.length : Int))))] 1 [1, 3, 4, 5, 85, 86, 87, 107, 108, 109, 110] ?_
           refine thenQ_n ?_
           refine js ?_
           refine jc (decide (y22.1 < (r21.length : Int))) (fun hb => ?_) (fun hb => ?_)
           · have h := cond_t hb h
             refine jk ?_
             refine thenQ_n ?_
             refine js ?_
             refine jb 7 ?_
             refine js ?_
             refine jr ?_
             obtain ⟨c24, h⟩ := ck_bind h
             refine jG [(1, vO 0 0 8 0 0), (3, vO 1 0 1 0 0), (4, vO 2 0 1 0 0), (5, .cell (.clos 55 1 (fun i => ([.op 2 0 1 0 0] : List A).getD i (.c .jk)))), (13, vS e61 (r21.getD y22.1.toNat e62.d)), (85, vS e65 a0_6), (86, vI (a0_6.length : Int)), (87, vI y14.1), (107, vS e62 r21), (108, vI (r21.length : Int)), (109, vI y22.1)] ((0 ≤ y22.1 ∧ y22.1 < (r21.length : Int)) ∧ (True)) 3 [1, 3, 4, 5, 13, 85, 86, 87, 107, 108, 109] ⟨c24, trivial⟩ ?_
             refine thenQ_n ?_
             refine jr ?_
             refine jh [(1, vO 0 0 8 0 0), (3, vO 1 0 1 0 0), (4, vO 2 0 1 0 0), (5, .cell (.clos 55 1 (fun i => ([.op 2 0 1 0 0] : List A).getD i (.c .jk)))), (85, vS e65 a0_6), (86, vI (a0_6.length : Int)), (87, vI y14.1), (107, vS e62 r21), (108, vI (r21.length : Int)), (109, vI y22.1), (113, .cell (.clos 55 1 (fun i => ([.op 2 0 1 0 0] : List A).getD i (.c .jk)))), (114, vS e61 (r21.getD y22.1.toNat e62.d))] 2 [1, 3, 4, 5, 85, 86, 87, 107, 108, 109, 113, 114] ?_
             obtain ⟨r25, gr25, h⟩ := bind_some h
             refine WO_work [2, 1, 3] [0, 0, 0] [0, 0, 1] [1000, 1000, 0] [1, 3, 4, 5, 85, 86, 87, 107, 108, 109, 113, 114] (f := 55) (args := [vS e61 (r21.getD y22.1.toNat e62.d), vO 0 1000 1 0 0]) (all := [vS e61 (r21.getD y22.1.toNat e62.d), vO 2 0 1 0 0]) (d := some 115) (r := tupV []) (σin := [some (.lit 1000 95 [.clos 54 1 (fun i => ([.op 1 1000 1 0 0] : List A).getD i (.c .jk))]), some (.lit 1000 28 [.sl 2 1000 y22.2.length]), some (rwB e44 1000 44 y22.2)]) (σo := [some (.lit 1000 95 [.clos 54 1 (fun i => ([.op 1 1000 1 0 0] : List A).getD i (.c .jk))]), some (.lit 1000 28 [.sl 2 0 r25.length]), some (rwB e44 0 44 r25)]) (n := 3) (T1 := [(1, vO 0 0 8 0 0), (3, vO 1 0 1 0 0), (4, vO 2 0 1 0 0), (5, .cell (.clos 55 1 (fun i => ([.op 2 0 1 0 0] : List A).getD i (.c .jk)))), (85, vS e65 a0_6), (86, vI (a0_6.length : Int)), (87, vI y14.1), (107, vS e62 r21), (108, vI (r21.length : Int)), (109, vI y22.1), (113, .cell (.clos 55 1 (fun i => ([.op 2 0 1 0 0] : List A).getD i (.c .jk)))), (114, vS e61 (r21.getD y22.1.toNat e62.d))]) (σ' := [bL 27 [aI a0_0, aI a0_1, aI a0_2, aI a0_3, aS e28 a0_4, aS e72 a0_5, aS e65 a0_6, aS e77 a0_7], bL 28 [.sl 3 1 r25.length], bL 95 [.clos 54 1 (fun i => ([.op 1 0 1 0 0] : List A).getD i (.c .jk))], some (rwB e44 1 44 r25), bL 65 [aS e62 ((a0_6.getD y14.1.toNat e65.d).1), aS e62 ((a0_6.getD y14.1.toNat e65.d).2)]]) (T' := [(115, tupV []), (1, vO 0 0 8 0 0), (3, vO 1 0 1 0 0), (4, vO 2 0 1 0 0), (5, .cell (.clos 55 1 (fun i => ([.op 2 0 1 0 0] : List A).getD i (.c .jk)))), (85, vS e65 a0_6), (86, vI (a0_6.length : Int)), (87, vI y14.1), (107, vS e62 r21), (108, vI (r21.length : Int)), (109, vI y22.1), (113, .cell (.clos 55 1 (fun i => ([.op 2 0 1 0 0] : List A).getD i (.c .jk)))), (114, vS e61 (r21.getD y22.1.toNat e62.d))]) (by kernel_rfl) Tryd.call55 (w55 L _ _ _ gr25) (by kernel_rfl) (by kernel_rfl) (by kernel_rfl) ⟨by kernel_rfl, by decide, by kernel_rfl, by kernel_rfl, by kernel_rfl, by kernel_rfl, by kernel_rfl, by kernel_rfl, by kernel_rfl, by kernel_rfl, by kernel_rfl, by kernel_rfl⟩ (by kernel_rfl) (by kernel_rfl) (by kernel_rfl) (by kernel_rfl) ?_
             refine jg [(1, vO 0 0 8 0 0), (3, vO 1 0 1 0 0), (4, vO 2 0 1 0 0), (5, .cell (.clos 55 1 (fun i => ([.op 2 0 1 0 0] : List A).getD i (.c .jk)))), (85, vS e65 a0_6), (86, vI (a0_6.length : Int)), (87, vI y14.1), (107, vS e62 r21), (108, vI (r21.length : Int)), (109, vI y22.1)] 0 [1, 3, 4, 5, 85, 86, 87, 107, 108, 109] ?_
             refine blockQ_n ?_
             refine thenQ_n ?_
             refine jr ?_
             obtain ⟨c26, h⟩ := ck_bind h
             refine jG [(1, vO 0 0 8 0 0), (3, vO 1 0 1 0 0), (4, vO 2 0 1 0 0), (5, .cell (.clos 55 1 (fun i => ([.op 2 0 1 0 0] : List A).getD i (.c .jk)))), (85, vS e65 a0_6), (86, vI (a0_6.length : Int)), (87, vI y14.1), (107, vS e62 r21), (108, vI (r21.length : Int)), (109, vI (y22.1 + (1 : Int)))] ((inR .i64 (y22.1 + (1 : Int))) ∧ (True)) 2 [1, 3, 4, 5, 85, 86, 87, 107, 108, 109] ⟨c26, trivial⟩ ?_
             obtain rfl := si h
             exact round_n _ rfl (jE [.keep [1, 3, 4, 5, 85, 86, 87, 107, 108, 109], .take 5, .ver0 3])
           · have h := cond_f hb h
             refine je 6 ?_
             refine thenQ_e ?_
             obtain rfl := si h; refine round_e rfl (fun hb => ?_); subst hb; have h := kb23
             refine blockQ_hit ?_
             refine blockQ_n ?_
             obtain rfl := si h
             exact thenQ_n (jE [.keep [1, 3, 4, 5, 85, 86, 87], .take 4, .ver0 3])
       · have h := cond_f hb h
         refine je 4 ?_
         refine thenQ_e ?_
         obtain rfl := si h; refine round_e rfl (fun hb => ?_); subst hb; have h := kb15
         refine blockQ_hit ?_
         obtain rfl := si h
         exact thenQ_n (jE [.keep [1, 3, 4, 5], .take 4, .ver0 3])
   · have h := gy3; clear gy3 ky3
     refine js ?_
     refine jr ?_
     refine jg [(1, vO 0 0 8 0 0), (3, vO 1 0 1 0 0), (4, vO 2 0 1 0 0), (5, .cell (.clos 55 1 (fun i => ([.op 2 0 1 0 0] : List A).getD i (.c .jk)))), (45, vS e72 a0_5), (46, vI (a0_5.length : Int)), (47, vI 0)] 4 [1, 3, 4, 5, 45, 46, 47] ?_
     refine thenQ_n ?_
     refine jb 0 ?_
     obtain ⟨b28, gb28, kb28⟩ := bind_some h
     refine W_loop_at (S := fun (y27 : (Int × (List Int))) => ([bL 27 [aI a0_0, aI a0_1, aI a0_2, aI a0_3, aS e28 a0_4, aS e72 a0_5, aS e65 a0_6, aS e77 a0_7], bL 28 [.sl 3 0 y27.2.length], bL 95 [.clos 54 1 (fun i => ([.op 1 0 1 0 0] : List A).getD i (.c .jk))], some (rwB e44 0 44 y27.2)], [(1, vO 0 0 8 0 0), (3, vO 1 0 1 0 0), (4, vO 2 0 1 0 0), (5, .cell (.clos 55 1 (fun i => ([.op 2 0 1 0 0] : List A).getD i (.c .jk)))), (45, vS e72 a0_5), (46, vI (a0_5.length : Int)), (47, vI y27.1)])) (step := _) (x0 := ((0 : Int), r2)) (b := b28) (L.ok _ _ _ gb28) (by kernel_rfl) (jE [.keep [1, 3, 4, 5, 45, 46, 47], .take 4, .ver0 3]) ?_
     clear gb28 h; intro y27 o h; unfold s16_3 at h
     refine js ?_
     refine jr ?_
     refine jg [(1, vO 0 0 8 0 0), (3, vO 1 0 1 0 0), (4, vO 2 0 1 0 0), (5, .cell (.clos 55 1 (fun i => ([.op 2 0 1 0 0] : List A).getD i (.c .jk)))), (45, vS e72 a0_5), (46, vI (a0_5.length : Int)), (47, vI y27.1), (48, vB (decide (y27.1 < (a0_5.length : Int))))] 1 [1, 3, 4, 5, 45, 46, 47, 48] ?_
     refine thenQ_n ?_
     refine js ?_
     refine jc (decide (y27.1 < (a0_5.length : Int))) (fun hb => ?_) (fun hb => ?_)
     · have h := cond_t hb h
       refine jk ?_
       refine thenQ_n ?_
       obtain ⟨y29, gy29, ky29⟩ := bind_some h
       refine W_cut (by kernel_rfl) [bL 27 [aI a0_0, aI a0_1, aI a0_2, aI a0_3, aS e28 a0_4, aS e72 a0_5, aS e65 a0_6, aS e77 a0_7], bL 28 [.sl 3 0 y29.length], bL 95 [.clos 54 1 (fun i => ([.op 1 0 1 0 0] : List A).getD i (.c .jk))], some (rwB e44 0 44 y29)] [(1, vO 0 0 8 0 0), (3, vO 1 0 1 0 0), (4, vO 2 0 1 0 0), (5, .cell (.clos 55 1 (fun i => ([.op 2 0 1 0 0] : List A).getD i (.c .jk)))), (45, vS e72 a0_5), (46, vI (a0_5.length : Int)), (47, vI y27.1)] ?_ ?_
       · have h := ky29; clear gy29 ky29
         refine jr ?_
         obtain ⟨c30, h⟩ := ck_bind h
         refine jG [(1, vO 0 0 8 0 0), (3, vO 1 0 1 0 0), (4, vO 2 0 1 0 0), (5, .cell (.clos 55 1 (fun i => ([.op 2 0 1 0 0] : List A).getD i (.c .jk)))), (45, vS e72 a0_5), (46, vI (a0_5.length : Int)), (47, vI (y27.1 + (1 : Int)))] ((inR .i64 (y27.1 + (1 : Int))) ∧ (True)) 2 [1, 3, 4, 5, 45, 46, 47] ⟨c30, trivial⟩ ?_
         obtain rfl := si h
         exact round_n _ rfl (jE [.keep [1, 3, 4, 5, 45, 46, 47], .take 4, .ver0 3])
       · have h := gy29; clear gy29 ky29
         refine jb 1 ?_
         refine js ?_
         refine jr ?_
         obtain ⟨c31, h⟩ := ck_bind h
         refine jF [bL 27 [aI a0_0, aI a0_1, aI a0_2, aI a0_3, aS e28 a0_4, aS e72 a0_5, aS e65 a0_6, aS e77 a0_7], bL 28 [.sl 3 0 y27.2.length], bL 95 [.clos 54 1 (fun i => ([.op 1 0 1 0 0] : List A).getD i (.c .jk))], some (rwB e44 0 44 y27.2), bL 72 [aY ((a0_5.getD y27.1.toNat e72.d).1), aS e74 ((a0_5.getD y27.1.toNat e72.d).2)]] [(1, vO 0 0 8 0 0), (3, vO 1 0 1 0 0), (4, vO 2 0 1 0 0), (5, .cell (.clos 55 1 (fun i => ([.op 2 0 1 0 0] : List A).getD i (.c .jk)))), (7, vO 4 0 2 0 0), (45, vS e72 a0_5), (46, vI (a0_5.length : Int)), (47, vI y27.1)] ((0 ≤ y27.1 ∧ y27.1 < (a0_5.length : Int)) ∧ (True)) 4 [1, 3, 4, 5, 7, 45, 46, 47] ⟨c31, trivial⟩ ?_
         refine thenQ_n ?_
         refine js ?_
         refine jr ?_
         obtain ⟨c32, h⟩ := ck_bind h
         refine jH [(1, vO 0 0 8 0 0), (3, vO 1 0 1 0 0), (4, vO 2 0 1 0 0), (5, .cell (.clos 55 1 (fun i => ([.op 2 0 1 0 0] : List A).getD i (.c .jk)))), (7, vO 4 0 2 0 0), (45, vS e72 a0_5), (46, vI (a0_5.length : Int)), (47, vI y27.1), (51, .cell (.clos 54 1 (fun i => ([.op 1 0 1 0 0] : List A).getD i (.c .jk)))), (54, vI ((a0_5.getD y27.1.toNat e72.d).1)), (57, vI (((a0_5.getD y27.1.toNat e72.d).2).length : Int))] ((inR .i64 ((a0_5.getD y27.1.toNat e72.d).1)) ∧ (True)) 7 [1, 3, 4, 5, 7, 45, 46, 47, 51, 54, 57] ⟨c32, trivial⟩ ?_
         refine WO_q1 (r := .cell (.c (rawC 2 1 [.int .i64 ((a0_5.getD y27.1.toNat e72.d).1), .int .i64 (((a0_5.getD y27.1.toNat e72.d).2).length : Int)]))) (r' := vS e3 [(a0_5.getD y27.1.toNat e72.d).1, (((a0_5.getD y27.1.toNat e72.d).2).length : Int)]) (d := some 58) (φ := True) (raw_weak e3 (xs := [(a0_5.getD y27.1.toNat e72.d).1, (((a0_5.getD y27.1.toNat e72.d).2).length : Int)]) rfl rfl (by kernel_rfl) (by kernel_rfl)) (by kernel_rfl) trivial ?_
         obtain ⟨r33, gr33, h⟩ := bind_some h
         refine WO_work [1, 3] [0, 0] [0, 1] [1000, 0] [58, 1, 3, 4, 5, 7, 45, 46, 47, 51, 54, 57] (f := 54) (args := [vS e3 [(a0_5.getD y27.1.toNat e72.d).1, (((a0_5.getD y27.1.toNat e72.d).2).length : Int)], vO 0 1000 1 0 0]) (all := [vS e3 [(a0_5.getD y27.1.toNat e72.d).1, (((a0_5.getD y27.1.toNat e72.d).2).length : Int)], vO 1 0 1 0 0]) (d := some 59) (r := tupV []) (σin := [some (.lit 1000 28 [.sl 1 1000 y27.2.length]), some (rwB e44 1000 44 y27.2)]) (σo := [some (.lit 1000 28 [.sl 1 0 r33.length]), some (rwB e44 0 44 r33)]) (n := 2) (T1 := [(58, vS e3 [(a0_5.getD y27.1.toNat e72.d).1, (((a0_5.getD y27.1.toNat e72.d).2).length : Int)]), (1, vO 0 0 8 0 0), (3, vO 1 0 1 0 0), (4, vO 2 0 1 0 0), (5, .cell (.clos 55 1 (fun i => ([.op 2 0 1 0 0] : List A).getD i (.c .jk)))), (7, vO 4 0 2 0 0), (45, vS e72 a0_5), (46, vI (a0_5.length : Int)), (47, vI y27.1), (51, .cell (.clos 54 1 (fun i => ([.op 1 0 1 0 0] : List A).getD i (.c .jk)))), (54, vI ((a0_5.getD y27.1.toNat e72.d).1)), (57, vI (((a0_5.getD y27.1.toNat e72.d).2).length : Int))]) (σ' := [bL 27 [aI a0_0, aI a0_1, aI a0_2, aI a0_3, aS e28 a0_4, aS e72 a0_5, aS e65 a0_6, aS e77 a0_7], bL 28 [.sl 3 1 r33.length], bL 95 [.clos 54 1 (fun i => ([.op 1 0 1 0 0] : List A).getD i (.c .jk))], some (rwB e44 1 44 r33), bL 72 [aY ((a0_5.getD y27.1.toNat e72.d).1), aS e74 ((a0_5.getD y27.1.toNat e72.d).2)]]) (T' := [(59, tupV []), (58, vS e3 [(a0_5.getD y27.1.toNat e72.d).1, (((a0_5.getD y27.1.toNat e72.d).2).length : Int)]), (1, vO 0 0 8 0 0), (3, vO 1 0 1 0 0), (4, vO 2 0 1 0 0), (5, .cell (.clos 55 1 (fun i => ([.op 2 0 1 0 0] : List A).getD i (.c .jk)))), (7, vO 4 0 2 0 0), (45, vS e72 a0_5), (46, vI (a0_5.length : Int)), (47, vI y27.1), (51, .cell (.clos 54 1 (fun i => ([.op 1 0 1 0 0] : List A).getD i (.c .jk)))), (54, vI ((a0_5.getD y27.1.toNat e72.d).1)), (57, vI (((a0_5.getD y27.1.toNat e72.d).2).length : Int))]) (by kernel_rfl) Tryd.call54 (w54 L _ _ _ gr33) (by kernel_rfl) (by kernel_rfl) (by kernel_rfl) ⟨by kernel_rfl, by decide, by kernel_rfl, by kernel_rfl, by kernel_rfl, by kernel_rfl, by kernel_rfl, by kernel_rfl, by kernel_rfl, by kernel_rfl, by kernel_rfl, by kernel_rfl⟩ (by kernel_rfl) (by kernel_rfl) (by kernel_rfl) (by kernel_rfl) ?_
         refine jg [(1, vO 0 0 8 0 0), (3, vO 1 0 1 0 0), (4, vO 2 0 1 0 0), (5, .cell (.clos 55 1 (fun i => ([.op 2 0 1 0 0] : List A).getD i (.c .jk)))), (7, vO 4 0 2 0 0), (45, vS e72 a0_5), (46, vI (a0_5.length : Int)), (47, vI y27.1)] 0 [1, 3, 4, 5, 7, 45, 46, 47] ?_
         refine thenQ_n ?_
         refine js ?_
         refine jr ?_
         refine jg [(1, vO 0 0 8 0 0), (3, vO 1 0 1 0 0), (4, vO 2 0 1 0 0), (5, .cell (.clos 55 1 (fun i => ([.op 2 0 1 0 0] : List A).getD i (.c .jk)))), (45, vS e72 a0_5), (46, vI (a0_5.length : Int)), (47, vI y27.1), (61, vS e74 ((a0_5.getD y27.1.toNat e72.d).2)), (62, vI (((a0_5.getD y27.1.toNat e72.d).2).length : Int)), (63, vI 0)] 4 [1, 3, 4, 5, 45, 46, 47, 61, 62, 63] ?_
         refine thenQ_n ?_
         refine jb 2 ?_
         obtain ⟨b35, gb35, kb35⟩ := bind_some h
         refine W_loop_at (S := fun (y34 : (Int × (List Int))) => ([bL 27 [aI a0_0, aI a0_1, aI a0_2, aI a0_3, aS e28 a0_4, aS e72 a0_5, aS e65 a0_6, aS e77 a0_7], bL 28 [.sl 3 0 y34.2.length], bL 95 [.clos 54 1 (fun i => ([.op 1 0 1 0 0] : List A).getD i (.c .jk))], some (rwB e44 0 44 y34.2), bL 72 [aY ((a0_5.getD y27.1.toNat e72.d).1), aS e74 ((a0_5.getD y27.1.toNat e72.d).2)]], [(1, vO 0 0 8 0 0), (3, vO 1 0 1 0 0), (4, vO 2 0 1 0 0), (5, .cell (.clos 55 1 (fun i => ([.op 2 0 1 0 0] : List A).getD i (.c .jk)))), (45, vS e72 a0_5), (46, vI (a0_5.length : Int)), (47, vI y27.1), (61, vS e74 ((a0_5.getD y27.1.toNat e72.d).2)), (62, vI (((a0_5.getD y27.1.toNat e72.d).2).length : Int)), (63, vI y34.1)])) (step := _) (x0 := ((0 : Int), r33)) (b := b35) (L.ok _ _ _ gb35) (by kernel_rfl) (jE [.keep [1, 3, 4, 5, 45, 46, 47, 61, 62, 63], .take 5, .ver0 3]) ?_
         clear gb35 h; intro y34 o h; unfold s16_4 at h
         refine js ?_
         refine jr ?_
         refine jg [(1, vO 0 0 8 0 0), (3, vO 1 0 1 0 0), (4, vO 2 0 1 0 0), (5, .cell (.clos 55 1 (fun i => ([.op 2 0 1 0 0] : List A).getD i (.c .jk)))), (45, vS e72 a0_5), (46, vI (a0_5.length : Int)), (47, vI y27.1), (61, vS e74 ((a0_5.getD y27.1.toNat e72.d).2)), (62, vI (((a0_5.getD y27.1.toNat e72.d).2).length : Int)), (63, vI y34.1), (64, vB (decide (y34.1 < (((a0_5.getD y27.1.toNat e72.d).2).length : Int))))] 1 [1, 3, 4, 5, 45, 46, 47, 61, 62, 63, 64] ?_
         refine thenQ_n ?_
         refine js ?_
         refine jc (decide (y34.1 < (((a0_5.getD y27.1.toNat e72.d).2).length : Int))) (fun hb => ?_) (fun hb => ?_)
         · have h := cond_t hb h
           refine jk ?_
           refine thenQ_n ?_
           refine js ?_
           refine jb 3 ?_
           refine js ?_
           refine jr ?_
           obtain ⟨c36, h⟩ := ck_bind h
           refine jF [bL 27 [aI a0_0, aI a0_1, aI a0_2, aI a0_3, aS e28 a0_4, aS e72 a0_5, aS e65 a0_6, aS e77 a0_7], bL 28 [.sl 3 0 y34.2.length], bL 95 [.clos 54 1 (fun i => ([.op 1 0 1 0 0] : List A).getD i (.c .jk))], some (rwB e44 0 44 y34.2), bL 72 [aY ((a0_5.getD y27.1.toNat e72.d).1), aS e74 ((a0_5.getD y27.1.toNat e72.d).2)], bL 74 [aU ((((a0_5.getD y27.1.toNat e72.d).2).getD y34.1.toNat e74.d).1), aS e61 ((((a0_5.getD y27.1.toNat e72.d).2).getD y34.1.toNat e74.d).2)]] [(1, vO 0 0 8 0 0), (3, vO 1 0 1 0 0), (4, vO 2 0 1 0 0), (5, .cell (.clos 55 1 (fun i => ([.op 2 0 1 0 0] : List A).getD i (.c .jk)))), (9, vO 5 0 2 0 0), (45, vS e72 a0_5), (46, vI (a0_5.length : Int)), (47, vI y27.1), (61, vS e74 ((a0_5.getD y27.1.toNat e72.d).2)), (62, vI (((a0_5.getD y27.1.toNat e72.d).2).length : Int)), (63, vI y34.1)] ((0 ≤ y34.1 ∧ y34.1 < (((a0_5.getD y27.1.toNat e72.d).2).length : Int)) ∧ (True)) 4 [1, 3, 4, 5, 9, 45, 46, 47, 61, 62, 63] ⟨c36, trivial⟩ ?_
           refine thenQ_n ?_
           refine js ?_
           refine jr ?_
           refine jh [(1, vO 0 0 8 0 0), (3, vO 1 0 1 0 0), (4, vO 2 0 1 0 0), (5, .cell (.clos 55 1 (fun i => ([.op 2 0 1 0 0] : List A).getD i (.c .jk)))), (9, vO 5 0 2 0 0), (45, vS e72 a0_5), (46, vI (a0_5.length : Int)), (47, vI y27.1), (61, vS e74 ((a0_5.getD y27.1.toNat e72.d).2)), (62, vI (((a0_5.getD y27.1.toNat e72.d).2).length : Int)), (63, vI y34.1), (67, vW 3 0 y34.2.length), (69, vU ((((a0_5.getD y27.1.toNat e72.d).2).getD y34.1.toNat e74.d).1))] 3 [1, 3, 4, 5, 9, 45, 46, 47, 61, 62, 63, 67, 69] ?_
           refine WO_q1 (r := .cell (.c (rawC 1 1 [.int .u64 ((((a0_5.getD y27.1.toNat e72.d).2).getD y34.1.toNat e74.d).1)]))) (r' := vS e44 [(((a0_5.getD y27.1.toNat e72.d).2).getD y34.1.toNat e74.d).1]) (d := some 70) (φ := True) (raw_weak e44 (xs := [(((a0_5.getD y27.1.toNat e72.d).2).getD y34.1.toNat e74.d).1]) rfl rfl (by kernel_rfl) (by kernel_rfl)) (by kernel_rfl) trivial ?_
           obtain ⟨c37, h⟩ := ck_bind h
           refine WO_app e44 y34.2 [(((a0_5.getD y27.1.toNat e72.d).2).getD y34.1.toNat e74.d).1] (b := 3) (ver := 0) (e := 44) (d := 71) (row2 := fun i j => (e44.row ([(((a0_5.getD y27.1.toNat e72.d).2).getD y34.1.toNat e74.d).1].getD i e44.d)).getD j .jk) (Φ := (0 = 0 ∧ (y34.2.length + [(((a0_5.getD y27.1.toNat e72.d).2).getD y34.1.toNat e74.d).1].length) * 8 ≤ 140737488355328 ∧ y34.2.length + [(((a0_5.getD y27.1.toNat e72.d).2).getD y34.1.toNat e74.d).1].length ≤ 140737488355328) ∧ True) (σ' := [bL 27 [aI a0_0, aI a0_1, aI a0_2, aI a0_3, aS e28 a0_4, aS e72 a0_5, aS e65 a0_6, aS e77 a0_7], bL 28 [.sl 3 0 y34.2.length], bL 95 [.clos 54 1 (fun i => ([.op 1 0 1 0 0] : List A).getD i (.c .jk))], some (rwB e44 1 44 (y34.2 ++ [(((a0_5.getD y27.1.toNat e72.d).2).getD y34.1.toNat e74.d).1])), bL 72 [aY ((a0_5.getD y27.1.toNat e72.d).1), aS e74 ((a0_5.getD y27.1.toNat e72.d).2)], bL 74 [aU ((((a0_5.getD y27.1.toNat e72.d).2).getD y34.1.toNat e74.d).1), aS e61 ((((a0_5.getD y27.1.toNat e72.d).2).getD y34.1.toNat e74.d).2)]]) (T' := [(71, vW 3 1 ((y34.2 ++ [(((a0_5.getD y27.1.toNat e72.d).2).getD y34.1.toNat e74.d).1]).length)), (70, vS e44 [(((a0_5.getD y27.1.toNat e72.d).2).getD y34.1.toNat e74.d).1]), (1, vO 0 0 8 0 0), (3, vO 1 0 1 0 0), (4, vO 2 0 1 0 0), (5, .cell (.clos 55 1 (fun i => ([.op 2 0 1 0 0] : List A).getD i (.c .jk)))), (9, vO 5 0 2 0 0), (45, vS e72 a0_5), (46, vI (a0_5.length : Int)), (47, vI y27.1), (61, vS e74 ((a0_5.getD y27.1.toNat e72.d).2)), (62, vI (((a0_5.getD y27.1.toNat e72.d).2).length : Int)), (63, vI y34.1), (67, vW 3 0 y34.2.length), (69, vU ((((a0_5.getD y27.1.toNat e72.d).2).getD y34.1.toNat e74.d).1))]) (by kernel_rfl) ⟨⟨rfl, c37⟩, trivial⟩ (Nat.le_of_ble_eq_true (by kernel_rfl)) (fun _ _ _ _ => rfl) (by kernel_rfl) (by kernel_rfl) ?_
           refine jf [bL 27 [aI a0_0, aI a0_1, aI a0_2, aI a0_3, aS e28 a0_4, aS e72 a0_5, aS e65 a0_6, aS e77 a0_7], bL 28 [.sl 3 1 ((y34.2 ++ [(((a0_5.getD y27.1.toNat e72.d).2).getD y34.1.toNat e74.d).1]).length)], bL 95 [.clos 54 1 (fun i => ([.op 1 0 1 0 0] : List A).getD i (.c .jk))], some (rwB e44 1 44 (y34.2 ++ [(((a0_5.getD y27.1.toNat e72.d).2).getD y34.1.toNat e74.d).1])), bL 72 [aY ((a0_5.getD y27.1.toNat e72.d).1), aS e74 ((a0_5.getD y27.1.toNat e72.d).2)], bL 74 [aU ((((a0_5.getD y27.1.toNat e72.d).2).getD y34.1.toNat e74.d).1), aS e61 ((((a0_5.getD y27.1.toNat e72.d).2).getD y34.1.toNat e74.d).2)]] [(1, vO 0 0 8 0 0), (3, vO 1 0 1 0 0), (4, vO 2 0 1 0 0), (5, .cell (.clos 55 1 (fun i => ([.op 2 0 1 0 0] : List A).getD i (.c .jk)))), (9, vO 5 0 2 0 0), (45, vS e72 a0_5), (46, vI (a0_5.length : Int)), (47, vI y27.1), (61, vS e74 ((a0_5.getD y27.1.toNat e72.d).2)), (62, vI (((a0_5.getD y27.1.toNat e72.d).2).length : Int)), (63, vI y34.1)] 1 [1, 3, 4, 5, 9, 45, 46, 47, 61, 62, 63] ?_
           refine thenQ_n ?_
           refine js ?_
           refine jr ?_
           refine jh [(1, vO 0 0 8 0 0), (3, vO 1 0 1 0 0), (4, vO 2 0 1 0 0), (5, .cell (.clos 55 1 (fun i => ([.op 2 0 1 0 0] : List A).getD i (.c .jk)))), (9, vO 5 0 2 0 0), (45, vS e72 a0_5), (46, vI (a0_5.length : Int)), (47, vI y27.1), (61, vS e74 ((a0_5.getD y27.1.toNat e72.d).2)), (62, vI (((a0_5.getD y27.1.toNat e72.d).2).length : Int)), (63, vI y34.1), (72, .cell (.clos 54 1 (fun i => ([.op 1 0 1 0 0] : List A).getD i (.c .jk)))), (75, vI (((((a0_5.getD y27.1.toNat e72.d).2).getD y34.1.toNat e74.d).2).length : Int))] 4 [1, 3, 4, 5, 9, 45, 46, 47, 61, 62, 63, 72, 75] ?_
           refine WO_q1 (r := .cell (.c (rawC 1 1 [.int .i64 (((((a0_5.getD y27.1.toNat e72.d).2).getD y34.1.toNat e74.d).2).length : Int)]))) (r' := vS e3 [(((((a0_5.getD y27.1.toNat e72.d).2).getD y34.1.toNat e74.d).2).length : Int)]) (d := some 76) (φ := True) (raw_weak e3 (xs := [(((((a0_5.getD y27.1.toNat e72.d).2).getD y34.1.toNat e74.d).2).length : Int)]) rfl rfl (by kernel_rfl) (by kernel_rfl)) (by kernel_rfl) trivial ?_
           obtain ⟨r38, gr38, h⟩ := bind_some h
           refine WO_work [1, 3] [0, 1] [0, 2] [1000, 0] [76, 1, 3, 4, 5, 9, 45, 46, 47, 61, 62, 63, 72, 75] (f := 54) (args := [vS e3 [(((((a0_5.getD y27.1.toNat e72.d).2).getD y34.1.toNat e74.d).2).length : Int)], vO 0 1000 1 0 0]) (all := [vS e3 [(((((a0_5.getD y27.1.toNat e72.d).2).getD y34.1.toNat e74.d).2).length : Int)], vO 1 0 1 0 0]) (d := some 77) (r := tupV []) (σin := [some (.lit 1000 28 [.sl 1 1000 ((y34.2 ++ [(((a0_5.getD y27.1.toNat e72.d).2).getD y34.1.toNat e74.d).1]).length)]), some (rwB e44 1000 44 (y34.2 ++ [(((a0_5.getD y27.1.toNat e72.d).2).getD y34.1.toNat e74.d).1]))]) (σo := [some (.lit 1000 28 [.sl 1 0 r38.length]), some (rwB e44 0 44 r38)]) (n := 2) (T1 := [(76, vS e3 [(((((a0_5.getD y27.1.toNat e72.d).2).getD y34.1.toNat e74.d).2).length : Int)]), (1, vO 0 0 8 0 0), (3, vO 1 0 1 0 0), (4, vO 2 0 1 0 0), (5, .cell (.clos 55 1 (fun i => ([.op 2 0 1 0 0] : List A).getD i (.c .jk)))), (9, vO 5 0 2 0 0), (45, vS e72 a0_5), (46, vI (a0_5.length : Int)), (47, vI y27.1), (61, vS e74 ((a0_5.getD y27.1.toNat e72.d).2)), (62, vI (((a0_5.getD y27.1.toNat e72.d).2).length : Int)), (63, vI y34.1), (72, .cell (.clos 54 1 (fun i => ([.op 1 0 1 0 0] : List A).getD i (.c .jk)))), (75, vI (((((a0_5.getD y27.1.toNat e72.d).2).getD y34.1.toNat e74.d).2).length : Int))]) (σ' := [bL 27 [aI a0_0, aI a0_1, aI a0_2, aI a0_3, aS e28 a0_4, aS e72 a0_5, aS e65 a0_6, aS e77 a0_7], bL 28 [.sl 3 2 r38.length], bL 95 [.clos 54 1 (fun i => ([.op 1 0 1 0 0] : List A).getD i (.c .jk))], some (rwB e44 2 44 r38), bL 72 [aY ((a0_5.getD y27.1.toNat e72.d).1), aS e74 ((a0_5.getD y27.1.toNat e72.d).2)], bL 74 [aU ((((a0_5.getD y27.1.toNat e72.d).2).getD y34.1.toNat e74.d).1), aS e61 ((((a0_5.getD y27.1.toNat e72.d).2).getD y34.1.toNat e74.d).2)]]) (T' := [(77, tupV []), (76, vS e3 [(((((a0_5.getD y27.1.toNat e72.d).2).getD y34.1.toNat e74.d).2).length : Int)]), (1, vO 0 0 8 0 0), (3, vO 1 0 1 0 0), (4, vO 2 0 1 0 0), (5, .cell (.clos 55 1 (fun i => ([.op 2 0 1 0 0] : List A).getD i (.c .jk)))), (9, vO 5 0 2 0 0), (45, vS e72 a0_5), (46, vI (a0_5.length : Int)), (47, vI y27.1), (61, vS e74 ((a0_5.getD y27.1.toNat e72.d).2)), (62, vI (((a0_5.getD y27.1.toNat e72.d).2).length : Int)), (63, vI y34.1), (72, .cell (.clos 54 1 (fun i => ([.op 1 0 1 0 0] : List A).getD i (.c .jk)))), (75, vI (((((a0_5.getD y27.1.toNat e72.d).2).getD y34.1.toNat e74.d).2).length : Int))]) (by kernel_rfl) Tryd.call54 (w54 L _ _ _ gr38) (by kernel_rfl) (by kernel_rfl) (by kernel_rfl) ⟨by kernel_rfl, by decide, by kernel_rfl, by kernel_rfl, by kernel_rfl, by kernel_rfl, by kernel_rfl, by kernel_rfl, by kernel_rfl, by kernel_rfl, by kernel_rfl, by kernel_rfl⟩ (by kernel_rfl) (by kernel_rfl) (by kernel_rfl) (by kernel_rfl) ?_
           refine jg [(1, vO 0 0 8 0 0), (3, vO 1 0 1 0 0), (4, vO 2 0 1 0 0), (5, .cell (.clos 55 1 (fun i => ([.op 2 0 1 0 0] : List A).getD i (.c .jk)))), (9, vO 5 0 2 0 0), (45, vS e72 a0_5), (46, vI (a0_5.length : Int)), (47, vI y27.1), (61, vS e74 ((a0_5.getD y27.1.toNat e72.d).2)), (62, vI (((a0_5.getD y27.1.toNat e72.d).2).length : Int)), (63, vI y34.1)] 0 [1, 3, 4, 5, 9, 45, 46, 47, 61, 62, 63] ?_
           refine thenQ_n ?_
           refine jr ?_
           refine jh [(1, vO 0 0 8 0 0), (3, vO 1 0 1 0 0), (4, vO 2 0 1 0 0), (5, .cell (.clos 55 1 (fun i => ([.op 2 0 1 0 0] : List A).getD i (.c .jk)))), (45, vS e72 a0_5), (46, vI (a0_5.length : Int)), (47, vI y27.1), (61, vS e74 ((a0_5.getD y27.1.toNat e72.d).2)), (62, vI (((a0_5.getD y27.1.toNat e72.d).2).length : Int)), (63, vI y34.1), (78, .cell (.clos 55 1 (fun i => ([.op 2 0 1 0 0] : List A).getD i (.c .jk)))), (80, vS e61 ((((a0_5.getD y27.1.toNat e72.d).2).getD y34.1.toNat e74.d).2))] 3 [1, 3, 4, 5, 45, 46, 47, 61, 62, 63, 78, 80] ?_
           obtain ⟨r39, gr39, h⟩ := bind_some h
           refine WO_work [2, 1, 3] [0, 0, 2] [0, 0, 3] [1000, 1000, 0] [1, 3, 4, 5, 45, 46, 47, 61, 62, 63, 78, 80] (f := 55) (args := [vS e61 ((((a0_5.getD y27.1.toNat e72.d).2).getD y34.1.toNat e74.d).2), vO 0 1000 1 0 0]) (all := [vS e61 ((((a0_5.getD y27.1.toNat e72.d).2).getD y34.1.toNat e74.d).2), vO 2 0 1 0 0]) (d := some 81) (r := tupV []) (σin := [some (.lit 1000 95 [.clos 54 1 (fun i => ([.op 1 1000 1 0 0] : List A).getD i (.c .jk))]), some (.lit 1000 28 [.sl 2 1000 r38.length]), some (rwB e44 1000 44 r38)]) (σo := [some (.lit 1000 95 [.clos 54 1 (fun i => ([.op 1 1000 1 0 0] : List A).getD i (.c .jk))]), some (.lit 1000 28 [.sl 2 0 r39.length]), some (rwB e44 0 44 r39)]) (n := 3) (T1 := [(1, vO 0 0 8 0 0), (3, vO 1 0 1 0 0), (4, vO 2 0 1 0 0), (5, .cell (.clos 55 1 (fun i => ([.op 2 0 1 0 0] : List A).getD i (.c .jk)))), (45, vS e72 a0_5), (46, vI (a0_5.length : Int)), (47, vI y27.1), (61, vS e74 ((a0_5.getD y27.1.toNat e72.d).2)), (62, vI (((a0_5.getD y27.1.toNat e72.d).2).length : Int)), (63, vI y34.1), (78, .cell (.clos 55 1 (fun i => ([.op 2 0 1 0 0] : List A).getD i (.c .jk)))), (80, vS e61 ((((a0_5.getD y27.1.toNat e72.d).2).getD y34.1.toNat e74.d).2))]) (σ' := [bL 27 [aI a0_0, aI a0_1, aI a0_2, aI a0_3, aS e28 a0_4, aS e72 a0_5, aS e65 a0_6, aS e77 a0_7], bL 28 [.sl 3 3 r39.length], bL 95 [.clos 54 1 (fun i => ([.op 1 0 1 0 0] : List A).getD i (.c .jk))], some (rwB e44 3 44 r39), bL 72 [aY ((a0_5.getD y27.1.toNat e72.d).1), aS e74 ((a0_5.getD y27.1.toNat e72.d).2)], bL 74 [aU ((((a0_5.getD y27.1.toNat e72.d).2).getD y34.1.toNat e74.d).1), aS e61 ((((a0_5.getD y27.1.toNat e72.d).2).getD y34.1.toNat e74.d).2)]]) (T' := [(81, tupV []), (1, vO 0 0 8 0 0), (3, vO 1 0 1 0 0), (4, vO 2 0 1 0 0), (5, .cell (.clos 55 1 (fun i => ([.op 2 0 1 0 0] : List A).getD i (.c .jk)))), (45, vS e72 a0_5), (46, vI (a0_5.length : Int)), (47, vI y27.1), (61, vS e74 ((a0_5.getD y27.1.toNat e72.d).2)), (62, vI (((a0_5.getD y27.1.toNat e72.d).2).length : Int)), (63, vI y34.1), (78, .cell (.clos 55 1 (fun i => ([.op 2 0 1 0 0] : List A).getD i (.c .jk)))), (80, vS e61 ((((a0_5.getD y27.1.toNat e72.d).2).getD y34.1.toNat e74.d).2))]) (by kernel_rfl) Tryd.call55 (w55 L _ _ _ gr39) (by kernel_rfl) (by kernel_rfl) (by kernel_rfl) ⟨by kernel_rfl, by decide, by kernel_rfl, by kernel_rfl, by kernel_rfl, by kernel_rfl, by kernel_rfl, by kernel_rfl, by kernel_rfl, by kernel_rfl, by kernel_rfl, by kernel_rfl⟩ (by kernel_rfl) (by kernel_rfl) (by kernel_rfl) (by kernel_rfl) ?_
           refine jg [(1, vO 0 0 8 0 0), (3, vO 1 0 1 0 0), (4, vO 2 0 1 0 0), (5, .cell (.clos 55 1 (fun i => ([.op 2 0 1 0 0] : List A).getD i (.c .jk)))), (45, vS e72 a0_5), (46, vI (a0_5.length : Int)), (47, vI y27.1), (61, vS e74 ((a0_5.getD y27.1.toNat e72.d).2)), (62, vI (((a0_5.getD y27.1.toNat e72.d).2).length : Int)), (63, vI y34.1)] 0 [1, 3, 4, 5, 45, 46, 47, 61, 62, 63] ?_
           refine blockQ_n ?_
           refine thenQ_n ?_
           refine jr ?_
           obtain ⟨c40, h⟩ := ck_bind h
           refine jG [(1, vO 0 0 8 0 0), (3, vO 1 0 1 0 0), (4, vO 2 0 1 0 0), (5, .cell (.clos 55 1 (fun i => ([.op 2 0 1 0 0] : List A).getD i (.c .jk)))), (45, vS e72 a0_5), (46, vI (a0_5.length : Int)), (47, vI y27.1), (61, vS e74 ((a0_5.getD y27.1.toNat e72.d).2)), (62, vI (((a0_5.getD y27.1.toNat e72.d).2).length : Int)), (63, vI (y34.1 + (1 : Int)))] ((inR .i64 (y34.1 + (1 : Int))) ∧ (True)) 2 [1, 3, 4, 5, 45, 46, 47, 61, 62, 63] ⟨c40, trivial⟩ ?_
           obtain rfl := si h
           exact round_n _ rfl (jE [.keep [1, 3, 4, 5, 45, 46, 47, 61, 62, 63], .take 5, .ver0 3])
         · have h := cond_f hb h
           refine je 2 ?_
           refine thenQ_e ?_
           obtain rfl := si h; refine round_e rfl (fun hb => ?_); subst hb; have h := kb35
           refine blockQ_hit ?_
           refine blockQ_n ?_
           obtain rfl := si h
           exact thenQ_n (jE [.keep [1, 3, 4, 5, 45, 46, 47], .take 4, .ver0 3])
     · have h := cond_f hb h
       refine je 0 ?_
       refine thenQ_e ?_
       obtain rfl := si h; refine round_e rfl (fun hb => ?_); subst hb; have h := kb28
       refine blockQ_hit ?_
       obtain rfl := si h
       exact thenQ_n (jE [.keep [1, 3, 4, 5], .take 4, .ver0 3])

/- attestorref12.SameVars -/
def s104_0 (L : LP) (a0 : (List (Int × Int))) (a1 : (List (Int × Int))) (y3 : Int) : Option (Int ⊕ (Bool ⊕ Unit)) :=
  (bif (decide (y3 < (a0.length : Int))) then
  (ck (0 ≤ y3 ∧ y3 < (a0.length : Int))).bind fun _ =>
  (ck (0 ≤ y3 ∧ y3 < (a1.length : Int))).bind fun _ =>
  (bif (!(decide ((a0.getD y3.toNat e61.d).1 = (a1.getD y3.toNat e61.d).1) && (decide ((a0.getD y3.toNat e61.d).2 = (a1.getD y3.toNat e61.d).2) && true))) then
  some (.inr (.inl false))
  else (ck (inR .i64 (y3 + (1 : Int)))).bind fun _ =>
  some (.inl (y3 + (1 : Int))))
  else some (.inr (.inr ())))
def s104 (L : LP) (a0 : (List (Int × Int))) (a1 : (List (Int × Int))) : Option Bool :=
  (bif (!(decide ((a0.length : Int) = (a1.length : Int)))) then
  some false
  else ((L.run (s104_0 L a0 a1) (0 : Int)).bind (fun (b : Bool ⊕ Unit) => (match b with
  | .inl v => some (.inr v)
  | .inr v => some (.inl ())))).bind fun (y1 : Unit ⊕ Bool) => (match y1 with
  | .inl v2 => some true
  | .inr v2 => some v2))
theorem p104 (L : LP) (a0 : (List (Int × Int))) (a1 : (List (Int × Int))) (r : Bool) (h : s104 L a0 a1 = some r) : Pure X 104 [vS e61 a0, vS e61 a1] (vB r) := by
 refine Pure_of_W (c := cd Tryd.f104 []) Tryd.func104 (by kernel_rfl) (N := 26) (by kernel_rfl) (Nat.le_of_ble_eq_true (by kernel_rfl)) ?_
 unfold s104 at h
 refine js ?_
 refine jr ?_
 refine jg [(0, vS e61 a0), (1, vS e61 a1)] 1 [0, 1] ?_
 refine thenQ_n ?_
 refine js ?_
 refine js ?_
 refine jr ?_
 refine jg [(0, vS e61 a0), (1, vS e61 a1), (10, vB (!(decide ((a0.length : Int) = (a1.length : Int)))))] 5 [0, 1, 10] ?_
 refine thenQ_n ?_
 refine jc (!(decide ((a0.length : Int) = (a1.length : Int)))) (fun hb => ?_) (fun hb => ?_)
 · have h := cond_t hb h
   refine js ?_
   refine jr ?_
   refine jg [(4, vB false)] 1 [4] ?_
   refine thenQ_n ?_
   refine jt ?_
   refine thenQ_r ?_
   obtain rfl := si h
   exact jq [vB false]
 · have h := cond_f hb h
   refine jk ?_
   refine thenQ_n ?_
   obtain ⟨y1, gy1, ky1⟩ := bind_some h
   refine W_cutE (by kernel_rfl) (fun v2 => y1 = .inl v2) (fun v2 => ([], [])) ?_ ?_
   · intro v2 hv; subst hv; have h := ky1; clear gy1 ky1; dsimp only at h
     refine js ?_
     refine jr ?_
     refine jg [(4, vB true)] 1 [4] ?_
     refine thenQ_n ?_
     refine jt ?_
     obtain rfl := si h
     exact jq [vB true]
   · have h := gy1; clear gy1
     refine js ?_
     refine jr ?_
     refine jg [(0, vS e61 a0), (1, vS e61 a1), (5, vI 0)] 1 [0, 1, 5] ?_
     refine thenQ_n ?_
     refine jb 0 ?_
     obtain ⟨b4, gb4, kb4⟩ := bind_some h
     refine W_loop_at (S := fun (y3 : Int) => ([], [(0, vS e61 a0), (1, vS e61 a1), (5, vI y3)])) (step := _) (x0 := (0 : Int)) (b := b4) (L.ok _ _ _ gb4) (by kernel_rfl) (jE [.keep [0, 1, 5], .take 0]) ?_
     clear gb4 h; intro y3 o h; unfold s104_0 at h
     refine js ?_
     refine js ?_
     refine jr ?_
     refine jg [(0, vS e61 a0), (1, vS e61 a1), (5, vI y3), (14, vB (decide (y3 < (a0.length : Int))))] 4 [0, 1, 5, 14] ?_
     refine thenQ_n ?_
     refine jc (decide (y3 < (a0.length : Int))) (fun hb => ?_) (fun hb => ?_)
     · have h := cond_t hb h
       refine jk ?_
       refine thenQ_n ?_
       refine js ?_
       refine jb 1 ?_
       refine js ?_
       refine jdr 8 mixed ?_
       obtain ⟨c5, h⟩ := ck_bind h
       obtain ⟨c6, h⟩ := ck_bind h
       refine jY 0 [(0, vS e61 a0), (1, vS e61 a1), (5, vI y3), (20, .agg [aY ((a0.getD y3.toNat e61.d).1), aI ((a0.getD y3.toNat e61.d).2)]), (24, .agg [aY ((a1.getD y3.toNat e61.d).1), aI ((a1.getD y3.toNat e61.d).2)])] ((0 ≤ y3 ∧ y3 < (a0.length : Int)) ∧ (0 ≤ y3 ∧ y3 < (a1.length : Int)) ∧ (True)) 8 [0, 1, 5, 20, 24] ⟨c5, c6, trivial⟩ ?_
       refine WQ_done ?_
       refine jg [(0, vS e61 a0), (1, vS e61 a1), (5, vI y3), (25, vB (!(decide ((a0.getD y3.toNat e61.d).1 = (a1.getD y3.toNat e61.d).1) && (decide ((a0.getD y3.toNat e61.d).2 = (a1.getD y3.toNat e61.d).2) && true))))] 1 [0, 1, 5, 25] ?_
       refine thenQ_n ?_
       refine jc (!(decide ((a0.getD y3.toNat e61.d).1 = (a1.getD y3.toNat e61.d).1) && (decide ((a0.getD y3.toNat e61.d).2 = (a1.getD y3.toNat e61.d).2) && true))) (fun hb => ?_) (fun hb => ?_)
       · have h := cond_t hb h
         refine js ?_
         refine jr ?_
         refine jg [(4, vB false)] 1 [4] ?_
         refine thenQ_n ?_
         refine jt ?_
         refine blockQ_r ?_
         refine thenQ_r ?_
         obtain rfl := si h; refine round_r rfl (fun hb => ?_); subst hb; have h := kb4; dsimp only at h
         refine blockQ_r ?_
         obtain rfl := si h; have h := ky1; dsimp only at h; refine thenQ_r ?_
         obtain rfl := si h
         exact jq [vB false]
       · have h := cond_f hb h
         refine jk ?_
         refine blockQ_n ?_
         refine thenQ_n ?_
         refine jr ?_
         obtain ⟨c7, h⟩ := ck_bind h
         refine jG [(0, vS e61 a0), (1, vS e61 a1), (5, vI (y3 + (1 : Int)))] ((inR .i64 (y3 + (1 : Int))) ∧ (True)) 3 [0, 1, 5] ⟨c7, trivial⟩ ?_
         obtain rfl := si h
         exact round_n _ rfl (jE [.keep [0, 1, 5], .take 0])
     · have h := cond_f hb h
       refine je 0 ?_
       refine thenQ_e ?_
       obtain rfl := si h; refine round_e rfl (fun hb => ?_); subst hb; have h := kb4; dsimp only at h
       refine blockQ_hit ?_
       obtain rfl := si h
       exact thenQ_n ⟨_, rfl, jE [.keep [], .take 0]⟩

end Go.Proofs.YtkbpafipbhaknaaDoor
