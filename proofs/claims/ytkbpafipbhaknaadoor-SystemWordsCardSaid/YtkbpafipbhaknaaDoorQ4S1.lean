/- What functions compute. -/
import Derived.Test.YtkbpafipbhaknaaDoorQ4Cx
namespace Go.Proofs.YtkbpafipbhaknaaDoor
open Go Go.Av
set_option maxRecDepth 100000
set_option linter.unusedVariables false
def e61 : En (Int × Int) := ⟨2, fun x => [.int .u8 x.1, .int .i64 x.2], (0, 0)⟩
def e62 : En (List (Int × Int)) := ⟨1, fun x => [slC e61 x], []⟩
def e28 : En (List Int) := ⟨1, fun x => [slC e44 x], []⟩
def e74 : En (Int × (List (Int × Int))) := ⟨2, fun x => [.int .u64 x.1, slC e61 x.2], (0, [])⟩
def e72 : En (Int × (List (Int × (List (Int × Int))))) := ⟨2, fun x => [.int .u8 x.1, slC e74 x.2], (0, [])⟩
def e65 : En ((List (List (Int × Int))) × (List (List (Int × Int)))) := ⟨2, fun x => [slC e62 x.1, slC e62 x.2], ([], [])⟩
def e77 : En ((List (Int × Int)) × (List (Int × Int)) × Int × Int) := ⟨4, fun x => [slC e61 x.1, slC e61 x.2.1, .int .u8 x.2.2.1, .int .i64 x.2.2.2], ([], [], 0, 0)⟩
def e63 : En (List (List (Int × Int))) := ⟨1, fun x => [slC e62 x], []⟩
def e59 : En Int := ⟨1, fun x => [.int .u8 x], 0⟩
def e85 : En (Int × Int) := ⟨2, fun x => [.int .i64 x.1, .int .i64 x.2], (0, 0)⟩
/- attestorlaw13.tuples -/
def s38_0 (L : LP) (a0 : (List (List (Int × Int)))) (y2 : (Int × Int)) : Option ((Int × Int) ⊕ Int) :=
  (bif (decide (y2.2 < (a0.length : Int))) then
  (ck (0 ≤ y2.2 ∧ y2.2 < (a0.length : Int))).bind fun _ =>
  some (.inl ((IntKind.wrap .i64 (y2.1 + ((a0.getD y2.2.toNat e62.d).length : Int))), (IntKind.wrap .i64 (y2.2 + (1 : Int)))))
  else some (.inr y2.1))
def s38 (L : LP) (a0 : (List (List (Int × Int)))) : Option Int :=
  ((L.run (s38_0 L a0) ((a0.length : Int), (0 : Int))).bind (fun (v : Int) => some v)).bind fun (y1 : Int) =>
  some y1
theorem p38 (L : LP) (a0 : (List (List (Int × Int)))) (r : Int) (h : s38 L a0 = some r) : Pure X 38 [vS e62 a0] (vI r) := by
 refine Pure_of_W (c := cd Tryd.f38 []) Tryd.func38 (by kernel_rfl) (N := 21) (by kernel_rfl) (Nat.le_of_ble_eq_true (by kernel_rfl)) ?_
 unfold s38 at h
 refine js ?_
 refine jr ?_
 refine jg [(0, vS e62 a0)] 1 [0] ?_
 refine thenQ_n ?_
 refine js ?_
 refine jr ?_
 refine jg [(0, vS e62 a0), (3, vI (a0.length : Int))] 3 [0, 3] ?_
 refine thenQ_n ?_
 obtain ⟨y1, gy1, ky1⟩ := bind_some h
 refine W_cut (by kernel_rfl) [] [(3, vI y1)] ?_ ?_
 · have h := ky1; clear gy1 ky1
   refine js ?_
   refine jr ?_
   refine jg [(2, vI y1)] 2 [2] ?_
   refine thenQ_n ?_
   refine jt ?_
   obtain rfl := si h
   exact jq [vI y1]
 · have h := gy1; clear gy1 ky1
   refine js ?_
   refine jr ?_
   refine jg [(0, vS e62 a0), (3, vI (a0.length : Int)), (4, vI 0)] 1 [0, 3, 4] ?_
   refine thenQ_n ?_
   refine jb 0 ?_
   obtain ⟨b3, gb3, kb3⟩ := bind_some h
   refine W_loop_at (S := fun (y2 : (Int × Int)) => ([], [(0, vS e62 a0), (3, vI y2.1), (4, vI y2.2)])) (step := _) (x0 := ((a0.length : Int), (0 : Int))) (b := b3) (L.ok _ _ _ gb3) (by kernel_rfl) (jE [.keep [0, 3, 4], .take 0]) ?_
   clear gb3 h; intro y2 o h; unfold s38_0 at h
   refine js ?_
   refine js ?_
   refine jr ?_
   refine jg [(0, vS e62 a0), (3, vI y2.1), (4, vI y2.2), (10, vB (decide (y2.2 < (a0.length : Int))))] 4 [0, 3, 4, 10] ?_
   refine thenQ_n ?_
   refine jc (decide (y2.2 < (a0.length : Int))) (fun hb => ?_) (fun hb => ?_)
   · have h := cond_t hb h
     refine jk ?_
     refine thenQ_n ?_
     refine js ?_
     refine jb 1 ?_
     refine jr ?_
     obtain ⟨c4, h⟩ := ck_bind h
     refine jH [(0, vS e62 a0), (4, vI y2.2), (13, vI y2.1), (18, vI ((a0.getD y2.2.toNat e62.d).length : Int))] ((0 ≤ y2.2 ∧ y2.2 < (a0.length : Int)) ∧ (True)) 6 [0, 4, 13, 18] ⟨c4, trivial⟩ ?_
     refine WO_wrapadd (d := some 19) (ki := .i64) (a := y2.1) (b := ((a0.getD y2.2.toNat e62.d).length : Int)) (by kernel_rfl) ?_
     refine jg [(0, vS e62 a0), (3, vI (IntKind.wrap .i64 (y2.1 + ((a0.getD y2.2.toNat e62.d).length : Int)))), (4, vI y2.2)] 1 [0, 3, 4] ?_
     refine blockQ_n ?_
     refine thenQ_n ?_
     refine jr ?_
     refine jh [(0, vS e62 a0), (3, vI (IntKind.wrap .i64 (y2.1 + ((a0.getD y2.2.toNat e62.d).length : Int)))), (11, vI y2.2)] 1 [0, 3, 11] ?_
     refine WO_wrapadd (d := some 12) (ki := .i64) (a := y2.2) (b := (1 : Int)) (by kernel_rfl) ?_
     refine jg [(0, vS e62 a0), (3, vI (IntKind.wrap .i64 (y2.1 + ((a0.getD y2.2.toNat e62.d).length : Int)))), (4, vI (IntKind.wrap .i64 (y2.2 + (1 : Int))))] 1 [0, 3, 4] ?_
     obtain rfl := si h
     exact round_n _ rfl (jE [.keep [0, 3, 4], .take 0])
   · have h := cond_f hb h
     refine je 0 ?_
     refine thenQ_e ?_
     obtain rfl := si h; refine round_e rfl (fun hb => ?_); subst hb; have h := kb3
     refine blockQ_hit ?_
     obtain rfl := si h
     exact thenQ_n (jE [.keep [3], .take 0])

/- attestorlaw13.small -/
def s9_0 (L : LP) (a0_7 : (List ((List (Int × Int)) × (List (Int × Int)) × Int × Int))) (y10 : (Int × Int)) : Option ((Int × Int) ⊕ Int) :=
  (bif (decide (y10.2 < (a0_7.length : Int))) then
  (ck (0 ≤ y10.2 ∧ y10.2 < (a0_7.length : Int))).bind fun _ =>
  (ck (0 ≤ y10.2 ∧ y10.2 < (a0_7.length : Int))).bind fun _ =>
  some (.inl ((IntKind.wrap .i64 ((IntKind.wrap .i64 (y10.1 + (((a0_7.getD y10.2.toNat e77.d).1).length : Int))) + (((a0_7.getD y10.2.toNat e77.d).2.1).length : Int))), (IntKind.wrap .i64 (y10.2 + (1 : Int)))))
  else some (.inr y10.1))
def s9_1 (L : LP) (a0_6 : (List ((List (List (Int × Int))) × (List (List (Int × Int)))))) (y14 : (Int × Int)) : Option ((Int × Int) ⊕ Int) :=
  (bif (decide (y14.2 < (a0_6.length : Int))) then
  (ck (0 ≤ y14.2 ∧ y14.2 < (a0_6.length : Int))).bind fun _ =>
  (s38 L ((a0_6.getD y14.2.toNat e65.d).1)).bind fun r17 =>
  (ck (0 ≤ y14.2 ∧ y14.2 < (a0_6.length : Int))).bind fun _ =>
  (s38 L ((a0_6.getD y14.2.toNat e65.d).2)).bind fun r19 =>
  some (.inl ((IntKind.wrap .i64 ((IntKind.wrap .i64 (y14.1 + r17)) + r19)), (IntKind.wrap .i64 (y14.2 + (1 : Int)))))
  else some (.inr y14.1))
def s9_3 (L : LP) (a0_5 : (List (Int × (List (Int × (List (Int × Int))))))) (y20 : (Int × Int)) (y24 : (Int × Int)) : Option ((Int × Int) ⊕ Int) :=
  (ck (0 ≤ y20.2 ∧ y20.2 < (a0_5.length : Int))).bind fun _ =>
  (bif (decide (y24.2 < (((a0_5.getD y20.2.toNat e72.d).2).length : Int))) then
  (ck (0 ≤ y20.2 ∧ y20.2 < (a0_5.length : Int))).bind fun _ =>
  (ck (0 ≤ y24.2 ∧ y24.2 < (((a0_5.getD y20.2.toNat e72.d).2).length : Int))).bind fun _ =>
  some (.inl ((IntKind.wrap .i64 (y24.1 + (((((a0_5.getD y20.2.toNat e72.d).2).getD y24.2.toNat e74.d).2).length : Int))), (IntKind.wrap .i64 (y24.2 + (1 : Int)))))
  else some (.inr y24.1))
def s9_2 (L : LP) (a0_5 : (List (Int × (List (Int × (List (Int × Int))))))) (y20 : (Int × Int)) : Option ((Int × Int) ⊕ Int) :=
  (bif (decide (y20.2 < (a0_5.length : Int))) then
  ((ck (0 ≤ y20.2 ∧ y20.2 < (a0_5.length : Int))).bind fun _ =>
  (L.run (s9_3 L a0_5 y20) ((IntKind.wrap .i64 (y20.1 + (((a0_5.getD y20.2.toNat e72.d).2).length : Int))), (0 : Int))).bind (fun (v : Int) => some v)).bind fun (y22 : Int) =>
  some (.inl (y22, (IntKind.wrap .i64 (y20.2 + (1 : Int)))))
  else some (.inr y20.1))
def s9_4 (L : LP) (a0_4 : (List (List Int))) (y29 : (Int × Int)) : Option ((Int × Int) ⊕ Int) :=
  (bif (decide (y29.2 < (a0_4.length : Int))) then
  (ck (0 ≤ y29.2 ∧ y29.2 < (a0_4.length : Int))).bind fun _ =>
  some (.inl ((IntKind.wrap .i64 (y29.1 + ((a0_4.getD y29.2.toNat e28.d).length : Int))), (IntKind.wrap .i64 (y29.2 + (1 : Int)))))
  else some (.inr y29.1))
def s9 (L : LP) (a0_0 : Int) (a0_1 : Int) (a0_2 : Int) (a0_3 : Int) (a0_4 : (List (List Int))) (a0_5 : (List (Int × (List (Int × (List (Int × Int))))))) (a0_6 : (List ((List (List (Int × Int))) × (List (List (Int × Int)))))) (a0_7 : (List ((List (Int × Int)) × (List (Int × Int)) × Int × Int))) : Option Bool :=
  (bif (decide (a0_1 > (5 : Int))) then some true
  else some (decide (a0_2 > (100 : Int)))).bind fun y1 =>
  (bif y1 then some true
  else some (decide ((a0_4.length : Int) > (70 : Int)))).bind fun y2 =>
  (bif y2 then some true
  else some (decide ((a0_5.length : Int) > (70 : Int)))).bind fun y3 =>
  (bif y3 then some true
  else some (decide ((a0_6.length : Int) > (6 : Int)))).bind fun y4 =>
  (bif y4 then some true
  else some (decide ((a0_7.length : Int) > (10 : Int)))).bind fun y5 =>
  (bif y5 then
  some false
  else ((L.run (s9_4 L a0_4) ((0 : Int), (0 : Int))).bind (fun (v : Int) => some v)).bind fun (y6 : Int) =>
  ((L.run (s9_2 L a0_5) (y6, (0 : Int))).bind (fun (v : Int) => some v)).bind fun (y7 : Int) =>
  ((L.run (s9_1 L a0_6) (y7, (0 : Int))).bind (fun (v : Int) => some v)).bind fun (y8 : Int) =>
  ((L.run (s9_0 L a0_7) (y8, (0 : Int))).bind (fun (v : Int) => some v)).bind fun (y9 : Int) =>
  some (decide (y9 ≤ (3000 : Int))))
theorem p9 (L : LP) (a0_0 : Int) (a0_1 : Int) (a0_2 : Int) (a0_3 : Int) (a0_4 : (List (List Int))) (a0_5 : (List (Int × (List (Int × (List (Int × Int))))))) (a0_6 : (List ((List (List (Int × Int))) × (List (List (Int × Int)))))) (a0_7 : (List ((List (Int × Int)) × (List (Int × Int)) × Int × Int))) (r : Bool) (h : s9 L a0_0 a0_1 a0_2 a0_3 a0_4 a0_5 a0_6 a0_7 = some r) : Pure X 9 [.agg [aI a0_0, aI a0_1, aI a0_2, aI a0_3, aS e28 a0_4, aS e72 a0_5, aS e65 a0_6, aS e77 a0_7]] (vB r) := by
 refine Pure_of_W (c := cd Tryd.f9 []) Tryd.func9 (by kernel_rfl) (N := 146) (by kernel_rfl) (Nat.le_of_ble_eq_true (by kernel_rfl)) ?_
 unfold s9 at h
 refine js ?_
 refine jr ?_
 refine jf [bL 27 [aI a0_0, aI a0_1, aI a0_2, aI a0_3, aS e28 a0_4, aS e72 a0_5, aS e65 a0_6, aS e77 a0_7]] [(1, vO 0 0 8 0 0)] 2 [1] ?_
 refine thenQ_n ?_
 refine js ?_
 refine js ?_
 refine jr ?_
 refine jh [(1, vO 0 0 8 0 0), (12, vB (decide (a0_1 > (5 : Int))))] 4 [1, 12] ?_
 obtain ⟨y1, gy1, h⟩ := bind_some h
 refine jj 8 [(1, vO 0 0 8 0 0), (16, vB y1)] ?_ ?_
 · clear gy1
   refine jh [(1, vO 0 0 8 0 0), (17, vB y1)] 1 [1, 17] ?_
   obtain ⟨y2, gy2, h⟩ := bind_some h
   refine jj 14 [(1, vO 0 0 8 0 0), (22, vB y2)] ?_ ?_
   · clear gy2
     refine jh [(1, vO 0 0 8 0 0), (23, vB y2)] 1 [1, 23] ?_
     obtain ⟨y3, gy3, h⟩ := bind_some h
     refine jj 20 [(1, vO 0 0 8 0 0), (28, vB y3)] ?_ ?_
     · clear gy3
       refine jh [(1, vO 0 0 8 0 0), (29, vB y3)] 1 [1, 29] ?_
       obtain ⟨y4, gy4, h⟩ := bind_some h
       refine jj 26 [(1, vO 0 0 8 0 0), (34, vB y4)] ?_ ?_
       · clear gy4
         refine jh [(1, vO 0 0 8 0 0), (35, vB y4)] 1 [1, 35] ?_
         obtain ⟨y5, gy5, h⟩ := bind_some h
         refine jj 32 [(1, vO 0 0 8 0 0), (40, vB y5)] ?_ ?_
         · clear gy5
           refine jg [(1, vO 0 0 8 0 0), (40, vB y5)] 0 [1, 40] ?_
           refine thenQ_n ?_
           refine jc y5 (fun hb => ?_) (fun hb => ?_)
           · have h := cond_t hb h
             refine js ?_
             refine jr ?_
             refine jg [(2, vB false)] 1 [2] ?_
             refine thenQ_n ?_
             refine jt ?_
             refine thenQ_r ?_
             obtain rfl := si h
             exact jq [vB false]
           · have h := cond_f hb h
             refine jk ?_
             refine thenQ_n ?_
             refine js ?_
             refine jr ?_
             refine jg [(1, vO 0 0 8 0 0), (3, vI 0)] 1 [1, 3] ?_
             refine thenQ_n ?_
             obtain ⟨y6, gy6, ky6⟩ := bind_some h
             refine W_cut (by kernel_rfl) [bL 27 [aI a0_0, aI a0_1, aI a0_2, aI a0_3, aS e28 a0_4, aS e72 a0_5, aS e65 a0_6, aS e77 a0_7]] [(1, vO 0 0 8 0 0), (3, vI y6)] ?_ ?_
             · have h := ky6; clear gy6 ky6
               obtain ⟨y7, gy7, ky7⟩ := bind_some h
               refine W_cut (by kernel_rfl) [bL 27 [aI a0_0, aI a0_1, aI a0_2, aI a0_3, aS e28 a0_4, aS e72 a0_5, aS e65 a0_6, aS e77 a0_7]] [(1, vO 0 0 8 0 0), (3, vI y7)] ?_ ?_
               · have h := ky7; clear gy7 ky7
                 obtain ⟨y8, gy8, ky8⟩ := bind_some h
                 refine W_cut (by kernel_rfl) [bL 27 [aI a0_0, aI a0_1, aI a0_2, aI a0_3, aS e28 a0_4, aS e72 a0_5, aS e65 a0_6, aS e77 a0_7]] [(1, vO 0 0 8 0 0), (3, vI y8)] ?_ ?_
                 · have h := ky8; clear gy8 ky8
                   obtain ⟨y9, gy9, ky9⟩ := bind_some h
                   refine W_cut (by kernel_rfl) [bL 27 [aI a0_0, aI a0_1, aI a0_2, aI a0_3, aS e28 a0_4, aS e72 a0_5, aS e65 a0_6, aS e77 a0_7]] [(3, vI y9)] ?_ ?_
                   · have h := ky9; clear gy9 ky9
                     refine js ?_
                     refine jr ?_
                     refine jg [(2, vB (decide (y9 ≤ (3000 : Int))))] 3 [2] ?_
                     refine thenQ_n ?_
                     refine jt ?_
                     obtain rfl := si h
                     exact jq [vB (decide (y9 ≤ (3000 : Int)))]
                   · have h := gy9; clear gy9 ky9
                     refine js ?_
                     refine jr ?_
                     refine jg [(1, vO 0 0 8 0 0), (3, vI y8), (8, vI 0)] 1 [1, 3, 8] ?_
                     refine thenQ_n ?_
                     refine jb 8 ?_
                     obtain ⟨b11, gb11, kb11⟩ := bind_some h
                     refine W_loop_at (S := fun (y10 : (Int × Int)) => ([bL 27 [aI a0_0, aI a0_1, aI a0_2, aI a0_3, aS e28 a0_4, aS e72 a0_5, aS e65 a0_6, aS e77 a0_7]], [(1, vO 0 0 8 0 0), (3, vI y10.1), (8, vI y10.2)])) (step := _) (x0 := (y8, (0 : Int))) (b := b11) (L.ok _ _ _ gb11) (by kernel_rfl) (jE [.keep [1, 3, 8], .take 1]) ?_
                     clear gb11 h; intro y10 o h; unfold s9_0 at h
                     refine js ?_
                     refine js ?_
                     refine jr ?_
                     refine jg [(1, vO 0 0 8 0 0), (3, vI y10.1), (8, vI y10.2), (124, vB (decide (y10.2 < (a0_7.length : Int))))] 5 [1, 3, 8, 124] ?_
                     refine thenQ_n ?_
                     refine jc (decide (y10.2 < (a0_7.length : Int))) (fun hb => ?_) (fun hb => ?_)
                     · have h := cond_t hb h
                       refine jk ?_
                       refine thenQ_n ?_
                       refine js ?_
                       refine jb 9 ?_
                       refine jdr 16 mixed ?_
                       obtain ⟨c12, h⟩ := ck_bind h
                       refine jY 8 [(1, vO 0 0 8 0 0), (8, vI y10.2), (127, vI y10.1), (134, vI (((a0_7.getD y10.2.toNat e77.d).1).length : Int))] ((0 ≤ y10.2 ∧ y10.2 < (a0_7.length : Int)) ∧ (True)) 8 [1, 8, 127, 134] ⟨c12, trivial⟩ ?_
                       refine WQ_wrapadd (d := some 135) (ki := .i64) (a := y10.1) (b := (((a0_7.getD y10.2.toNat e77.d).1).length : Int)) (by kernel_rfl) ?_
                       obtain ⟨c13, h⟩ := ck_bind h
                       refine jY 0 [(1, vO 0 0 8 0 0), (8, vI y10.2), (135, vI (IntKind.wrap .i64 (y10.1 + (((a0_7.getD y10.2.toNat e77.d).1).length : Int)))), (142, vI (((a0_7.getD y10.2.toNat e77.d).2.1).length : Int))] ((0 ≤ y10.2 ∧ y10.2 < (a0_7.length : Int)) ∧ (True)) 7 [1, 8, 135, 142] ⟨c13, trivial⟩ ?_
                       refine WQ_done ?_
                       refine WO_wrapadd (d := some 143) (ki := .i64) (a := (IntKind.wrap .i64 (y10.1 + (((a0_7.getD y10.2.toNat e77.d).1).length : Int)))) (b := (((a0_7.getD y10.2.toNat e77.d).2.1).length : Int)) (by kernel_rfl) ?_
                       refine jg [(1, vO 0 0 8 0 0), (3, vI (IntKind.wrap .i64 ((IntKind.wrap .i64 (y10.1 + (((a0_7.getD y10.2.toNat e77.d).1).length : Int))) + (((a0_7.getD y10.2.toNat e77.d).2.1).length : Int)))), (8, vI y10.2)] 1 [1, 3, 8] ?_
                       refine blockQ_n ?_
                       refine thenQ_n ?_
                       refine jr ?_
                       refine jh [(1, vO 0 0 8 0 0), (3, vI (IntKind.wrap .i64 ((IntKind.wrap .i64 (y10.1 + (((a0_7.getD y10.2.toNat e77.d).1).length : Int))) + (((a0_7.getD y10.2.toNat e77.d).2.1).length : Int)))), (125, vI y10.2)] 1 [1, 3, 125] ?_
                       refine WO_wrapadd (d := some 126) (ki := .i64) (a := y10.2) (b := (1 : Int)) (by kernel_rfl) ?_
                       refine jg [(1, vO 0 0 8 0 0), (3, vI (IntKind.wrap .i64 ((IntKind.wrap .i64 (y10.1 + (((a0_7.getD y10.2.toNat e77.d).1).length : Int))) + (((a0_7.getD y10.2.toNat e77.d).2.1).length : Int)))), (8, vI (IntKind.wrap .i64 (y10.2 + (1 : Int))))] 1 [1, 3, 8] ?_
                       obtain rfl := si h
                       exact round_n _ rfl (jE [.keep [1, 3, 8], .take 1])
                     · have h := cond_f hb h
                       refine je 8 ?_
                       refine thenQ_e ?_
                       obtain rfl := si h; refine round_e rfl (fun hb => ?_); subst hb; have h := kb11
                       refine blockQ_hit ?_
                       obtain rfl := si h
                       exact thenQ_n (jE [.keep [3], .take 1])
                 · have h := gy8; clear gy8 ky8
                   refine js ?_
                   refine jr ?_
                   refine jg [(1, vO 0 0 8 0 0), (3, vI y7), (7, vI 0)] 1 [1, 3, 7] ?_
                   refine thenQ_n ?_
                   refine jb 6 ?_
                   obtain ⟨b15, gb15, kb15⟩ := bind_some h
                   refine W_loop_at (S := fun (y14 : (Int × Int)) => ([bL 27 [aI a0_0, aI a0_1, aI a0_2, aI a0_3, aS e28 a0_4, aS e72 a0_5, aS e65 a0_6, aS e77 a0_7]], [(1, vO 0 0 8 0 0), (3, vI y14.1), (7, vI y14.2)])) (step := _) (x0 := (y7, (0 : Int))) (b := b15) (L.ok _ _ _ gb15) (by kernel_rfl) (jE [.keep [1, 3, 7], .take 1]) ?_
                   clear gb15 h; intro y14 o h; unfold s9_1 at h
                   refine js ?_
                   refine js ?_
                   refine jr ?_
                   refine jg [(1, vO 0 0 8 0 0), (3, vI y14.1), (7, vI y14.2), (100, vB (decide (y14.2 < (a0_6.length : Int))))] 5 [1, 3, 7, 100] ?_
                   refine thenQ_n ?_
                   refine jc (decide (y14.2 < (a0_6.length : Int))) (fun hb => ?_) (fun hb => ?_)
                   · have h := cond_t hb h
                     refine jk ?_
                     refine thenQ_n ?_
                     refine js ?_
                     refine jb 7 ?_
                     refine jdr 16 mixed ?_
                     obtain ⟨c16, h⟩ := ck_bind h
                     refine jY 9 [(1, vO 0 0 8 0 0), (7, vI y14.2), (103, vI y14.1), (109, vS e62 ((a0_6.getD y14.2.toNat e65.d).1))] ((0 ≤ y14.2 ∧ y14.2 < (a0_6.length : Int)) ∧ (True)) 7 [1, 7, 103, 109] ⟨c16, trivial⟩ ?_
                     obtain ⟨r17, gr17, h⟩ := bind_some h
                     refine jL 110 Tryd.call38 (p38 L _ _ gr17) ?_
                     refine WQ_wrapadd (d := some 111) (ki := .i64) (a := y14.1) (b := r17) (by kernel_rfl) ?_
                     obtain ⟨c18, h⟩ := ck_bind h
                     refine jY 1 [(1, vO 0 0 8 0 0), (7, vI y14.2), (111, vI (IntKind.wrap .i64 (y14.1 + r17))), (117, vS e62 ((a0_6.getD y14.2.toNat e65.d).2))] ((0 ≤ y14.2 ∧ y14.2 < (a0_6.length : Int)) ∧ (True)) 6 [1, 7, 111, 117] ⟨c18, trivial⟩ ?_
                     obtain ⟨r19, gr19, h⟩ := bind_some h
                     refine jL 118 Tryd.call38 (p38 L _ _ gr19) ?_
                     refine WQ_done ?_
                     refine WO_wrapadd (d := some 119) (ki := .i64) (a := (IntKind.wrap .i64 (y14.1 + r17))) (b := r19) (by kernel_rfl) ?_
                     refine jg [(1, vO 0 0 8 0 0), (3, vI (IntKind.wrap .i64 ((IntKind.wrap .i64 (y14.1 + r17)) + r19))), (7, vI y14.2)] 1 [1, 3, 7] ?_
                     refine blockQ_n ?_
                     refine thenQ_n ?_
                     refine jr ?_
                     refine jh [(1, vO 0 0 8 0 0), (3, vI (IntKind.wrap .i64 ((IntKind.wrap .i64 (y14.1 + r17)) + r19))), (101, vI y14.2)] 1 [1, 3, 101] ?_
                     refine WO_wrapadd (d := some 102) (ki := .i64) (a := y14.2) (b := (1 : Int)) (by kernel_rfl) ?_
                     refine jg [(1, vO 0 0 8 0 0), (3, vI (IntKind.wrap .i64 ((IntKind.wrap .i64 (y14.1 + r17)) + r19))), (7, vI (IntKind.wrap .i64 (y14.2 + (1 : Int))))] 1 [1, 3, 7] ?_
                     obtain rfl := si h
                     exact round_n _ rfl (jE [.keep [1, 3, 7], .take 1])
                   · have h := cond_f hb h
                     refine je 6 ?_
                     refine thenQ_e ?_
                     obtain rfl := si h; refine round_e rfl (fun hb => ?_); subst hb; have h := kb15
                     refine blockQ_hit ?_
                     obtain rfl := si h
                     exact thenQ_n (jE [.keep [1, 3], .take 1])
               · have h := gy7; clear gy7 ky7
                 refine js ?_
                 refine jr ?_
                 refine jg [(1, vO 0 0 8 0 0), (3, vI y6), (5, vI 0)] 1 [1, 3, 5] ?_
                 refine thenQ_n ?_
                 refine jb 2 ?_
                 obtain ⟨b21, gb21, kb21⟩ := bind_some h
                 refine W_loop_at (S := fun (y20 : (Int × Int)) => ([bL 27 [aI a0_0, aI a0_1, aI a0_2, aI a0_3, aS e28 a0_4, aS e72 a0_5, aS e65 a0_6, aS e77 a0_7]], [(1, vO 0 0 8 0 0), (3, vI y20.1), (5, vI y20.2)])) (step := _) (x0 := (y6, (0 : Int))) (b := b21) (L.ok _ _ _ gb21) (by kernel_rfl) (jE [.keep [1, 3, 5], .take 1]) ?_
                 clear gb21 h; intro y20 o h; unfold s9_2 at h
                 refine js ?_
                 refine js ?_
                 refine jr ?_
                 refine jg [(1, vO 0 0 8 0 0), (3, vI y20.1), (5, vI y20.2), (60, vB (decide (y20.2 < (a0_5.length : Int))))] 5 [1, 3, 5, 60] ?_
                 refine thenQ_n ?_
                 refine jc (decide (y20.2 < (a0_5.length : Int))) (fun hb => ?_) (fun hb => ?_)
                 · have h := cond_t hb h
                   refine jk ?_
                   refine thenQ_n ?_
                   obtain ⟨y22, gy22, ky22⟩ := bind_some h
                   refine W_cut (by kernel_rfl) [bL 27 [aI a0_0, aI a0_1, aI a0_2, aI a0_3, aS e28 a0_4, aS e72 a0_5, aS e65 a0_6, aS e77 a0_7]] [(1, vO 0 0 8 0 0), (3, vI y22), (5, vI y20.2)] ?_ ?_
                   · have h := ky22; clear gy22 ky22
                     refine jr ?_
                     refine jh [(1, vO 0 0 8 0 0), (3, vI y22), (61, vI y20.2)] 1 [1, 3, 61] ?_
                     refine WO_wrapadd (d := some 62) (ki := .i64) (a := y20.2) (b := (1 : Int)) (by kernel_rfl) ?_
                     refine jg [(1, vO 0 0 8 0 0), (3, vI y22), (5, vI (IntKind.wrap .i64 (y20.2 + (1 : Int))))] 1 [1, 3, 5] ?_
                     obtain rfl := si h
                     exact round_n _ rfl (jE [.keep [1, 3, 5], .take 1])
                   · have h := gy22; clear gy22 ky22
                     refine jb 3 ?_
                     refine js ?_
                     refine jr ?_
                     obtain ⟨c23, h⟩ := ck_bind h
                     refine jH [(1, vO 0 0 8 0 0), (5, vI y20.2), (63, vI y20.1), (70, vI (((a0_5.getD y20.2.toNat e72.d).2).length : Int))] ((0 ≤ y20.2 ∧ y20.2 < (a0_5.length : Int)) ∧ (True)) 8 [1, 5, 63, 70] ⟨c23, trivial⟩ ?_
                     refine WO_wrapadd (d := some 71) (ki := .i64) (a := y20.1) (b := (((a0_5.getD y20.2.toNat e72.d).2).length : Int)) (by kernel_rfl) ?_
                     refine jg [(1, vO 0 0 8 0 0), (3, vI (IntKind.wrap .i64 (y20.1 + (((a0_5.getD y20.2.toNat e72.d).2).length : Int)))), (5, vI y20.2)] 1 [1, 3, 5] ?_
                     refine thenQ_n ?_
                     refine js ?_
                     refine jr ?_
                     refine jg [(1, vO 0 0 8 0 0), (3, vI (IntKind.wrap .i64 (y20.1 + (((a0_5.getD y20.2.toNat e72.d).2).length : Int)))), (5, vI y20.2), (6, vI 0)] 1 [1, 3, 5, 6] ?_
                     refine thenQ_n ?_
                     refine jb 4 ?_
                     obtain ⟨b25, gb25, kb25⟩ := bind_some h
                     refine W_loop_at (S := fun (y24 : (Int × Int)) => ([bL 27 [aI a0_0, aI a0_1, aI a0_2, aI a0_3, aS e28 a0_4, aS e72 a0_5, aS e65 a0_6, aS e77 a0_7]], [(1, vO 0 0 8 0 0), (3, vI y24.1), (5, vI y20.2), (6, vI y24.2)])) (step := _) (x0 := ((IntKind.wrap .i64 (y20.1 + (((a0_5.getD y20.2.toNat e72.d).2).length : Int))), (0 : Int))) (b := b25) (L.ok _ _ _ gb25) (by kernel_rfl) (jE [.keep [1, 3, 5, 6], .take 1]) ?_
                     clear gb25 h; intro y24 o h; unfold s9_3 at h
                     refine js ?_
                     refine js ?_
                     refine jr ?_
                     obtain ⟨c26, h⟩ := ck_bind h
                     refine jG [(1, vO 0 0 8 0 0), (3, vI y24.1), (5, vI y20.2), (6, vI y24.2), (80, vB (decide (y24.2 < (((a0_5.getD y20.2.toNat e72.d).2).length : Int))))] ((0 ≤ y20.2 ∧ y20.2 < (a0_5.length : Int)) ∧ (True)) 9 [1, 3, 5, 6, 80] ⟨c26, trivial⟩ ?_
                     refine thenQ_n ?_
                     refine jc (decide (y24.2 < (((a0_5.getD y20.2.toNat e72.d).2).length : Int))) (fun hb => ?_) (fun hb => ?_)
                     · have h := cond_t hb h
                       refine jk ?_
                       refine thenQ_n ?_
                       refine js ?_
                       refine jb 5 ?_
                       refine jr ?_
                       obtain ⟨c27, h⟩ := ck_bind h
                       obtain ⟨c28, h⟩ := ck_bind h
                       refine jH [(1, vO 0 0 8 0 0), (5, vI y20.2), (6, vI y24.2), (83, vI y24.1), (94, vI (((((a0_5.getD y20.2.toNat e72.d).2).getD y24.2.toNat e74.d).2).length : Int))] ((0 ≤ y20.2 ∧ y20.2 < (a0_5.length : Int)) ∧ (0 ≤ y24.2 ∧ y24.2 < (((a0_5.getD y20.2.toNat e72.d).2).length : Int)) ∧ (True)) 12 [1, 5, 6, 83, 94] ⟨c27, c28, trivial⟩ ?_
                       refine WO_wrapadd (d := some 95) (ki := .i64) (a := y24.1) (b := (((((a0_5.getD y20.2.toNat e72.d).2).getD y24.2.toNat e74.d).2).length : Int)) (by kernel_rfl) ?_
                       refine jg [(1, vO 0 0 8 0 0), (3, vI (IntKind.wrap .i64 (y24.1 + (((((a0_5.getD y20.2.toNat e72.d).2).getD y24.2.toNat e74.d).2).length : Int)))), (5, vI y20.2), (6, vI y24.2)] 1 [1, 3, 5, 6] ?_
                       refine blockQ_n ?_
                       refine thenQ_n ?_
                       refine jr ?_
                       refine jh [(1, vO 0 0 8 0 0), (3, vI (IntKind.wrap .i64 (y24.1 + (((((a0_5.getD y20.2.toNat e72.d).2).getD y24.2.toNat e74.d).2).length : Int)))), (5, vI y20.2), (81, vI y24.2)] 1 [1, 3, 5, 81] ?_
                       refine WO_wrapadd (d := some 82) (ki := .i64) (a := y24.2) (b := (1 : Int)) (by kernel_rfl) ?_
                       refine jg [(1, vO 0 0 8 0 0), (3, vI (IntKind.wrap .i64 (y24.1 + (((((a0_5.getD y20.2.toNat e72.d).2).getD y24.2.toNat e74.d).2).length : Int)))), (5, vI y20.2), (6, vI (IntKind.wrap .i64 (y24.2 + (1 : Int))))] 1 [1, 3, 5, 6] ?_
                       obtain rfl := si h
                       exact round_n _ rfl (jE [.keep [1, 3, 5, 6], .take 1])
                     · have h := cond_f hb h
                       refine je 4 ?_
                       refine thenQ_e ?_
                       obtain rfl := si h; refine round_e rfl (fun hb => ?_); subst hb; have h := kb25
                       refine blockQ_hit ?_
                       refine blockQ_n ?_
                       obtain rfl := si h
                       exact thenQ_n (jE [.keep [1, 3, 5], .take 1])
                 · have h := cond_f hb h
                   refine je 2 ?_
                   refine thenQ_e ?_
                   obtain rfl := si h; refine round_e rfl (fun hb => ?_); subst hb; have h := kb21
                   refine blockQ_hit ?_
                   obtain rfl := si h
                   exact thenQ_n (jE [.keep [1, 3], .take 1])
             · have h := gy6; clear gy6 ky6
               refine js ?_
               refine jr ?_
               refine jg [(1, vO 0 0 8 0 0), (3, vI 0), (4, vI 0)] 1 [1, 3, 4] ?_
               refine thenQ_n ?_
               refine jb 0 ?_
               obtain ⟨b30, gb30, kb30⟩ := bind_some h
               refine W_loop_at (S := fun (y29 : (Int × Int)) => ([bL 27 [aI a0_0, aI a0_1, aI a0_2, aI a0_3, aS e28 a0_4, aS e72 a0_5, aS e65 a0_6, aS e77 a0_7]], [(1, vO 0 0 8 0 0), (3, vI y29.1), (4, vI y29.2)])) (step := _) (x0 := ((0 : Int), (0 : Int))) (b := b30) (L.ok _ _ _ gb30) (by kernel_rfl) (jE [.keep [1, 3, 4], .take 1]) ?_
               clear gb30 h; intro y29 o h; unfold s9_4 at h
               refine js ?_
               refine js ?_
               refine jr ?_
               refine jg [(1, vO 0 0 8 0 0), (3, vI y29.1), (4, vI y29.2), (45, vB (decide (y29.2 < (a0_4.length : Int))))] 5 [1, 3, 4, 45] ?_
               refine thenQ_n ?_
               refine jc (decide (y29.2 < (a0_4.length : Int))) (fun hb => ?_) (fun hb => ?_)
               · have h := cond_t hb h
                 refine jk ?_
                 refine thenQ_n ?_
                 refine js ?_
                 refine jb 1 ?_
                 refine jr ?_
                 obtain ⟨c31, h⟩ := ck_bind h
                 refine jH [(1, vO 0 0 8 0 0), (4, vI y29.2), (48, vI y29.1), (54, vI ((a0_4.getD y29.2.toNat e28.d).length : Int))] ((0 ≤ y29.2 ∧ y29.2 < (a0_4.length : Int)) ∧ (True)) 7 [1, 4, 48, 54] ⟨c31, trivial⟩ ?_
                 refine WO_wrapadd (d := some 55) (ki := .i64) (a := y29.1) (b := ((a0_4.getD y29.2.toNat e28.d).length : Int)) (by kernel_rfl) ?_
                 refine jg [(1, vO 0 0 8 0 0), (3, vI (IntKind.wrap .i64 (y29.1 + ((a0_4.getD y29.2.toNat e28.d).length : Int)))), (4, vI y29.2)] 1 [1, 3, 4] ?_
                 refine blockQ_n ?_
                 refine thenQ_n ?_
                 refine jr ?_
                 refine jh [(1, vO 0 0 8 0 0), (3, vI (IntKind.wrap .i64 (y29.1 + ((a0_4.getD y29.2.toNat e28.d).length : Int)))), (46, vI y29.2)] 1 [1, 3, 46] ?_
                 refine WO_wrapadd (d := some 47) (ki := .i64) (a := y29.2) (b := (1 : Int)) (by kernel_rfl) ?_
                 refine jg [(1, vO 0 0 8 0 0), (3, vI (IntKind.wrap .i64 (y29.1 + ((a0_4.getD y29.2.toNat e28.d).length : Int)))), (4, vI (IntKind.wrap .i64 (y29.2 + (1 : Int))))] 1 [1, 3, 4] ?_
                 obtain rfl := si h
                 exact round_n _ rfl (jE [.keep [1, 3, 4], .take 1])
               · have h := cond_f hb h
                 refine je 0 ?_
                 refine thenQ_e ?_
                 obtain rfl := si h; refine round_e rfl (fun hb => ?_); subst hb; have h := kb30
                 refine blockQ_hit ?_
                 obtain rfl := si h
                 exact thenQ_n (jE [.keep [1, 3], .take 1])
         · intro J
           clear h
           rcases Bool.eq_false_or_eq_true y4 with hb | hb
           · have h := cond_t hb gy5; clear gy5
             refine jd 35 hb ?_
             obtain rfl := si h
             refine jh [(1, vO 0 0 8 0 0), (40, vB true)] 5 [1, 40] J
           · have h := cond_f hb gy5; clear gy5
             refine jd 35 hb ?_
             refine jh [(1, vO 0 0 8 0 0), (35, vB false), (39, vB (decide ((a0_7.length : Int) > (10 : Int))))] 4 [1, 35, 39] ?_
             obtain rfl := si h
             refine jh [(1, vO 0 0 8 0 0), (40, vB (decide ((a0_7.length : Int) > (10 : Int))))] 1 [1, 40] J
       · intro J
         clear h
         rcases Bool.eq_false_or_eq_true y3 with hb | hb
         · have h := cond_t hb gy4; clear gy4
           refine jd 29 hb ?_
           obtain rfl := si h
           refine jh [(1, vO 0 0 8 0 0), (34, vB true)] 5 [1, 34] J
         · have h := cond_f hb gy4; clear gy4
           refine jd 29 hb ?_
           refine jh [(1, vO 0 0 8 0 0), (29, vB false), (33, vB (decide ((a0_6.length : Int) > (6 : Int))))] 4 [1, 29, 33] ?_
           obtain rfl := si h
           refine jh [(1, vO 0 0 8 0 0), (34, vB (decide ((a0_6.length : Int) > (6 : Int))))] 1 [1, 34] J
     · intro J
       clear h
       rcases Bool.eq_false_or_eq_true y2 with hb | hb
       · have h := cond_t hb gy3; clear gy3
         refine jd 23 hb ?_
         obtain rfl := si h
         refine jh [(1, vO 0 0 8 0 0), (28, vB true)] 5 [1, 28] J
       · have h := cond_f hb gy3; clear gy3
         refine jd 23 hb ?_
         refine jh [(1, vO 0 0 8 0 0), (23, vB false), (27, vB (decide ((a0_5.length : Int) > (70 : Int))))] 4 [1, 23, 27] ?_
         obtain rfl := si h
         refine jh [(1, vO 0 0 8 0 0), (28, vB (decide ((a0_5.length : Int) > (70 : Int))))] 1 [1, 28] J
   · intro J
     clear h
     rcases Bool.eq_false_or_eq_true y1 with hb | hb
     · have h := cond_t hb gy2; clear gy2
       refine jd 17 hb ?_
       obtain rfl := si h
       refine jh [(1, vO 0 0 8 0 0), (22, vB true)] 5 [1, 22] J
     · have h := cond_f hb gy2; clear gy2
       refine jd 17 hb ?_
       refine jh [(1, vO 0 0 8 0 0), (17, vB false), (21, vB (decide ((a0_4.length : Int) > (70 : Int))))] 4 [1, 17, 21] ?_
       obtain rfl := si h
       refine jh [(1, vO 0 0 8 0 0), (22, vB (decide ((a0_4.length : Int) > (70 : Int))))] 1 [1, 22] J
 · intro J
   clear h
   rcases Bool.eq_false_or_eq_true (decide (a0_1 > (5 : Int))) with hb | hb
   · have h := cond_t hb gy1; clear gy1
     refine jd 12 hb ?_
     obtain rfl := si h
     refine jh [(1, vO 0 0 8 0 0), (16, vB true)] 4 [1, 16] J
   · have h := cond_f hb gy1; clear gy1
     refine jd 12 hb ?_
     refine jh [(1, vO 0 0 8 0 0), (12, vB false), (15, vB (decide (a0_2 > (100 : Int))))] 3 [1, 12, 15] ?_
     obtain rfl := si h
     refine jh [(1, vO 0 0 8 0 0), (16, vB (decide (a0_2 > (100 : Int))))] 1 [1, 16] J

/- system.between -/
def s45 (L : LP) (a0 : Int) (a1 : Int) (a2 : Int) : Option Bool :=
  (bif (decide (a0 ≥ a1)) then some (decide (a0 ≤ a2))
  else some false).bind fun y1 =>
  some y1
theorem p45 (L : LP) (a0 : Int) (a1 : Int) (a2 : Int) (r : Bool) (h : s45 L a0 a1 a2 = some r) : Pure X 45 [vI a0, vI a1, vI a2] (vB r) := by
 refine Pure_of_W (c := cd Tryd.f45 []) Tryd.func45 (by kernel_rfl) (N := 15) (by kernel_rfl) (Nat.le_of_ble_eq_true (by kernel_rfl)) ?_
 unfold s45 at h
 refine js ?_
 refine jr ?_
 refine jg [(0, vI a0), (1, vI a1), (2, vI a2)] 1 [0, 1, 2] ?_
 refine thenQ_n ?_
 refine js ?_
 refine jr ?_
 refine jh [(0, vI a0), (2, vI a2), (10, vB (decide (a0 ≥ a1)))] 4 [0, 2, 10] ?_
 obtain ⟨y1, gy1, h⟩ := bind_some h
 refine jj 8 [(14, vB y1)] ?_ ?_
 · clear gy1
   refine jg [(6, vB y1)] 1 [6] ?_
   refine thenQ_n ?_
   refine jt ?_
   obtain rfl := si h
   exact jq [vB y1]
 · intro J
   clear h
   rcases Bool.eq_false_or_eq_true (decide (a0 ≥ a1)) with hb | hb
   · have h := cond_t hb gy1; clear gy1
     refine jd 10 hb ?_
     refine jh [(10, vB true), (13, vB (decide (a0 ≤ a2)))] 3 [10, 13] ?_
     obtain rfl := si h
     refine jh [(14, vB (decide (a0 ≤ a2)))] 1 [14] J
   · have h := cond_f hb gy1; clear gy1
     refine jd 10 hb ?_
     obtain rfl := si h
     refine jh [(14, vB false)] 4 [14] J

/- field.Valid -/
def s60 (L : LP) (a0 : Int) : Option Bool :=
  (bif (decide (a0 ≥ (0 : Int))) then some (decide (a0 < (4 : Int)))
  else some false).bind fun y1 =>
  some y1
theorem p60 (L : LP) (a0 : Int) (r : Bool) (h : s60 L a0 = some r) : Pure X 60 [vI a0] (vB r) := by
 refine Pure_of_W (c := cd Tryd.f60 []) Tryd.func60 (by kernel_rfl) (N := 9) (by kernel_rfl) (Nat.le_of_ble_eq_true (by kernel_rfl)) ?_
 unfold s60 at h
 refine js ?_
 refine jr ?_
 refine jg [(0, vI a0)] 1 [0] ?_
 refine thenQ_n ?_
 refine js ?_
 refine jr ?_
 refine jh [(0, vI a0), (5, vB (decide (a0 ≥ (0 : Int))))] 3 [0, 5] ?_
 obtain ⟨y1, gy1, h⟩ := bind_some h
 refine jj 6 [(8, vB y1)] ?_ ?_
 · clear gy1
   refine jg [(2, vB y1)] 1 [2] ?_
   refine thenQ_n ?_
   refine jt ?_
   obtain rfl := si h
   exact jq [vB y1]
 · intro J
   clear h
   rcases Bool.eq_false_or_eq_true (decide (a0 ≥ (0 : Int))) with hb | hb
   · have h := cond_t hb gy1; clear gy1
     refine jd 5 hb ?_
     refine jh [(5, vB true), (7, vB (decide (a0 < (4 : Int))))] 2 [5, 7] ?_
     obtain rfl := si h
     refine jh [(8, vB (decide (a0 < (4 : Int))))] 1 [8] J
   · have h := cond_f hb gy1; clear gy1
     refine jd 5 hb ?_
     obtain rfl := si h
     refine jh [(8, vB false)] 3 [8] J

/- field.of -/
def s105 (L : LP) (a0 : Int) : Option (Int × Int × Int × Int × (List Int)) :=
  (s60 L a0).bind fun r1 =>
  (bif (!r1) then
  some ((0 : Int), (0 : Int), (0 : Int), (0 : Int), [])
  else (bif decide (a0 = (0 : Int)) then some ((97 : Int), (5 : Int), (5 : Int), (5 : Int), [3]) else (bif decide (a0 = (1 : Int)) then some ((257 : Int), (3 : Int), (8 : Int), (3 : Int), []) else (bif decide (a0 = (2 : Int)) then some ((12289 : Int), (11 : Int), (12 : Int), (5 : Int), [3]) else (bif decide (a0 = (3 : Int)) then some ((998244353 : Int), (3 : Int), (23 : Int), (3 : Int), [7, 17]) else none)))))
theorem p105 (L : LP) (a0 : Int) (r : (Int × Int × Int × Int × (List Int))) (h : s105 L a0 = some r) : Pure X 105 [vI a0] (.agg [aU r.1, aU r.2.1, aI r.2.2.1, aI r.2.2.2.1, aS e44 r.2.2.2.2]) := by
 refine Pure_of_W (c := cd Tryd.f105 []) Tryd.func105 (by kernel_rfl) (N := 10) (by kernel_rfl) (Nat.le_of_ble_eq_true (by kernel_rfl)) ?_
 unfold s105 at h
 refine js ?_
 refine jr ?_
 refine jf [bL 134 [aU 0, aU 0, aI 0, aI 0, .c (.nsl)]] [(0, vI a0), (2, vO 0 0 5 0 0)] 1 [0, 2] ?_
 refine thenQ_n ?_
 refine js ?_
 refine js ?_
 refine jr ?_
 refine jh [(0, vI a0), (2, vO 0 0 5 0 0), (3, vI a0)] 1 [0, 2, 3] ?_
 obtain ⟨r1, gr1, h⟩ := bind_some h
 refine jl 4 Tryd.call60 (p60 L _ _ gr1) ?_
 refine jg [(0, vI a0), (2, vO 0 0 5 0 0), (5, vB (!r1))] 1 [0, 2, 5] ?_
 refine thenQ_n ?_
 refine jc (!r1) (fun hb => ?_) (fun hb => ?_)
 · have h := cond_t hb h
   refine js ?_
   refine jr ?_
   refine jg [(2, vO 0 0 5 0 0)] 2 [2] ?_
   refine thenQ_n ?_
   refine jt ?_
   refine thenQ_r ?_
   obtain rfl := si h
   exact jQ [.agg [aU 0, aU 0, aI 0, aI 0, .c (.nsl)]] ([.agg [.no, .no, .no, .no, .sl 1 (fun i j => (e44.row (([] : List Int).getD i e44.d)).getD j .jk)]])
 · have h := cond_f hb h
   refine jk ?_
   refine thenQ_n ?_
   refine js ?_
   refine jr ?_
   refine jh [(2, vO 0 0 5 0 0), (7, vI a0)] 1 [2, 7] ?_
   rcases Bool.eq_false_or_eq_true (decide (a0 = (0 : Int))) with hb | hb
   · have h := cond_t hb h; have hq := of_decide_eq_true hb; subst hq
     refine jF [bL 134 [aU 97, aU 5, aI 5, aI 5, aS e44 [3]]] [(2, vO 0 0 5 0 0)] ((0 ≤ (0 : Int) ∧ (0 : Int) < ((4 : Nat) : Int)) ∧ (True)) 3 [2] ⟨(by decide), trivial⟩ ?_
     refine thenQ_n ?_
     refine jt ?_
     obtain rfl := si h
     exact jq [.agg [aU 97, aU 5, aI 5, aI 5, aS e44 [3]]]
   have h := cond_f hb h
   rcases Bool.eq_false_or_eq_true (decide (a0 = (1 : Int))) with hb | hb
   · have h := cond_t hb h; have hq := of_decide_eq_true hb; subst hq
     refine jF [bL 134 [aU 257, aU 3, aI 8, aI 3, .c (.nsl)]] [(2, vO 0 0 5 0 0)] ((0 ≤ (1 : Int) ∧ (1 : Int) < ((4 : Nat) : Int)) ∧ (True)) 3 [2] ⟨(by decide), trivial⟩ ?_
     refine thenQ_n ?_
     refine jt ?_
     obtain rfl := si h
     exact jQ [.agg [aU 257, aU 3, aI 8, aI 3, .c (.nsl)]] ([.agg [.no, .no, .no, .no, .sl 1 (fun i j => (e44.row (([] : List Int).getD i e44.d)).getD j .jk)]])
   have h := cond_f hb h
   rcases Bool.eq_false_or_eq_true (decide (a0 = (2 : Int))) with hb | hb
   · have h := cond_t hb h; have hq := of_decide_eq_true hb; subst hq
     refine jF [bL 134 [aU 12289, aU 11, aI 12, aI 5, aS e44 [3]]] [(2, vO 0 0 5 0 0)] ((0 ≤ (2 : Int) ∧ (2 : Int) < ((4 : Nat) : Int)) ∧ (True)) 3 [2] ⟨(by decide), trivial⟩ ?_
     refine thenQ_n ?_
     refine jt ?_
     obtain rfl := si h
     exact jq [.agg [aU 12289, aU 11, aI 12, aI 5, aS e44 [3]]]
   have h := cond_f hb h
   rcases Bool.eq_false_or_eq_true (decide (a0 = (3 : Int))) with hb | hb
   · have h := cond_t hb h; have hq := of_decide_eq_true hb; subst hq
     refine jF [bL 134 [aU 998244353, aU 3, aI 23, aI 3, aS e44 [7, 17]]] [(2, vO 0 0 5 0 0)] ((0 ≤ (3 : Int) ∧ (3 : Int) < ((4 : Nat) : Int)) ∧ (True)) 3 [2] ⟨(by decide), trivial⟩ ?_
     refine thenQ_n ?_
     refine jt ?_
     obtain rfl := si h
     exact jq [.agg [aU 998244353, aU 3, aI 23, aI 3, aS e44 [7, 17]]]
   have h := cond_f hb h
   cases h

/- field.Twos -/
def s61 (L : LP) (a0 : Int) : Option Int :=
  (s105 L a0).bind fun r1 =>
  some r1.2.2.1
theorem p61 (L : LP) (a0 : Int) (r : Int) (h : s61 L a0 = some r) : Pure X 61 [vI a0] (vI r) := by
 refine Pure_of_W (c := cd Tryd.f61 []) Tryd.func61 (by kernel_rfl) (N := 6) (by kernel_rfl) (Nat.le_of_ble_eq_true (by kernel_rfl)) ?_
 unfold s61 at h
 refine js ?_
 refine jr ?_
 refine jg [(0, vI a0)] 1 [0] ?_
 refine thenQ_n ?_
 refine js ?_
 refine jr ?_
 refine jh [(3, vI a0)] 1 [3] ?_
 obtain ⟨r1, gr1, h⟩ := bind_some h
 refine jl 4 Tryd.call105 (p105 L _ _ gr1) ?_
 refine jg [(2, vI r1.2.2.1)] 2 [2] ?_
 refine thenQ_n ?_
 refine jt ?_
 obtain rfl := si h
 exact jq [vI r1.2.2.1]

/- slices.IndexFunc[[][]uint64,[]uint64] -/
def s129_0 (L : LP) (a0 : (List (List Int))) (g1 : (List Int) → Option Bool) (y3 : Int) : Option (Int ⊕ (Int ⊕ Unit)) :=
  (bif (decide (y3 < (a0.length : Int))) then
  (ck (0 ≤ y3 ∧ y3 < (a0.length : Int))).bind fun _ =>
  (g1 (a0.getD y3.toNat e28.d)).bind fun r6 =>
  (bif r6 then
  some (.inr (.inl y3))
  else (ck (inR .i64 (y3 + (1 : Int)))).bind fun _ =>
  some (.inl (y3 + (1 : Int))))
  else some (.inr (.inr ())))
def s129 (L : LP) (a0 : (List (List Int))) (g1 : (List Int) → Option Bool) : Option Int :=
  ((L.run (s129_0 L a0 g1) (0 : Int)).bind (fun (b : Int ⊕ Unit) => (match b with
  | .inl v => some (.inr v)
  | .inr v => some (.inl ())))).bind fun (y1 : Unit ⊕ Int) => (match y1 with
  | .inl v2 => some (-1 : Int)
  | .inr v2 => some v2)
theorem p129 (L : LP) (a0 : (List (List Int))) (f1 n1 : Nat) (c1 : Nat → C) (g1 : (List Int) → Option Bool) (hg1 : ∀ (x0 : (List Int)) (r : Bool), g1 x0 = some r → Pure X f1 ([vS e44 x0] ++ capsC n1 c1) (vB r)) (hc1 : ∀ (av : Array Value) (w : World), (callFunc f1 av).run X.P w = .ok (.enter f1 av) w) (r : Int) (h : s129 L a0 g1 = some r) : Pure X 129 [vS e28 a0, .cell (.c (.fn f1 n1 c1))] (vI r) := by
 refine Pure_of_W (c := cd Tryd.f129 []) Tryd.func129 (by kernel_rfl) (N := 19) (by kernel_rfl) (Nat.le_of_ble_eq_true (by kernel_rfl)) ?_
 unfold s129 at h
 refine js ?_
 refine jr ?_
 refine jg [(0, vS e28 a0), (1, .cell (.c (.fn f1 n1 c1)))] 1 [0, 1] ?_
 refine thenQ_n ?_
 obtain ⟨y1, gy1, ky1⟩ := bind_some h
 refine W_cutE (by kernel_rfl) (fun v2 => y1 = .inl v2) (fun v2 => ([], [])) ?_ ?_
 · intro v2 hv; subst hv; have h := ky1; clear gy1 ky1; dsimp only at h
   refine js ?_
   refine jr ?_
   refine jg [(4, vI (-1))] 1 [4] ?_
   refine thenQ_n ?_
   refine jt ?_
   obtain rfl := si h
   exact jq [vI (-1)]
 · have h := gy1; clear gy1
   refine js ?_
   refine jr ?_
   refine jg [(0, vS e28 a0), (1, .cell (.c (.fn f1 n1 c1))), (7, vI (a0.length : Int)), (8, vI 0)] 3 [0, 1, 7, 8] ?_
   refine thenQ_n ?_
   refine jb 0 ?_
   obtain ⟨b4, gb4, kb4⟩ := bind_some h
   refine W_loop_at (S := fun (y3 : Int) => ([], [(0, vS e28 a0), (1, .cell (.c (.fn f1 n1 c1))), (7, vI (a0.length : Int)), (8, vI y3)])) (step := _) (x0 := (0 : Int)) (b := b4) (L.ok _ _ _ gb4) (by kernel_rfl) (jE [.keep [0, 1, 7, 8], .take 0]) ?_
   clear gb4 h; intro y3 o h; unfold s129_0 at h
   refine js ?_
   refine jr ?_
   refine jg [(0, vS e28 a0), (1, .cell (.c (.fn f1 n1 c1))), (7, vI (a0.length : Int)), (8, vI y3), (9, vB (decide (y3 < (a0.length : Int))))] 1 [0, 1, 7, 8, 9] ?_
   refine thenQ_n ?_
   refine js ?_
   refine jc (decide (y3 < (a0.length : Int))) (fun hb => ?_) (fun hb => ?_)
   · have h := cond_t hb h
     refine jk ?_
     refine thenQ_n ?_
     refine js ?_
     refine jb 1 ?_
     refine js ?_
     refine jr ?_
     refine jg [(0, vS e28 a0), (1, .cell (.c (.fn f1 n1 c1))), (5, vI y3), (7, vI (a0.length : Int)), (8, vI y3)] 2 [0, 1, 5, 7, 8] ?_
     refine thenQ_n ?_
     refine js ?_
     refine jr ?_
     obtain ⟨c5, h⟩ := ck_bind h
     refine jH [(0, vS e28 a0), (1, .cell (.c (.fn f1 n1 c1))), (5, vI y3), (7, vI (a0.length : Int)), (8, vI y3), (11, .cell (.c (.fn f1 n1 c1))), (15, vS e44 (a0.getD y3.toNat e28.d))] ((0 ≤ y3 ∧ y3 < (a0.length : Int)) ∧ (True)) 5 [0, 1, 5, 7, 8, 11, 15] ⟨c5, trivial⟩ ?_
     obtain ⟨r6, gr6, h⟩ := bind_some h
     refine WO_callf (f := f1) (n := n1) (cap := c1) (avs := [vS e44 (a0.getD y3.toNat e28.d)]) (d := some 16) (r := vB r6) (by kernel_rfl) (by kernel_rfl) (by kernel_rfl) hc1 (hg1 _ _ gr6) ?_
     refine jg [(0, vS e28 a0), (1, .cell (.c (.fn f1 n1 c1))), (5, vI y3), (7, vI (a0.length : Int)), (8, vI y3), (16, vB r6)] 0 [0, 1, 5, 7, 8, 16] ?_
     refine thenQ_n ?_
     refine jc r6 (fun hb => ?_) (fun hb => ?_)
     · have h := cond_t hb h
       refine js ?_
       refine jr ?_
       refine jg [(4, vI y3)] 2 [4] ?_
       refine thenQ_n ?_
       refine jt ?_
       refine blockQ_r ?_
       refine thenQ_r ?_
       obtain rfl := si h; refine round_r rfl (fun hb => ?_); subst hb; have h := kb4; dsimp only at h
       refine blockQ_r ?_
       obtain rfl := si h; have h := ky1; dsimp only at h; refine thenQ_r ?_
       obtain rfl := si h
       exact jq [vI y3]
     · have h := cond_f hb h
       refine jk ?_
       refine blockQ_n ?_
       refine thenQ_n ?_
       refine jr ?_
       obtain ⟨c7, h⟩ := ck_bind h
       refine jG [(0, vS e28 a0), (1, .cell (.c (.fn f1 n1 c1))), (7, vI (a0.length : Int)), (8, vI (y3 + (1 : Int)))] ((inR .i64 (y3 + (1 : Int))) ∧ (True)) 2 [0, 1, 7, 8] ⟨c7, trivial⟩ ?_
       obtain rfl := si h
       exact round_n _ rfl (jE [.keep [0, 1, 7, 8], .take 0])
   · have h := cond_f hb h
     refine je 0 ?_
     refine thenQ_e ?_
     obtain rfl := si h; refine round_e rfl (fun hb => ?_); subst hb; have h := kb4; dsimp only at h
     refine blockQ_hit ?_
     obtain rfl := si h
     exact thenQ_n ⟨_, rfl, jE [.keep [], .take 0]⟩

/- slices.ContainsFunc[[][]uint64,[]uint64] -/
def s106 (L : LP) (a0 : (List (List Int))) (g1 : (List Int) → Option Bool) : Option Bool :=
  (s129 L a0 g1).bind fun r1 =>
  some (decide (r1 ≥ (0 : Int)))
theorem p106 (L : LP) (a0 : (List (List Int))) (f1 n1 : Nat) (c1 : Nat → C) (g1 : (List Int) → Option Bool) (hg1 : ∀ (x0 : (List Int)) (r : Bool), g1 x0 = some r → Pure X f1 ([vS e44 x0] ++ capsC n1 c1) (vB r)) (hc1 : ∀ (av : Array Value) (w : World), (callFunc f1 av).run X.P w = .ok (.enter f1 av) w) (r : Bool) (h : s106 L a0 g1 = some r) : Pure X 106 [vS e28 a0, .cell (.c (.fn f1 n1 c1))] (vB r) := by
 refine Pure_of_W (c := cd Tryd.f106 []) Tryd.func106 (by kernel_rfl) (N := 9) (by kernel_rfl) (Nat.le_of_ble_eq_true (by kernel_rfl)) ?_
 unfold s106 at h
 refine js ?_
 refine jr ?_
 refine jg [(0, vS e28 a0), (1, .cell (.c (.fn f1 n1 c1)))] 1 [0, 1] ?_
 refine thenQ_n ?_
 refine js ?_
 refine jr ?_
 refine jh [(5, vS e28 a0), (6, .cell (.c (.fn f1 n1 c1)))] 2 [5, 6] ?_
 obtain ⟨r1, gr1, h⟩ := bind_some h
 refine jl 7 Tryd.call129 (p129 L _ f1 n1 c1 g1 hg1 hc1 _ gr1) ?_
 refine jg [(4, vB (decide (r1 ≥ (0 : Int))))] 2 [4] ?_
 refine thenQ_n ?_
 refine jt ?_
 obtain rfl := si h
 exact jq [vB (decide (r1 ≥ (0 : Int)))]

/- field.P -/
def s73 (L : LP) (a0 : Int) : Option Int :=
  (s105 L a0).bind fun r1 =>
  some r1.1
theorem p73 (L : LP) (a0 : Int) (r : Int) (h : s73 L a0 = some r) : Pure X 73 [vI a0] (vU r) := by
 refine Pure_of_W (c := cd Tryd.f73 []) Tryd.func73 (by kernel_rfl) (N := 6) (by kernel_rfl) (Nat.le_of_ble_eq_true (by kernel_rfl)) ?_
 unfold s73 at h
 refine js ?_
 refine jr ?_
 refine jg [(0, vI a0)] 1 [0] ?_
 refine thenQ_n ?_
 refine js ?_
 refine jr ?_
 refine jh [(3, vI a0)] 1 [3] ?_
 obtain ⟨r1, gr1, h⟩ := bind_some h
 refine jl 4 Tryd.call105 (p105 L _ _ gr1) ?_
 refine jg [(2, vU r1.1)] 2 [2] ?_
 refine thenQ_n ?_
 refine jt ?_
 obtain rfl := si h
 exact jq [vU r1.1]

/- slices.IndexFunc[[]uint64,uint64] -/
def s138_0 (L : LP) (a0 : (List Int)) (g1 : Int → Option Bool) (y3 : Int) : Option (Int ⊕ (Int ⊕ Unit)) :=
  (bif (decide (y3 < (a0.length : Int))) then
  (ck (0 ≤ y3 ∧ y3 < (a0.length : Int))).bind fun _ =>
  (g1 (a0.getD y3.toNat e44.d)).bind fun r6 =>
  (bif r6 then
  some (.inr (.inl y3))
  else (ck (inR .i64 (y3 + (1 : Int)))).bind fun _ =>
  some (.inl (y3 + (1 : Int))))
  else some (.inr (.inr ())))
def s138 (L : LP) (a0 : (List Int)) (g1 : Int → Option Bool) : Option Int :=
  ((L.run (s138_0 L a0 g1) (0 : Int)).bind (fun (b : Int ⊕ Unit) => (match b with
  | .inl v => some (.inr v)
  | .inr v => some (.inl ())))).bind fun (y1 : Unit ⊕ Int) => (match y1 with
  | .inl v2 => some (-1 : Int)
  | .inr v2 => some v2)
theorem p138 (L : LP) (a0 : (List Int)) (f1 n1 : Nat) (c1 : Nat → C) (g1 : Int → Option Bool) (hg1 : ∀ (x0 : Int) (r : Bool), g1 x0 = some r → Pure X f1 ([vU x0] ++ capsC n1 c1) (vB r)) (hc1 : ∀ (av : Array Value) (w : World), (callFunc f1 av).run X.P w = .ok (.enter f1 av) w) (r : Int) (h : s138 L a0 g1 = some r) : Pure X 138 [vS e44 a0, .cell (.c (.fn f1 n1 c1))] (vI r) := by
 refine Pure_of_W (c := cd Tryd.f138 []) Tryd.func138 (by kernel_rfl) (N := 19) (by kernel_rfl) (Nat.le_of_ble_eq_true (by kernel_rfl)) ?_
 unfold s138 at h
 refine js ?_
 refine jr ?_
 refine jg [(0, vS e44 a0), (1, .cell (.c (.fn f1 n1 c1)))] 1 [0, 1] ?_
 refine thenQ_n ?_
 obtain ⟨y1, gy1, ky1⟩ := bind_some h
 refine W_cutE (by kernel_rfl) (fun v2 => y1 = .inl v2) (fun v2 => ([], [])) ?_ ?_
 · intro v2 hv; subst hv; have h := ky1; clear gy1 ky1; dsimp only at h
   refine js ?_
   refine jr ?_
   refine jg [(4, vI (-1))] 1 [4] ?_
   refine thenQ_n ?_
   refine jt ?_
   obtain rfl := si h
   exact jq [vI (-1)]
 · have h := gy1; clear gy1
   refine js ?_
   refine jr ?_
   refine jg [(0, vS e44 a0), (1, .cell (.c (.fn f1 n1 c1))), (7, vI (a0.length : Int)), (8, vI 0)] 3 [0, 1, 7, 8] ?_
   refine thenQ_n ?_
   refine jb 0 ?_
   obtain ⟨b4, gb4, kb4⟩ := bind_some h
   refine W_loop_at (S := fun (y3 : Int) => ([], [(0, vS e44 a0), (1, .cell (.c (.fn f1 n1 c1))), (7, vI (a0.length : Int)), (8, vI y3)])) (step := _) (x0 := (0 : Int)) (b := b4) (L.ok _ _ _ gb4) (by kernel_rfl) (jE [.keep [0, 1, 7, 8], .take 0]) ?_
   clear gb4 h; intro y3 o h; unfold s138_0 at h
   refine js ?_
   refine jr ?_
   refine jg [(0, vS e44 a0), (1, .cell (.c (.fn f1 n1 c1))), (7, vI (a0.length : Int)), (8, vI y3), (9, vB (decide (y3 < (a0.length : Int))))] 1 [0, 1, 7, 8, 9] ?_
   refine thenQ_n ?_
   refine js ?_
   refine jc (decide (y3 < (a0.length : Int))) (fun hb => ?_) (fun hb => ?_)
   · have h := cond_t hb h
     refine jk ?_
     refine thenQ_n ?_
     refine js ?_
     refine jb 1 ?_
     refine js ?_
     refine jr ?_
     refine jg [(0, vS e44 a0), (1, .cell (.c (.fn f1 n1 c1))), (5, vI y3), (7, vI (a0.length : Int)), (8, vI y3)] 2 [0, 1, 5, 7, 8] ?_
     refine thenQ_n ?_
     refine js ?_
     refine jr ?_
     obtain ⟨c5, h⟩ := ck_bind h
     refine jH [(0, vS e44 a0), (1, .cell (.c (.fn f1 n1 c1))), (5, vI y3), (7, vI (a0.length : Int)), (8, vI y3), (11, .cell (.c (.fn f1 n1 c1))), (15, vU (a0.getD y3.toNat e44.d))] ((0 ≤ y3 ∧ y3 < (a0.length : Int)) ∧ (True)) 5 [0, 1, 5, 7, 8, 11, 15] ⟨c5, trivial⟩ ?_
     obtain ⟨r6, gr6, h⟩ := bind_some h
     refine WO_callf (f := f1) (n := n1) (cap := c1) (avs := [vU (a0.getD y3.toNat e44.d)]) (d := some 16) (r := vB r6) (by kernel_rfl) (by kernel_rfl) (by kernel_rfl) hc1 (hg1 _ _ gr6) ?_
     refine jg [(0, vS e44 a0), (1, .cell (.c (.fn f1 n1 c1))), (5, vI y3), (7, vI (a0.length : Int)), (8, vI y3), (16, vB r6)] 0 [0, 1, 5, 7, 8, 16] ?_
     refine thenQ_n ?_
     refine jc r6 (fun hb => ?_) (fun hb => ?_)
     · have h := cond_t hb h
       refine js ?_
       refine jr ?_
       refine jg [(4, vI y3)] 2 [4] ?_
       refine thenQ_n ?_
       refine jt ?_
       refine blockQ_r ?_
       refine thenQ_r ?_
       obtain rfl := si h; refine round_r rfl (fun hb => ?_); subst hb; have h := kb4; dsimp only at h
       refine blockQ_r ?_
       obtain rfl := si h; have h := ky1; dsimp only at h; refine thenQ_r ?_
       obtain rfl := si h
       exact jq [vI y3]
     · have h := cond_f hb h
       refine jk ?_
       refine blockQ_n ?_
       refine thenQ_n ?_
       refine jr ?_
       obtain ⟨c7, h⟩ := ck_bind h
       refine jG [(0, vS e44 a0), (1, .cell (.c (.fn f1 n1 c1))), (7, vI (a0.length : Int)), (8, vI (y3 + (1 : Int)))] ((inR .i64 (y3 + (1 : Int))) ∧ (True)) 2 [0, 1, 7, 8] ⟨c7, trivial⟩ ?_
       obtain rfl := si h
       exact round_n _ rfl (jE [.keep [0, 1, 7, 8], .take 0])
   · have h := cond_f hb h
     refine je 0 ?_
     refine thenQ_e ?_
     obtain rfl := si h; refine round_e rfl (fun hb => ?_); subst hb; have h := kb4; dsimp only at h
     refine blockQ_hit ?_
     obtain rfl := si h
     exact thenQ_n ⟨_, rfl, jE [.keep [], .take 0]⟩

/- slices.ContainsFunc[[]uint64,uint64] -/
def s127 (L : LP) (a0 : (List Int)) (g1 : Int → Option Bool) : Option Bool :=
  (s138 L a0 g1).bind fun r1 =>
  some (decide (r1 ≥ (0 : Int)))
theorem p127 (L : LP) (a0 : (List Int)) (f1 n1 : Nat) (c1 : Nat → C) (g1 : Int → Option Bool) (hg1 : ∀ (x0 : Int) (r : Bool), g1 x0 = some r → Pure X f1 ([vU x0] ++ capsC n1 c1) (vB r)) (hc1 : ∀ (av : Array Value) (w : World), (callFunc f1 av).run X.P w = .ok (.enter f1 av) w) (r : Bool) (h : s127 L a0 g1 = some r) : Pure X 127 [vS e44 a0, .cell (.c (.fn f1 n1 c1))] (vB r) := by
 refine Pure_of_W (c := cd Tryd.f127 []) Tryd.func127 (by kernel_rfl) (N := 9) (by kernel_rfl) (Nat.le_of_ble_eq_true (by kernel_rfl)) ?_
 unfold s127 at h
 refine js ?_
 refine jr ?_
 refine jg [(0, vS e44 a0), (1, .cell (.c (.fn f1 n1 c1)))] 1 [0, 1] ?_
 refine thenQ_n ?_
 refine js ?_
 refine jr ?_
 refine jh [(5, vS e44 a0), (6, .cell (.c (.fn f1 n1 c1)))] 2 [5, 6] ?_
 obtain ⟨r1, gr1, h⟩ := bind_some h
 refine jl 7 Tryd.call138 (p138 L _ f1 n1 c1 g1 hg1 hc1 _ gr1) ?_
 refine jg [(4, vB (decide (r1 ≥ (0 : Int))))] 2 [4] ?_
 refine thenQ_n ?_
 refine jt ?_
 obtain rfl := si h
 exact jq [vB (decide (r1 ≥ (0 : Int)))]

/- system.elements$1 -/
def s128 (L : LP) (a0 : Int) (a1_0 : Int) : Option Bool :=
  some (decide (a0 ≥ a1_0))
theorem p128 (L : LP) (a0 : Int) (a1_0 : Int) (r : Bool) (h : s128 L a0 a1_0 = some r) : Pure X 128 [vU a0, .cell (.c (boxC [.int .u64 a1_0] 0))] (vB r) := by
 refine Pure_of_W (c := cd Tryd.f128 []) Tryd.func128 (by kernel_rfl) (N := 7) (by kernel_rfl) (Nat.le_of_ble_eq_true (by kernel_rfl)) ?_
 unfold s128 at h
 refine js ?_
 refine jr ?_
 refine jg [(0, vU a0), (1, .cell (.c (boxC [.int .u64 a1_0] 0)))] 1 [0, 1] ?_
 refine thenQ_n ?_
 refine js ?_
 refine jr ?_
 refine jg [(3, vB (decide (a0 ≥ a1_0)))] 4 [3] ?_
 refine thenQ_n ?_
 refine jt ?_
 obtain rfl := si h
 exact jq [vB (decide (a0 ≥ a1_0))]

/- system.elements -/
def s97 (L : LP) (a0 : Int) (a1 : (List Int)) : Option Bool :=
  (s73 L a0).bind fun r1 =>
  (s127 L a1 (fun x0 => s128 L x0 r1)).bind fun r2 =>
  some (!r2)
theorem p97 (L : LP) (a0 : Int) (a1 : (List Int)) (r : Bool) (h : s97 L a0 a1 = some r) : Pure X 97 [vI a0, vS e44 a1] (vB r) := by
 refine Pure_of_W (c := cd Tryd.f97 []) Tryd.func97 (by kernel_rfl) (N := 12) (by kernel_rfl) (Nat.le_of_ble_eq_true (by kernel_rfl)) ?_
 unfold s97 at h
 refine js ?_
 refine jr ?_
 refine jg [(0, vI a0), (1, vS e44 a1)] 1 [0, 1] ?_
 refine thenQ_n ?_
 refine js ?_
 refine jr ?_
 refine jh [(1, vS e44 a1), (6, vI a0)] 1 [1, 6] ?_
 obtain ⟨r1, gr1, h⟩ := bind_some h
 refine jl 7 Tryd.call73 (p73 L _ _ gr1) ?_
 refine jf [bL 44 [aU r1]] [(1, vS e44 a1), (5, vO 0 0 1 0 0)] 2 [1, 5] ?_
 refine thenQ_n ?_
 refine js ?_
 refine jr ?_
 refine jh [(5, vO 0 0 1 0 0), (8, vS e44 a1)] 1 [5, 8] ?_
 refine WO_ent (σ' := [none]) (T' := [(5, .cell (.c (boxC [.int .u64 r1] 0))), (8, vS e44 a1)]) (jE [.freeze 0]) ?_
 refine jh [(8, vS e44 a1), (9, .cell (.c (fnC 128 [boxC [.int .u64 r1] 0])))] 1 [8, 9] ?_
 obtain ⟨r2, gr2, h⟩ := bind_some h
 refine WO_call (f := 127) (all := [vS e44 a1, .cell (.c (fnC 128 [boxC [.int .u64 r1] 0]))]) (d := some 10) (r := vB r2) (by kernel_rfl) (by kernel_rfl) (by kernel_rfl) Tryd.call127 (pure_args (by kernel_rfl) (p127 L _ 128 1 (fun i => [boxC [.int .u64 r1] 0].getD i .jk) (fun x0 => s128 L x0 r1) (fun x0 _ h => pure_args (by kernel_rfl) (p128 L _ _ _ h)) Tryd.call128 _ gr2)) ?_
 refine jg [(4, vB (!r2))] 2 [4] ?_
 refine thenQ_n ?_
 refine jt ?_
 obtain rfl := si h
 exact jq [vB (!r2)]

/- system.columns$1 -/
def s107 (L : LP) (a0 : (List Int)) (a1_0 : Int) (a2_0 : Int) : Option Bool :=
  (bif (!(decide ((a0.length : Int) = a1_0))) then some true
  else (s97 L a2_0 a0).bind fun r2 =>
  some (!r2)).bind fun y1 =>
  some y1
theorem p107 (L : LP) (a0 : (List Int)) (a1_0 : Int) (a2_0 : Int) (r : Bool) (h : s107 L a0 a1_0 a2_0 = some r) : Pure X 107 [vS e44 a0, .cell (.c (boxC [.int .i64 a1_0] 0)), .cell (.c (boxC [.int .i64 a2_0] 0))] (vB r) := by
 refine Pure_of_W (c := cd Tryd.f107 []) Tryd.func107 (by kernel_rfl) (N := 15) (by kernel_rfl) (Nat.le_of_ble_eq_true (by kernel_rfl)) ?_
 unfold s107 at h
 refine js ?_
 refine jr ?_
 refine jg [(0, vS e44 a0), (1, .cell (.c (boxC [.int .i64 a1_0] 0))), (2, .cell (.c (boxC [.int .i64 a2_0] 0)))] 1 [0, 1, 2] ?_
 refine thenQ_n ?_
 refine js ?_
 refine jr ?_
 refine jh [(0, vS e44 a0), (2, .cell (.c (boxC [.int .i64 a2_0] 0))), (9, vB (!(decide ((a0.length : Int) = a1_0))))] 5 [0, 2, 9] ?_
 obtain ⟨y1, gy1, h⟩ := bind_some h
 refine jj 10 [(14, vB y1)] ?_ ?_
 · clear gy1
   refine jg [(4, vB y1)] 1 [4] ?_
   refine thenQ_n ?_
   refine jt ?_
   obtain rfl := si h
   exact jq [vB y1]
 · intro J
   clear h
   rcases Bool.eq_false_or_eq_true (!(decide ((a0.length : Int) = a1_0))) with hb | hb
   · have h := cond_t hb gy1; clear gy1
     refine jd 9 hb ?_
     obtain rfl := si h
     refine jh [(14, vB true)] 5 [14] J
   · have h := cond_f hb gy1; clear gy1
     refine jd 9 hb ?_
     refine jh [(9, vB false), (10, vI a2_0), (11, vS e44 a0)] 2 [9, 10, 11] ?_
     obtain ⟨r2, gr2, h⟩ := bind_some h
     refine jl 12 Tryd.call97 (p97 L _ _ _ gr2) ?_
     refine jh [(9, vB false), (13, vB (!r2))] 1 [9, 13] ?_
     obtain rfl := si h
     refine jh [(14, vB (!r2))] 1 [14] J

/- system.columns -/
def s62 (L : LP) (a0 : Int) (a1 : Int) (a2 : (List (List Int))) : Option Bool :=
  (s106 L a2 (fun x0 => s107 L x0 a1 a0)).bind fun r1 =>
  some (!r1)
theorem p62 (L : LP) (a0 : Int) (a1 : Int) (a2 : (List (List Int))) (r : Bool) (h : s62 L a0 a1 a2 = some r) : Pure X 62 [vI a0, vI a1, vS e28 a2] (vB r) := by
 refine Pure_of_W (c := cd Tryd.f62 []) Tryd.func62 (by kernel_rfl) (N := 11) (by kernel_rfl) (Nat.le_of_ble_eq_true (by kernel_rfl)) ?_
 unfold s62 at h
 refine js ?_
 refine jr ?_
 refine jf [bL 3 [aI a0], bL 3 [aI a1]] [(2, vS e28 a2), (3, vO 0 0 1 0 0), (4, vO 1 0 1 0 0)] 3 [2, 3, 4] ?_
 refine thenQ_n ?_
 refine js ?_
 refine jr ?_
 refine jh [(3, vO 0 0 1 0 0), (4, vO 1 0 1 0 0), (7, vS e28 a2)] 1 [3, 4, 7] ?_
 refine WO_ent (σ' := [none, none]) (T' := [(3, .cell (.c (boxC [.int .i64 a0] 0))), (4, .cell (.c (boxC [.int .i64 a1] 0))), (7, vS e28 a2)]) (jE [.freeze 1, .freeze 0]) ?_
 refine jh [(7, vS e28 a2), (8, .cell (.c (fnC 107 [boxC [.int .i64 a1] 0, boxC [.int .i64 a0] 0])))] 1 [7, 8] ?_
 obtain ⟨r1, gr1, h⟩ := bind_some h
 refine WO_call (f := 106) (all := [vS e28 a2, .cell (.c (fnC 107 [boxC [.int .i64 a1] 0, boxC [.int .i64 a0] 0]))]) (d := some 9) (r := vB r1) (by kernel_rfl) (by kernel_rfl) (by kernel_rfl) Tryd.call106 (pure_args (by kernel_rfl) (p106 L _ 107 2 (fun i => [boxC [.int .i64 a1] 0, boxC [.int .i64 a0] 0].getD i .jk) (fun x0 => s107 L x0 a1 a0) (fun x0 _ h => pure_args (by kernel_rfl) (p107 L _ _ _ _ h)) Tryd.call107 _ gr1)) ?_
 refine jg [(6, vB (!r1))] 2 [6] ?_
 refine thenQ_n ?_
 refine jt ?_
 obtain rfl := si h
 exact jq [vB (!r1)]

/- mono.Degree -/
def s66_1 (L : LP) (a0 : (List (Int × (List (Int × Int))))) (y2 : (Int × Int)) (y7 : (Int × Int)) : Option ((Int × Int) ⊕ Int) :=
  (bif (decide (y7.2 < (((a0.getD y2.2.toNat e74.d).2).length : Int))) then
  ((ck (0 ≤ y7.2 ∧ y7.2 < (((a0.getD y2.2.toNat e74.d).2).length : Int))).bind fun _ =>
  ((bif (decide (((((a0.getD y2.2.toNat e74.d).2).getD y7.2.toNat e61.d).1) = (1 : Int))) then
  some (decide (((((a0.getD y2.2.toNat e74.d).2).getD y7.2.toNat e61.d).1) = (1 : Int)))
  else (bif (decide (((((a0.getD y2.2.toNat e74.d).2).getD y7.2.toNat e61.d).1) = (2 : Int))) then
  some (decide (((((a0.getD y2.2.toNat e74.d).2).getD y7.2.toNat e61.d).1) = (2 : Int)))
  else (bif (decide (((((a0.getD y2.2.toNat e74.d).2).getD y7.2.toNat e61.d).1) = (3 : Int))) then
  some (decide (((((a0.getD y2.2.toNat e74.d).2).getD y7.2.toNat e61.d).1) = (3 : Int)))
  else (bif (decide (((((a0.getD y2.2.toNat e74.d).2).getD y7.2.toNat e61.d).1) = (5 : Int))) then
  some (decide (((((a0.getD y2.2.toNat e74.d).2).getD y7.2.toNat e61.d).1) = (5 : Int)))
  else some (decide (((((a0.getD y2.2.toNat e74.d).2).getD y7.2.toNat e61.d).1) = (6 : Int)))))))).bind fun (y12 : Bool) =>
  (bif y12 then
  (ck (inR .i64 (y7.1 + (1 : Int)))).bind fun _ =>
  some (y7.1 + (1 : Int))
  else some y7.1)).bind fun (y9 : Int) =>
  (ck (inR .i64 (y7.2 + (1 : Int)))).bind fun _ =>
  some (.inl (y9, (y7.2 + (1 : Int))))
  else some (.inr y7.1))
def s66_0 (L : LP) (a0 : (List (Int × (List (Int × Int))))) (y2 : (Int × Int)) : Option ((Int × Int) ⊕ Int) :=
  (bif (decide (y2.2 < (a0.length : Int))) then
  (ck (0 ≤ y2.2 ∧ y2.2 < (a0.length : Int))).bind fun _ =>
  ((L.run (s66_1 L a0 y2) ((0 : Int), (0 : Int))).bind (fun (v : Int) => some v)).bind fun (y5 : Int) =>
  (ck (inR .i64 (y2.2 + (1 : Int)))).bind fun _ =>
  some (.inl ((if y5 > y2.1 then y5 else y2.1), (y2.2 + (1 : Int))))
  else some (.inr y2.1))
def s66 (L : LP) (a0 : (List (Int × (List (Int × Int))))) : Option Int :=
  ((L.run (s66_0 L a0) ((0 : Int), (0 : Int))).bind (fun (v : Int) => some v)).bind fun (y1 : Int) =>
  some y1
theorem p66 (L : LP) (a0 : (List (Int × (List (Int × Int))))) (r : Int) (h : s66 L a0 = some r) : Pure X 66 [vS e74 a0] (vI r) := by
 refine Pure_of_W (c := cd Tryd.f66 []) Tryd.func66 (by kernel_rfl) (N := 38) (by kernel_rfl) (Nat.le_of_ble_eq_true (by kernel_rfl)) ?_
 unfold s66 at h
 refine js ?_
 refine jr ?_
 refine jg [(0, vS e74 a0)] 1 [0] ?_
 refine thenQ_n ?_
 refine js ?_
 refine jr ?_
 refine jg [(0, vS e74 a0), (3, vI 0)] 1 [0, 3] ?_
 refine thenQ_n ?_
 obtain ⟨y1, gy1, ky1⟩ := bind_some h
 refine W_cut (by kernel_rfl) [] [(3, vI y1)] ?_ ?_
 · have h := ky1; clear gy1 ky1
   refine js ?_
   refine jr ?_
   refine jg [(2, vI y1)] 2 [2] ?_
   refine thenQ_n ?_
   refine jt ?_
   obtain rfl := si h
   exact jq [vI y1]
 · have h := gy1; clear gy1 ky1
   refine js ?_
   refine jr ?_
   refine jg [(3, vI 0), (9, vS e74 a0), (10, vI (a0.length : Int)), (11, vI 0)] 3 [3, 9, 10, 11] ?_
   refine thenQ_n ?_
   refine jb 0 ?_
   obtain ⟨b3, gb3, kb3⟩ := bind_some h
   refine W_loop_at (S := fun (y2 : (Int × Int)) => ([], [(3, vI y2.1), (9, vS e74 a0), (10, vI (a0.length : Int)), (11, vI y2.2)])) (step := _) (x0 := ((0 : Int), (0 : Int))) (b := b3) (L.ok _ _ _ gb3) (by kernel_rfl) (jE [.keep [3, 9, 10, 11], .take 0]) ?_
   clear gb3 h; intro y2 o h; unfold s66_0 at h
   refine js ?_
   refine jr ?_
   refine jg [(3, vI y2.1), (9, vS e74 a0), (10, vI (a0.length : Int)), (11, vI y2.2), (12, vB (decide (y2.2 < (a0.length : Int))))] 1 [3, 9, 10, 11, 12] ?_
   refine thenQ_n ?_
   refine js ?_
   refine jc (decide (y2.2 < (a0.length : Int))) (fun hb => ?_) (fun hb => ?_)
   · have h := cond_t hb h
     refine jk ?_
     refine thenQ_n ?_
     refine js ?_
     refine jb 1 ?_
     refine js ?_
     refine jr ?_
     obtain ⟨c4, h⟩ := ck_bind h
     refine jF [bL 74 [aU ((a0.getD y2.2.toNat e74.d).1), aS e61 ((a0.getD y2.2.toNat e74.d).2)]] [(3, vI y2.1), (5, vO 0 0 2 0 0), (9, vS e74 a0), (10, vI (a0.length : Int)), (11, vI y2.2)] ((0 ≤ y2.2 ∧ y2.2 < (a0.length : Int)) ∧ (True)) 4 [3, 5, 9, 10, 11] ⟨c4, trivial⟩ ?_
     refine thenQ_n ?_
     refine js ?_
     refine jr ?_
     refine jg [(3, vI y2.1), (5, vO 0 0 2 0 0), (6, vI 0), (9, vS e74 a0), (10, vI (a0.length : Int)), (11, vI y2.2)] 1 [3, 5, 6, 9, 10, 11] ?_
     refine thenQ_n ?_
     obtain ⟨y5, gy5, ky5⟩ := bind_some h
     refine W_cut (by kernel_rfl) [bL 74 [aU ((a0.getD y2.2.toNat e74.d).1), aS e61 ((a0.getD y2.2.toNat e74.d).2)]] [(3, vI y2.1), (6, vI y5), (9, vS e74 a0), (10, vI (a0.length : Int)), (11, vI y2.2)] ?_ ?_
     · have h := ky5; clear gy5 ky5
       refine jr ?_
       refine jg [(3, vI (if y5 > y2.1 then y5 else y2.1)), (9, vS e74 a0), (10, vI (a0.length : Int)), (11, vI y2.2)] 4 [3, 9, 10, 11] ?_
       refine blockQ_n ?_
       refine thenQ_n ?_
       refine jr ?_
       obtain ⟨c6, h⟩ := ck_bind h
       refine jG [(3, vI (if y5 > y2.1 then y5 else y2.1)), (9, vS e74 a0), (10, vI (a0.length : Int)), (11, vI (y2.2 + (1 : Int)))] ((inR .i64 (y2.2 + (1 : Int))) ∧ (True)) 2 [3, 9, 10, 11] ⟨c6, trivial⟩ ?_
       obtain rfl := si h
       exact round_n _ rfl (jE [.keep [3, 9, 10, 11], .take 0])
     · have h := gy5; clear gy5 ky5
       refine js ?_
       refine jr ?_
       refine jg [(3, vI y2.1), (6, vI 0), (9, vS e74 a0), (10, vI (a0.length : Int)), (11, vI y2.2), (16, vS e61 ((a0.getD y2.2.toNat e74.d).2)), (17, vI (((a0.getD y2.2.toNat e74.d).2).length : Int)), (18, vI 0)] 4 [3, 6, 9, 10, 11, 16, 17, 18] ?_
       refine thenQ_n ?_
       refine jb 2 ?_
       obtain ⟨b8, gb8, kb8⟩ := bind_some h
       refine W_loop_at (S := fun (y7 : (Int × Int)) => ([bL 74 [aU ((a0.getD y2.2.toNat e74.d).1), aS e61 ((a0.getD y2.2.toNat e74.d).2)]], [(3, vI y2.1), (6, vI y7.1), (9, vS e74 a0), (10, vI (a0.length : Int)), (11, vI y2.2), (16, vS e61 ((a0.getD y2.2.toNat e74.d).2)), (17, vI (((a0.getD y2.2.toNat e74.d).2).length : Int)), (18, vI y7.2)])) (step := _) (x0 := ((0 : Int), (0 : Int))) (b := b8) (L.ok _ _ _ gb8) (by kernel_rfl) (jE [.keep [3, 6, 9, 10, 11, 16, 17, 18], .take 1]) ?_
       clear gb8 h; intro y7 o h; unfold s66_1 at h
       refine js ?_
       refine jr ?_
       refine jg [(3, vI y2.1), (6, vI y7.1), (9, vS e74 a0), (10, vI (a0.length : Int)), (11, vI y2.2), (16, vS e61 ((a0.getD y2.2.toNat e74.d).2)), (17, vI (((a0.getD y2.2.toNat e74.d).2).length : Int)), (18, vI y7.2), (19, vB (decide (y7.2 < (((a0.getD y2.2.toNat e74.d).2).length : Int))))] 1 [3, 6, 9, 10, 11, 16, 17, 18, 19] ?_
       refine thenQ_n ?_
       refine js ?_
       refine jc (decide (y7.2 < (((a0.getD y2.2.toNat e74.d).2).length : Int))) (fun hb => ?_) (fun hb => ?_)
       · have h := cond_t hb h
         refine jk ?_
         refine thenQ_n ?_
         obtain ⟨y9, gy9, ky9⟩ := bind_some h
         refine W_cut (by kernel_rfl) [bL 74 [aU ((a0.getD y2.2.toNat e74.d).1), aS e61 ((a0.getD y2.2.toNat e74.d).2)]] [(3, vI y2.1), (6, vI y9), (9, vS e74 a0), (10, vI (a0.length : Int)), (11, vI y2.2), (16, vS e61 ((a0.getD y2.2.toNat e74.d).2)), (17, vI (((a0.getD y2.2.toNat e74.d).2).length : Int)), (18, vI y7.2)] ?_ ?_
         · have h := ky9; clear gy9 ky9
           refine jr ?_
           obtain ⟨c10, h⟩ := ck_bind h
           refine jG [(3, vI y2.1), (6, vI y9), (9, vS e74 a0), (10, vI (a0.length : Int)), (11, vI y2.2), (16, vS e61 ((a0.getD y2.2.toNat e74.d).2)), (17, vI (((a0.getD y2.2.toNat e74.d).2).length : Int)), (18, vI (y7.2 + (1 : Int)))] ((inR .i64 (y7.2 + (1 : Int))) ∧ (True)) 2 [3, 6, 9, 10, 11, 16, 17, 18] ⟨c10, trivial⟩ ?_
           obtain rfl := si h
           exact round_n _ rfl (jE [.keep [3, 6, 9, 10, 11, 16, 17, 18], .take 1])
         · have h := gy9; clear gy9 ky9
           refine jb 3 ?_
           refine js ?_
           refine jr ?_
           obtain ⟨c11, h⟩ := ck_bind h
           refine jF [bL 74 [aU ((a0.getD y2.2.toNat e74.d).1), aS e61 ((a0.getD y2.2.toNat e74.d).2)], bL 61 [aY ((((a0.getD y2.2.toNat e74.d).2).getD y7.2.toNat e61.d).1), aI ((((a0.getD y2.2.toNat e74.d).2).getD y7.2.toNat e61.d).2)]] [(3, vI y2.1), (6, vI y7.1), (8, vO 1 0 2 0 0), (9, vS e74 a0), (10, vI (a0.length : Int)), (11, vI y2.2), (16, vS e61 ((a0.getD y2.2.toNat e74.d).2)), (17, vI (((a0.getD y2.2.toNat e74.d).2).length : Int)), (18, vI y7.2)] ((0 ≤ y7.2 ∧ y7.2 < (((a0.getD y2.2.toNat e74.d).2).length : Int)) ∧ (True)) 4 [3, 6, 8, 9, 10, 11, 16, 17, 18] ⟨c11, trivial⟩ ?_
           refine thenQ_n ?_
           refine js ?_
           refine jr ?_
           refine jg [(3, vI y2.1), (6, vI y7.1), (9, vS e74 a0), (10, vI (a0.length : Int)), (11, vI y2.2), (16, vS e61 ((a0.getD y2.2.toNat e74.d).2)), (17, vI (((a0.getD y2.2.toNat e74.d).2).length : Int)), (18, vI y7.2), (23, vY ((((a0.getD y2.2.toNat e74.d).2).getD y7.2.toNat e61.d).1))] 2 [3, 6, 9, 10, 11, 16, 17, 18, 23] ?_
           refine thenQ_n ?_
           refine jb 4 ?_
           obtain ⟨y12, gy12, ky12⟩ := bind_some h
           refine W_cut (by kernel_rfl) [bL 74 [aU ((a0.getD y2.2.toNat e74.d).1), aS e61 ((a0.getD y2.2.toNat e74.d).2)], bL 61 [aY ((((a0.getD y2.2.toNat e74.d).2).getD y7.2.toNat e61.d).1), aI ((((a0.getD y2.2.toNat e74.d).2).getD y7.2.toNat e61.d).2)]] [(3, vI y2.1), (6, vI y7.1), (9, vS e74 a0), (10, vI (a0.length : Int)), (11, vI y2.2), (16, vS e61 ((a0.getD y2.2.toNat e74.d).2)), (17, vI (((a0.getD y2.2.toNat e74.d).2).length : Int)), (18, vI y7.2), (24, vB y12)] ?_ ?_
           · have h := ky12; clear gy12 ky12
             refine jc y12 (fun hb => ?_) (fun hb => ?_)
             · have h := cond_t hb h
               refine jr ?_
               obtain ⟨c13, h⟩ := ck_bind h
               refine jG [(3, vI y2.1), (6, vI (y7.1 + (1 : Int))), (9, vS e74 a0), (10, vI (a0.length : Int)), (11, vI y2.2), (16, vS e61 ((a0.getD y2.2.toNat e74.d).2)), (17, vI (((a0.getD y2.2.toNat e74.d).2).length : Int)), (18, vI y7.2)] ((inR .i64 (y7.1 + (1 : Int))) ∧ (True)) 3 [3, 6, 9, 10, 11, 16, 17, 18] ⟨c13, trivial⟩ ?_
               refine blockQ_n ?_
               refine blockQ_n ?_
               obtain rfl := si h
               exact thenQ_n (jE [.keep [3, 6, 9, 10, 11, 16, 17, 18], .take 1])
             · have h := cond_f hb h
               refine jk ?_
               refine blockQ_n ?_
               refine blockQ_n ?_
               obtain rfl := si h
               exact thenQ_n (jE [.keep [3, 6, 9, 10, 11, 16, 17, 18], .take 1])
           · have h := gy12; clear gy12 ky12
             refine js ?_
             refine jr ?_
             refine jg [(3, vI y2.1), (6, vI y7.1), (9, vS e74 a0), (10, vI (a0.length : Int)), (11, vI y2.2), (16, vS e61 ((a0.getD y2.2.toNat e74.d).2)), (17, vI (((a0.getD y2.2.toNat e74.d).2).length : Int)), (18, vI y7.2), (23, vY ((((a0.getD y2.2.toNat e74.d).2).getD y7.2.toNat e61.d).1)), (24, vB (decide (((((a0.getD y2.2.toNat e74.d).2).getD y7.2.toNat e61.d).1) = (1 : Int))))] 2 [3, 6, 9, 10, 11, 16, 17, 18, 23, 24] ?_
             refine thenQ_n ?_
             refine jc (decide (((((a0.getD y2.2.toNat e74.d).2).getD y7.2.toNat e61.d).1) = (1 : Int))) (fun hb => ?_) (fun hb => ?_)
             · have h := cond_t hb h
               refine jk ?_
               obtain rfl := si h
               exact thenQ_n (jE [.keep [3, 6, 9, 10, 11, 16, 17, 18, 24], .take 2])
             · have h := cond_f hb h
               refine js ?_
               refine jr ?_
               refine jg [(3, vI y2.1), (6, vI y7.1), (9, vS e74 a0), (10, vI (a0.length : Int)), (11, vI y2.2), (16, vS e61 ((a0.getD y2.2.toNat e74.d).2)), (17, vI (((a0.getD y2.2.toNat e74.d).2).length : Int)), (18, vI y7.2), (23, vY ((((a0.getD y2.2.toNat e74.d).2).getD y7.2.toNat e61.d).1)), (24, vB (decide (((((a0.getD y2.2.toNat e74.d).2).getD y7.2.toNat e61.d).1) = (2 : Int))))] 2 [3, 6, 9, 10, 11, 16, 17, 18, 23, 24] ?_
               refine thenQ_n ?_
               refine jc (decide (((((a0.getD y2.2.toNat e74.d).2).getD y7.2.toNat e61.d).1) = (2 : Int))) (fun hb => ?_) (fun hb => ?_)
               · have h := cond_t hb h
                 refine jk ?_
                 obtain rfl := si h
                 exact thenQ_n (jE [.keep [3, 6, 9, 10, 11, 16, 17, 18, 24], .take 2])
               · have h := cond_f hb h
                 refine js ?_
                 refine jr ?_
                 refine jg [(3, vI y2.1), (6, vI y7.1), (9, vS e74 a0), (10, vI (a0.length : Int)), (11, vI y2.2), (16, vS e61 ((a0.getD y2.2.toNat e74.d).2)), (17, vI (((a0.getD y2.2.toNat e74.d).2).length : Int)), (18, vI y7.2), (23, vY ((((a0.getD y2.2.toNat e74.d).2).getD y7.2.toNat e61.d).1)), (24, vB (decide (((((a0.getD y2.2.toNat e74.d).2).getD y7.2.toNat e61.d).1) = (3 : Int))))] 2 [3, 6, 9, 10, 11, 16, 17, 18, 23, 24] ?_
                 refine thenQ_n ?_
                 refine jc (decide (((((a0.getD y2.2.toNat e74.d).2).getD y7.2.toNat e61.d).1) = (3 : Int))) (fun hb => ?_) (fun hb => ?_)
                 · have h := cond_t hb h
                   refine jk ?_
                   obtain rfl := si h
                   exact thenQ_n (jE [.keep [3, 6, 9, 10, 11, 16, 17, 18, 24], .take 2])
                 · have h := cond_f hb h
                   refine js ?_
                   refine jr ?_
                   refine jg [(3, vI y2.1), (6, vI y7.1), (9, vS e74 a0), (10, vI (a0.length : Int)), (11, vI y2.2), (16, vS e61 ((a0.getD y2.2.toNat e74.d).2)), (17, vI (((a0.getD y2.2.toNat e74.d).2).length : Int)), (18, vI y7.2), (23, vY ((((a0.getD y2.2.toNat e74.d).2).getD y7.2.toNat e61.d).1)), (24, vB (decide (((((a0.getD y2.2.toNat e74.d).2).getD y7.2.toNat e61.d).1) = (5 : Int))))] 2 [3, 6, 9, 10, 11, 16, 17, 18, 23, 24] ?_
                   refine thenQ_n ?_
                   refine jc (decide (((((a0.getD y2.2.toNat e74.d).2).getD y7.2.toNat e61.d).1) = (5 : Int))) (fun hb => ?_) (fun hb => ?_)
                   · have h := cond_t hb h
                     refine jk ?_
                     obtain rfl := si h
                     exact thenQ_n (jE [.keep [3, 6, 9, 10, 11, 16, 17, 18, 24], .take 2])
                   · have h := cond_f hb h
                     refine jr ?_
                     refine jg [(3, vI y2.1), (6, vI y7.1), (9, vS e74 a0), (10, vI (a0.length : Int)), (11, vI y2.2), (16, vS e61 ((a0.getD y2.2.toNat e74.d).2)), (17, vI (((a0.getD y2.2.toNat e74.d).2).length : Int)), (18, vI y7.2), (24, vB (decide (((((a0.getD y2.2.toNat e74.d).2).getD y7.2.toNat e61.d).1) = (6 : Int))))] 2 [3, 6, 9, 10, 11, 16, 17, 18, 24] ?_
                     obtain rfl := si h
                     exact thenQ_n (jE [.keep [3, 6, 9, 10, 11, 16, 17, 18, 24], .take 2])
       · have h := cond_f hb h
         refine je 2 ?_
         refine thenQ_e ?_
         obtain rfl := si h; refine round_e rfl (fun hb => ?_); subst hb; have h := kb8
         refine blockQ_hit ?_
         obtain rfl := si h
         exact thenQ_n (jE [.keep [3, 6, 9, 10, 11], .take 1])
   · have h := cond_f hb h
     refine je 0 ?_
     refine thenQ_e ?_
     obtain rfl := si h; refine round_e rfl (fun hb => ?_); subst hb; have h := kb3
     refine blockQ_hit ?_
     obtain rfl := si h
     exact thenQ_n (jE [.keep [3], .take 0])

/- system.knows -/
def s109 (L : LP) (a0_0 : Int) (a0_1 : Int) (a0_2 : Int) (a0_3 : Int) (a0_4 : (List (List Int))) (a0_5 : (List (Int × (List (Int × (List (Int × Int))))))) (a0_6 : (List ((List (List (Int × Int))) × (List (List (Int × Int)))))) (a0_7 : (List ((List (Int × Int)) × (List (Int × Int)) × Int × Int))) (a1_0 : Int) (a1_1 : Int) : Option Bool :=
  (((bif (decide (a1_0 = (1 : Int))) then
  some (decide (a1_0 = (1 : Int)))
  else some (decide (a1_0 = (2 : Int))))).bind fun (y3 : Bool) =>
  (bif y3 then
  some a0_2
  else (bif (decide (a1_0 = (3 : Int))) then
  some (a0_4.length : Int)
  else (bif (decide (a1_0 = (4 : Int))) then
  some a0_3
  else some (0 : Int))))).bind fun (y1 : Int) =>
  (bif (decide (a1_1 ≥ (0 : Int))) then some (decide (a1_1 < y1))
  else some false).bind fun y2 =>
  some y2
theorem p109 (L : LP) (a0_0 : Int) (a0_1 : Int) (a0_2 : Int) (a0_3 : Int) (a0_4 : (List (List Int))) (a0_5 : (List (Int × (List (Int × (List (Int × Int))))))) (a0_6 : (List ((List (List (Int × Int))) × (List (List (Int × Int)))))) (a0_7 : (List ((List (Int × Int)) × (List (Int × Int)) × Int × Int))) (a1_0 : Int) (a1_1 : Int) (r : Bool) (h : s109 L a0_0 a0_1 a0_2 a0_3 a0_4 a0_5 a0_6 a0_7 a1_0 a1_1 = some r) : Pure X 109 [.agg [aI a0_0, aI a0_1, aI a0_2, aI a0_3, aS e28 a0_4, aS e72 a0_5, aS e65 a0_6, aS e77 a0_7], .agg [aY a1_0, aI a1_1]] (vB r) := by
 refine Pure_of_W (c := cd Tryd.f109 []) Tryd.func109 (by kernel_rfl) (N := 31) (by kernel_rfl) (Nat.le_of_ble_eq_true (by kernel_rfl)) ?_
 unfold s109 at h
 refine js ?_
 refine jr ?_
 refine jf [bL 27 [aI a0_0, aI a0_1, aI a0_2, aI a0_3, aS e28 a0_4, aS e72 a0_5, aS e65 a0_6, aS e77 a0_7], bL 61 [aY a1_0, aI a1_1]] [(2, vO 0 0 8 0 0), (3, vO 1 0 2 0 0)] 3 [2, 3] ?_
 refine thenQ_n ?_
 refine js ?_
 refine jr ?_
 refine jg [(2, vO 0 0 8 0 0), (3, vO 1 0 2 0 0), (5, vI 0)] 1 [2, 3, 5] ?_
 refine thenQ_n ?_
 obtain ⟨y1, gy1, ky1⟩ := bind_some h
 refine W_cut (by kernel_rfl) [bL 27 [aI a0_0, aI a0_1, aI a0_2, aI a0_3, aS e28 a0_4, aS e72 a0_5, aS e65 a0_6, aS e77 a0_7], bL 61 [aY a1_0, aI a1_1]] [(3, vO 1 0 2 0 0), (5, vI y1)] ?_ ?_
 · have h := ky1; clear gy1 ky1
   refine js ?_
   refine jr ?_
   refine jh [(3, vO 1 0 2 0 0), (5, vI y1), (25, vB (decide (a1_1 ≥ (0 : Int))))] 4 [3, 5, 25] ?_
   obtain ⟨y2, gy2, h⟩ := bind_some h
   refine jj 9 [(30, vB y2)] ?_ ?_
   · clear gy2
     refine jg [(4, vB y2)] 1 [4] ?_
     refine thenQ_n ?_
     refine jt ?_
     obtain rfl := si h
     exact jq [vB y2]
   · intro J
     clear h
     rcases Bool.eq_false_or_eq_true (decide (a1_1 ≥ (0 : Int))) with hb | hb
     · have h := cond_t hb gy2; clear gy2
       refine jd 25 hb ?_
       refine jh [(25, vB true), (29, vB (decide (a1_1 < y1)))] 4 [25, 29] ?_
       obtain rfl := si h
       refine jh [(30, vB (decide (a1_1 < y1)))] 1 [30] J
     · have h := cond_f hb gy2; clear gy2
       refine jd 25 hb ?_
       obtain rfl := si h
       refine jh [(30, vB false)] 5 [30] J
 · have h := gy1; clear gy1 ky1
   refine js ?_
   refine jr ?_
   refine jg [(2, vO 0 0 8 0 0), (3, vO 1 0 2 0 0), (5, vI 0), (7, vY a1_0)] 2 [2, 3, 5, 7] ?_
   refine thenQ_n ?_
   refine jb 0 ?_
   obtain ⟨y3, gy3, ky3⟩ := bind_some h
   refine W_cut (by kernel_rfl) [bL 27 [aI a0_0, aI a0_1, aI a0_2, aI a0_3, aS e28 a0_4, aS e72 a0_5, aS e65 a0_6, aS e77 a0_7], bL 61 [aY a1_0, aI a1_1]] [(2, vO 0 0 8 0 0), (3, vO 1 0 2 0 0), (5, vI 0), (7, vY a1_0), (8, vB y3)] ?_ ?_
   · have h := ky3; clear gy3 ky3
     refine jc y3 (fun hb => ?_) (fun hb => ?_)
     · have h := cond_t hb h
       refine jr ?_
       refine jg [(3, vO 1 0 2 0 0), (5, vI a0_2)] 3 [3, 5] ?_
       refine blockQ_n ?_
       obtain rfl := si h
       exact thenQ_n (jE [.keep [3, 5], .take 2])
     · have h := cond_f hb h
       refine js ?_
       refine jr ?_
       refine jg [(2, vO 0 0 8 0 0), (3, vO 1 0 2 0 0), (5, vI 0), (7, vY a1_0), (13, vB (decide (a1_0 = (3 : Int))))] 2 [2, 3, 5, 7, 13] ?_
       refine thenQ_n ?_
       refine jc (decide (a1_0 = (3 : Int))) (fun hb => ?_) (fun hb => ?_)
       · have h := cond_t hb h
         refine jr ?_
         refine jg [(3, vO 1 0 2 0 0), (5, vI (a0_4.length : Int))] 4 [3, 5] ?_
         refine blockQ_n ?_
         obtain rfl := si h
         exact thenQ_n (jE [.keep [3, 5], .take 2])
       · have h := cond_f hb h
         refine js ?_
         refine jr ?_
         refine jg [(2, vO 0 0 8 0 0), (3, vO 1 0 2 0 0), (5, vI 0), (18, vB (decide (a1_0 = (4 : Int))))] 2 [2, 3, 5, 18] ?_
         refine thenQ_n ?_
         refine jc (decide (a1_0 = (4 : Int))) (fun hb => ?_) (fun hb => ?_)
         · have h := cond_t hb h
           refine jr ?_
           refine jg [(3, vO 1 0 2 0 0), (5, vI a0_3)] 3 [3, 5] ?_
           refine blockQ_n ?_
           obtain rfl := si h
           exact thenQ_n (jE [.keep [3, 5], .take 2])
         · have h := cond_f hb h
           refine jk ?_
           refine blockQ_n ?_
           obtain rfl := si h
           exact thenQ_n (jE [.keep [3, 5], .take 2])
   · have h := gy3; clear gy3 ky3
     refine js ?_
     refine jr ?_
     refine jg [(2, vO 0 0 8 0 0), (3, vO 1 0 2 0 0), (5, vI 0), (7, vY a1_0), (8, vB (decide (a1_0 = (1 : Int))))] 2 [2, 3, 5, 7, 8] ?_
     refine thenQ_n ?_
     refine jc (decide (a1_0 = (1 : Int))) (fun hb => ?_) (fun hb => ?_)
     · have h := cond_t hb h
       refine jk ?_
       obtain rfl := si h
       exact thenQ_n (jE [.keep [2, 3, 5, 7, 8], .take 2])
     · have h := cond_f hb h
       refine jr ?_
       refine jg [(2, vO 0 0 8 0 0), (3, vO 1 0 2 0 0), (5, vI 0), (7, vY a1_0), (8, vB (decide (a1_0 = (2 : Int))))] 2 [2, 3, 5, 7, 8] ?_
       obtain rfl := si h
       exact thenQ_n (jE [.keep [2, 3, 5, 7, 8], .take 2])

/- slices.IndexFunc[[]api.Var,api.Var] -/
def s130_0 (L : LP) (a0 : (List (Int × Int))) (g1 : Int → Int → Option Bool) (y3 : Int) : Option (Int ⊕ (Int ⊕ Unit)) :=
  (bif (decide (y3 < (a0.length : Int))) then
  (ck (0 ≤ y3 ∧ y3 < (a0.length : Int))).bind fun _ =>
  (g1 ((a0.getD y3.toNat e61.d).1) ((a0.getD y3.toNat e61.d).2)).bind fun r6 =>
  (bif r6 then
  some (.inr (.inl y3))
  else (ck (inR .i64 (y3 + (1 : Int)))).bind fun _ =>
  some (.inl (y3 + (1 : Int))))
  else some (.inr (.inr ())))
def s130 (L : LP) (a0 : (List (Int × Int))) (g1 : Int → Int → Option Bool) : Option Int :=
  ((L.run (s130_0 L a0 g1) (0 : Int)).bind (fun (b : Int ⊕ Unit) => (match b with
  | .inl v => some (.inr v)
  | .inr v => some (.inl ())))).bind fun (y1 : Unit ⊕ Int) => (match y1 with
  | .inl v2 => some (-1 : Int)
  | .inr v2 => some v2)
theorem p130 (L : LP) (a0 : (List (Int × Int))) (f1 n1 : Nat) (c1 : Nat → C) (g1 : Int → Int → Option Bool) (hg1 : ∀ (x0 : Int) (x1 : Int) (r : Bool), g1 x0 x1 = some r → Pure X f1 ([.agg [aY x0, aI x1]] ++ capsC n1 c1) (vB r)) (hc1 : ∀ (av : Array Value) (w : World), (callFunc f1 av).run X.P w = .ok (.enter f1 av) w) (r : Int) (h : s130 L a0 g1 = some r) : Pure X 130 [vS e61 a0, .cell (.c (.fn f1 n1 c1))] (vI r) := by
 refine Pure_of_W (c := cd Tryd.f130 []) Tryd.func130 (by kernel_rfl) (N := 19) (by kernel_rfl) (Nat.le_of_ble_eq_true (by kernel_rfl)) ?_
 unfold s130 at h
 refine js ?_
 refine jr ?_
 refine jg [(0, vS e61 a0), (1, .cell (.c (.fn f1 n1 c1)))] 1 [0, 1] ?_
 refine thenQ_n ?_
 obtain ⟨y1, gy1, ky1⟩ := bind_some h
 refine W_cutE (by kernel_rfl) (fun v2 => y1 = .inl v2) (fun v2 => ([], [])) ?_ ?_
 · intro v2 hv; subst hv; have h := ky1; clear gy1 ky1; dsimp only at h
   refine js ?_
   refine jr ?_
   refine jg [(4, vI (-1))] 1 [4] ?_
   refine thenQ_n ?_
   refine jt ?_
   obtain rfl := si h
   exact jq [vI (-1)]
 · have h := gy1; clear gy1
   refine js ?_
   refine jr ?_
   refine jg [(0, vS e61 a0), (1, .cell (.c (.fn f1 n1 c1))), (7, vI (a0.length : Int)), (8, vI 0)] 3 [0, 1, 7, 8] ?_
   refine thenQ_n ?_
   refine jb 0 ?_
   obtain ⟨b4, gb4, kb4⟩ := bind_some h
   refine W_loop_at (S := fun (y3 : Int) => ([], [(0, vS e61 a0), (1, .cell (.c (.fn f1 n1 c1))), (7, vI (a0.length : Int)), (8, vI y3)])) (step := _) (x0 := (0 : Int)) (b := b4) (L.ok _ _ _ gb4) (by kernel_rfl) (jE [.keep [0, 1, 7, 8], .take 0]) ?_
   clear gb4 h; intro y3 o h; unfold s130_0 at h
   refine js ?_
   refine jr ?_
   refine jg [(0, vS e61 a0), (1, .cell (.c (.fn f1 n1 c1))), (7, vI (a0.length : Int)), (8, vI y3), (9, vB (decide (y3 < (a0.length : Int))))] 1 [0, 1, 7, 8, 9] ?_
   refine thenQ_n ?_
   refine js ?_
   refine jc (decide (y3 < (a0.length : Int))) (fun hb => ?_) (fun hb => ?_)
   · have h := cond_t hb h
     refine jk ?_
     refine thenQ_n ?_
     refine js ?_
     refine jb 1 ?_
     refine js ?_
     refine jr ?_
     refine jg [(0, vS e61 a0), (1, .cell (.c (.fn f1 n1 c1))), (5, vI y3), (7, vI (a0.length : Int)), (8, vI y3)] 2 [0, 1, 5, 7, 8] ?_
     refine thenQ_n ?_
     refine js ?_
     refine jr ?_
     obtain ⟨c5, h⟩ := ck_bind h
     refine jH [(0, vS e61 a0), (1, .cell (.c (.fn f1 n1 c1))), (5, vI y3), (7, vI (a0.length : Int)), (8, vI y3), (11, .cell (.c (.fn f1 n1 c1))), (15, .agg [aY ((a0.getD y3.toNat e61.d).1), aI ((a0.getD y3.toNat e61.d).2)])] ((0 ≤ y3 ∧ y3 < (a0.length : Int)) ∧ (True)) 5 [0, 1, 5, 7, 8, 11, 15] ⟨c5, trivial⟩ ?_
     obtain ⟨r6, gr6, h⟩ := bind_some h
     refine WO_callf (f := f1) (n := n1) (cap := c1) (avs := [.agg [aY ((a0.getD y3.toNat e61.d).1), aI ((a0.getD y3.toNat e61.d).2)]]) (d := some 16) (r := vB r6) (by kernel_rfl) (by kernel_rfl) (by kernel_rfl) hc1 (hg1 _ _ _ gr6) ?_
     refine jg [(0, vS e61 a0), (1, .cell (.c (.fn f1 n1 c1))), (5, vI y3), (7, vI (a0.length : Int)), (8, vI y3), (16, vB r6)] 0 [0, 1, 5, 7, 8, 16] ?_
     refine thenQ_n ?_
     refine jc r6 (fun hb => ?_) (fun hb => ?_)
     · have h := cond_t hb h
       refine js ?_
       refine jr ?_
       refine jg [(4, vI y3)] 2 [4] ?_
       refine thenQ_n ?_
       refine jt ?_
       refine blockQ_r ?_
       refine thenQ_r ?_
       obtain rfl := si h; refine round_r rfl (fun hb => ?_); subst hb; have h := kb4; dsimp only at h
       refine blockQ_r ?_
       obtain rfl := si h; have h := ky1; dsimp only at h; refine thenQ_r ?_
       obtain rfl := si h
       exact jq [vI y3]
     · have h := cond_f hb h
       refine jk ?_
       refine blockQ_n ?_
       refine thenQ_n ?_
       refine jr ?_
       obtain ⟨c7, h⟩ := ck_bind h
       refine jG [(0, vS e61 a0), (1, .cell (.c (.fn f1 n1 c1))), (7, vI (a0.length : Int)), (8, vI (y3 + (1 : Int)))] ((inR .i64 (y3 + (1 : Int))) ∧ (True)) 2 [0, 1, 7, 8] ⟨c7, trivial⟩ ?_
       obtain rfl := si h
       exact round_n _ rfl (jE [.keep [0, 1, 7, 8], .take 0])
   · have h := cond_f hb h
     refine je 0 ?_
     refine thenQ_e ?_
     obtain rfl := si h; refine round_e rfl (fun hb => ?_); subst hb; have h := kb4; dsimp only at h
     refine blockQ_hit ?_
     obtain rfl := si h
     exact thenQ_n ⟨_, rfl, jE [.keep [], .take 0]⟩

/- slices.ContainsFunc[[]api.Var,api.Var] -/
def s110 (L : LP) (a0 : (List (Int × Int))) (g1 : Int → Int → Option Bool) : Option Bool :=
  (s130 L a0 g1).bind fun r1 =>
  some (decide (r1 ≥ (0 : Int)))
theorem p110 (L : LP) (a0 : (List (Int × Int))) (f1 n1 : Nat) (c1 : Nat → C) (g1 : Int → Int → Option Bool) (hg1 : ∀ (x0 : Int) (x1 : Int) (r : Bool), g1 x0 x1 = some r → Pure X f1 ([.agg [aY x0, aI x1]] ++ capsC n1 c1) (vB r)) (hc1 : ∀ (av : Array Value) (w : World), (callFunc f1 av).run X.P w = .ok (.enter f1 av) w) (r : Bool) (h : s110 L a0 g1 = some r) : Pure X 110 [vS e61 a0, .cell (.c (.fn f1 n1 c1))] (vB r) := by
 refine Pure_of_W (c := cd Tryd.f110 []) Tryd.func110 (by kernel_rfl) (N := 9) (by kernel_rfl) (Nat.le_of_ble_eq_true (by kernel_rfl)) ?_
 unfold s110 at h
 refine js ?_
 refine jr ?_
 refine jg [(0, vS e61 a0), (1, .cell (.c (.fn f1 n1 c1)))] 1 [0, 1] ?_
 refine thenQ_n ?_
 refine js ?_
 refine jr ?_
 refine jh [(5, vS e61 a0), (6, .cell (.c (.fn f1 n1 c1)))] 2 [5, 6] ?_
 obtain ⟨r1, gr1, h⟩ := bind_some h
 refine jl 7 Tryd.call130 (p130 L _ f1 n1 c1 g1 hg1 hc1 _ gr1) ?_
 refine jg [(4, vB (decide (r1 ≥ (0 : Int))))] 2 [4] ?_
 refine thenQ_n ?_
 refine jt ?_
 obtain rfl := si h
 exact jq [vB (decide (r1 ≥ (0 : Int)))]

/- system.ruled$1 -/
def s108 (L : LP) (a0_0 : Int) (a0_1 : Int) (a1_0 : Int) (a1_1 : Int) (a1_2 : Int) (a1_3 : Int) (a1_4 : (List (List Int))) (a1_5 : (List (Int × (List (Int × (List (Int × Int))))))) (a1_6 : (List ((List (List (Int × Int))) × (List (List (Int × Int)))))) (a1_7 : (List ((List (Int × Int)) × (List (Int × Int)) × Int × Int))) (a2_0 : Bool) : Option Bool :=
  (s109 L a1_0 a1_1 a1_2 a1_3 a1_4 a1_5 a1_6 a1_7 a0_0 a0_1).bind fun r1 =>
  (bif (!r1) then some true
  else (bif a2_0 then some (decide (a0_0 = (2 : Int)))
  else some false).bind fun y3 =>
  some y3).bind fun y2 =>
  some y2
theorem p108 (L : LP) (a0_0 : Int) (a0_1 : Int) (a1_0 : Int) (a1_1 : Int) (a1_2 : Int) (a1_3 : Int) (a1_4 : (List (List Int))) (a1_5 : (List (Int × (List (Int × (List (Int × Int))))))) (a1_6 : (List ((List (List (Int × Int))) × (List (List (Int × Int)))))) (a1_7 : (List ((List (Int × Int)) × (List (Int × Int)) × Int × Int))) (a2_0 : Bool) (r : Bool) (h : s108 L a0_0 a0_1 a1_0 a1_1 a1_2 a1_3 a1_4 a1_5 a1_6 a1_7 a2_0 = some r) : Pure X 108 [.agg [aY a0_0, aI a0_1], .cell (.c (boxC [.int .i64 a1_0, .int .i64 a1_1, .int .i64 a1_2, .int .i64 a1_3, slC e28 a1_4, slC e72 a1_5, slC e65 a1_6, slC e77 a1_7] 0)), .cell (.c (boxC [.bool a2_0] 0))] (vB r) := by
 refine Pure_of_W (c := cd Tryd.f108 []) Tryd.func108 (by kernel_rfl) (N := 17) (by kernel_rfl) (Nat.le_of_ble_eq_true (by kernel_rfl)) ?_
 unfold s108 at h
 refine js ?_
 refine jr ?_
 refine jf [bL 61 [aY a0_0, aI a0_1]] [(1, .cell (.c (boxC [.int .i64 a1_0, .int .i64 a1_1, .int .i64 a1_2, .int .i64 a1_3, slC e28 a1_4, slC e72 a1_5, slC e65 a1_6, slC e77 a1_7] 0))), (2, .cell (.c (boxC [.bool a2_0] 0))), (3, vO 0 0 2 0 0)] 2 [1, 2, 3] ?_
 refine thenQ_n ?_
 refine js ?_
 refine jr ?_
 refine jh [(2, .cell (.c (boxC [.bool a2_0] 0))), (3, vO 0 0 2 0 0), (5, .agg [aI a1_0, aI a1_1, aI a1_2, aI a1_3, aS e28 a1_4, aS e72 a1_5, aS e65 a1_6, aS e77 a1_7]), (6, .agg [aY a0_0, aI a0_1])] 2 [2, 3, 5, 6] ?_
 obtain ⟨r1, gr1, h⟩ := bind_some h
 refine jl 7 Tryd.call109 (p109 L _ _ _ _ _ _ _ _ _ _ _ gr1) ?_
 refine jh [(2, .cell (.c (boxC [.bool a2_0] 0))), (3, vO 0 0 2 0 0), (9, vB (!r1))] 2 [2, 3, 9] ?_
 obtain ⟨y2, gy2, h⟩ := bind_some h
 refine jj 12 [(16, vB y2)] ?_ ?_
 · clear gy2
   refine jg [(4, vB y2)] 1 [4] ?_
   refine thenQ_n ?_
   refine jt ?_
   obtain rfl := si h
   exact jq [vB y2]
 · intro J
   clear h
   rcases Bool.eq_false_or_eq_true (!r1) with hb | hb
   · have h := cond_t hb gy2; clear gy2
     refine jd 9 hb ?_
     obtain rfl := si h
     refine jh [(16, vB true)] 7 [16] J
   · have h := cond_f hb gy2; clear gy2
     refine jd 9 hb ?_
     refine jh [(3, vO 0 0 2 0 0), (9, vB false), (11, vB a2_0)] 2 [3, 9, 11] ?_
     obtain ⟨y3, gy3, h⟩ := bind_some h
     refine jj 11 [(9, vB false), (15, vB y3)] ?_ ?_
     · clear gy3
       obtain rfl := si h
       refine jh [(16, vB y3)] 1 [16] J
     · intro J
       clear h
       rcases Bool.eq_false_or_eq_true a2_0 with hb | hb
       · have h := cond_t hb gy3; clear gy3
         refine jd 11 hb ?_
         refine jh [(9, vB false), (11, vB true), (14, vB (decide (a0_0 = (2 : Int))))] 3 [9, 11, 14] ?_
         obtain rfl := si h
         refine jh [(9, vB false), (15, vB (decide (a0_0 = (2 : Int))))] 1 [9, 15] J
       · have h := cond_f hb gy3; clear gy3
         refine jd 11 hb ?_
         obtain rfl := si h
         refine jh [(9, vB false), (15, vB false)] 4 [9, 15] J

/- system.ruled -/
def s63_0 (L : LP) (a0_0 : Int) (a0_1 : Int) (a0_2 : Int) (a0_3 : Int) (a0_4 : (List (List Int))) (a0_5 : (List (Int × (List (Int × (List (Int × Int))))))) (a0_6 : (List ((List (List (Int × Int))) × (List (List (Int × Int)))))) (a0_7 : (List ((List (Int × Int)) × (List (Int × Int)) × Int × Int))) (a1_1 : (List (Int × (List (Int × Int))))) (y1 : Bool) (y7 : Int) : Option (Int ⊕ (Bool ⊕ Unit)) :=
  (bif (decide (y7 < (a1_1.length : Int))) then
  (ck (0 ≤ y7 ∧ y7 < (a1_1.length : Int))).bind fun _ =>
  (s73 L a0_0).bind fun r10 =>
  (bif (decide (((a1_1.getD y7.toNat e74.d).1) ≥ r10)) then some true
  else some (decide ((((a1_1.getD y7.toNat e74.d).2).length : Int) > (8 : Int)))).bind fun y11 =>
  (bif y11 then some true
  else (s110 L ((a1_1.getD y7.toNat e74.d).2) (fun x0 x1 => s108 L x0 x1 a0_0 a0_1 a0_2 a0_3 a0_4 a0_5 a0_6 a0_7 y1)).bind fun r14 =>
  some r14).bind fun y12 =>
  (bif y12 then
  some (.inr (.inl false))
  else (ck (inR .i64 (y7 + (1 : Int)))).bind fun _ =>
  some (.inl (y7 + (1 : Int))))
  else some (.inr (.inr ())))
def s63 (L : LP) (a0_0 : Int) (a0_1 : Int) (a0_2 : Int) (a0_3 : Int) (a0_4 : (List (List Int))) (a0_5 : (List (Int × (List (Int × (List (Int × Int))))))) (a0_6 : (List ((List (List (Int × Int))) × (List (List (Int × Int)))))) (a0_7 : (List ((List (Int × Int)) × (List (Int × Int)) × Int × Int))) (a1_0 : Int) (a1_1 : (List (Int × (List (Int × Int))))) : Option Bool :=
  (bif (decide (a1_0 = (3 : Int))) then some true
  else some (decide (a1_0 = (4 : Int)))).bind fun y1 =>
  (bif (decide (a1_0 < (1 : Int))) then some true
  else some (decide (a1_0 > (4 : Int)))).bind fun y2 =>
  (bif y2 then some true
  else some (decide ((a1_1.length : Int) > (64 : Int)))).bind fun y3 =>
  (bif y3 then some true
  else (bif y1 then (s66 L a1_1).bind fun r16 =>
  some (decide (r16 > (1 : Int)))
  else some false).bind fun y15 =>
  some y15).bind fun y4 =>
  (bif y4 then
  some false
  else ((L.run (s63_0 L a0_0 a0_1 a0_2 a0_3 a0_4 a0_5 a0_6 a0_7 a1_1 y1) (0 : Int)).bind (fun (b : Bool ⊕ Unit) => (match b with
  | .inl v => some (.inr v)
  | .inr v => some (.inl ())))).bind fun (y5 : Unit ⊕ Bool) => (match y5 with
  | .inl v6 => some true
  | .inr v6 => some v6))
theorem p63 (L : LP) (a0_0 : Int) (a0_1 : Int) (a0_2 : Int) (a0_3 : Int) (a0_4 : (List (List Int))) (a0_5 : (List (Int × (List (Int × (List (Int × Int))))))) (a0_6 : (List ((List (List (Int × Int))) × (List (List (Int × Int)))))) (a0_7 : (List ((List (Int × Int)) × (List (Int × Int)) × Int × Int))) (a1_0 : Int) (a1_1 : (List (Int × (List (Int × Int))))) (r : Bool) (h : s63 L a0_0 a0_1 a0_2 a0_3 a0_4 a0_5 a0_6 a0_7 a1_0 a1_1 = some r) : Pure X 63 [.agg [aI a0_0, aI a0_1, aI a0_2, aI a0_3, aS e28 a0_4, aS e72 a0_5, aS e65 a0_6, aS e77 a0_7], .agg [aY a1_0, aS e74 a1_1]] (vB r) := by
 refine Pure_of_W (c := cd Tryd.f63 []) Tryd.func63 (by kernel_rfl) (N := 67) (by kernel_rfl) (Nat.le_of_ble_eq_true (by kernel_rfl)) ?_
 unfold s63 at h
 refine js ?_
 refine jr ?_
 refine jf [bL 27 [aI a0_0, aI a0_1, aI a0_2, aI a0_3, aS e28 a0_4, aS e72 a0_5, aS e65 a0_6, aS e77 a0_7], bL 72 [aY a1_0, aS e74 a1_1]] [(2, vO 0 0 8 0 0), (3, vO 1 0 2 0 0)] 3 [2, 3] ?_
 refine thenQ_n ?_
 refine js ?_
 refine jr ?_
 refine jh [(2, vO 0 0 8 0 0), (3, vO 1 0 2 0 0), (12, vB (decide (a1_0 = (3 : Int))))] 4 [2, 3, 12] ?_
 obtain ⟨y1, gy1, h⟩ := bind_some h
 refine jj 8 [(2, vO 0 0 8 0 0), (3, vO 1 0 2 0 0), (16, vB y1)] ?_ ?_
 · clear gy1
   refine jf [bL 27 [aI a0_0, aI a0_1, aI a0_2, aI a0_3, aS e28 a0_4, aS e72 a0_5, aS e65 a0_6, aS e77 a0_7], bL 72 [aY a1_0, aS e74 a1_1], bL 4 [aB y1]] [(2, vO 0 0 8 0 0), (3, vO 1 0 2 0 0), (5, vO 2 0 1 0 0)] 2 [2, 3, 5] ?_
   refine thenQ_n ?_
   refine js ?_
   refine js ?_
   refine jr ?_
   refine jh [(2, vO 0 0 8 0 0), (3, vO 1 0 2 0 0), (5, vO 2 0 1 0 0), (20, vB (decide (a1_0 < (1 : Int))))] 4 [2, 3, 5, 20] ?_
   obtain ⟨y2, gy2, h⟩ := bind_some h
   refine jj 8 [(2, vO 0 0 8 0 0), (3, vO 1 0 2 0 0), (5, vO 2 0 1 0 0), (24, vB y2)] ?_ ?_
   · clear gy2
     refine jh [(2, vO 0 0 8 0 0), (3, vO 1 0 2 0 0), (5, vO 2 0 1 0 0), (25, vB y2)] 1 [2, 3, 5, 25] ?_
     obtain ⟨y3, gy3, h⟩ := bind_some h
     refine jj 14 [(2, vO 0 0 8 0 0), (3, vO 1 0 2 0 0), (5, vO 2 0 1 0 0), (30, vB y3)] ?_ ?_
     · clear gy3
       refine jh [(2, vO 0 0 8 0 0), (3, vO 1 0 2 0 0), (5, vO 2 0 1 0 0), (31, vB y3)] 1 [2, 3, 5, 31] ?_
       obtain ⟨y4, gy4, h⟩ := bind_some h
       refine jj 23 [(2, vO 0 0 8 0 0), (3, vO 1 0 2 0 0), (5, vO 2 0 1 0 0), (39, vB y4)] ?_ ?_
       · clear gy4
         refine jg [(2, vO 0 0 8 0 0), (3, vO 1 0 2 0 0), (5, vO 2 0 1 0 0), (39, vB y4)] 0 [2, 3, 5, 39] ?_
         refine thenQ_n ?_
         refine jc y4 (fun hb => ?_) (fun hb => ?_)
         · have h := cond_t hb h
           refine js ?_
           refine jr ?_
           refine jg [(4, vB false)] 1 [4] ?_
           refine thenQ_n ?_
           refine jt ?_
           refine thenQ_r ?_
           obtain rfl := si h
           exact jq [vB false]
         · have h := cond_f hb h
           refine jk ?_
           refine thenQ_n ?_
           refine js ?_
           refine jr ?_
           refine WO_ent (σ' := [none, bL 72 [aY a1_0, aS e74 a1_1], none]) (T' := [(2, .cell (.c (boxC [.int .i64 a0_0, .int .i64 a0_1, .int .i64 a0_2, .int .i64 a0_3, slC e28 a0_4, slC e72 a0_5, slC e65 a0_6, slC e77 a0_7] 0))), (3, vO 1 0 2 0 0), (5, .cell (.c (boxC [.bool y1] 0))), (39, vB y4)]) (jE [.freeze 0, .freeze 2]) ?_
           refine jg [(2, .cell (.c (boxC [.int .i64 a0_0, .int .i64 a0_1, .int .i64 a0_2, .int .i64 a0_3, slC e28 a0_4, slC e72 a0_5, slC e65 a0_6, slC e77 a0_7] 0))), (3, vO 1 0 2 0 0), (6, .cell (.c (fnC 108 [boxC [.int .i64 a0_0, .int .i64 a0_1, .int .i64 a0_2, .int .i64 a0_3, slC e28 a0_4, slC e72 a0_5, slC e65 a0_6, slC e77 a0_7] 0, boxC [.bool y1] 0])))] 2 [2, 3, 6] ?_
           refine thenQ_n ?_
           obtain ⟨y5, gy5, ky5⟩ := bind_some h
           refine W_cutE (by kernel_rfl) (fun v6 => y5 = .inl v6) (fun v6 => ([none, bL 72 [aY a1_0, aS e74 a1_1], none], [])) ?_ ?_
           · intro v6 hv; subst hv; have h := ky5; clear gy5 ky5; dsimp only at h
             refine js ?_
             refine jr ?_
             refine jg [(4, vB true)] 1 [4] ?_
             refine thenQ_n ?_
             refine jt ?_
             obtain rfl := si h
             exact jq [vB true]
           · have h := gy5; clear gy5
             refine js ?_
             refine jr ?_
             refine jg [(2, .cell (.c (boxC [.int .i64 a0_0, .int .i64 a0_1, .int .i64 a0_2, .int .i64 a0_3, slC e28 a0_4, slC e72 a0_5, slC e65 a0_6, slC e77 a0_7] 0))), (6, .cell (.c (fnC 108 [boxC [.int .i64 a0_0, .int .i64 a0_1, .int .i64 a0_2, .int .i64 a0_3, slC e28 a0_4, slC e72 a0_5, slC e65 a0_6, slC e77 a0_7] 0, boxC [.bool y1] 0]))), (42, vS e74 a1_1), (43, vI (a1_1.length : Int)), (44, vI 0)] 4 [2, 6, 42, 43, 44] ?_
             refine thenQ_n ?_
             refine jb 0 ?_
             obtain ⟨b8, gb8, kb8⟩ := bind_some h
             refine W_loop_at (S := fun (y7 : Int) => ([none, bL 72 [aY a1_0, aS e74 a1_1], none], [(2, .cell (.c (boxC [.int .i64 a0_0, .int .i64 a0_1, .int .i64 a0_2, .int .i64 a0_3, slC e28 a0_4, slC e72 a0_5, slC e65 a0_6, slC e77 a0_7] 0))), (6, .cell (.c (fnC 108 [boxC [.int .i64 a0_0, .int .i64 a0_1, .int .i64 a0_2, .int .i64 a0_3, slC e28 a0_4, slC e72 a0_5, slC e65 a0_6, slC e77 a0_7] 0, boxC [.bool y1] 0]))), (42, vS e74 a1_1), (43, vI (a1_1.length : Int)), (44, vI y7)])) (step := _) (x0 := (0 : Int)) (b := b8) (L.ok _ _ _ gb8) (by kernel_rfl) (jE [.keep [2, 6, 42, 43, 44], .take 3]) ?_
             clear gb8 h; intro y7 o h; unfold s63_0 at h
             refine js ?_
             refine jr ?_
             refine jg [(2, .cell (.c (boxC [.int .i64 a0_0, .int .i64 a0_1, .int .i64 a0_2, .int .i64 a0_3, slC e28 a0_4, slC e72 a0_5, slC e65 a0_6, slC e77 a0_7] 0))), (6, .cell (.c (fnC 108 [boxC [.int .i64 a0_0, .int .i64 a0_1, .int .i64 a0_2, .int .i64 a0_3, slC e28 a0_4, slC e72 a0_5, slC e65 a0_6, slC e77 a0_7] 0, boxC [.bool y1] 0]))), (42, vS e74 a1_1), (43, vI (a1_1.length : Int)), (44, vI y7), (45, vB (decide (y7 < (a1_1.length : Int))))] 1 [2, 6, 42, 43, 44, 45] ?_
             refine thenQ_n ?_
             refine js ?_
             refine jc (decide (y7 < (a1_1.length : Int))) (fun hb => ?_) (fun hb => ?_)
             · have h := cond_t hb h
               refine jk ?_
               refine thenQ_n ?_
               refine js ?_
               refine jb 1 ?_
               refine js ?_
               refine jr ?_
               obtain ⟨c9, h⟩ := ck_bind h
               refine jF [none, bL 72 [aY a1_0, aS e74 a1_1], none, bL 74 [aU ((a1_1.getD y7.toNat e74.d).1), aS e61 ((a1_1.getD y7.toNat e74.d).2)]] [(2, .cell (.c (boxC [.int .i64 a0_0, .int .i64 a0_1, .int .i64 a0_2, .int .i64 a0_3, slC e28 a0_4, slC e72 a0_5, slC e65 a0_6, slC e77 a0_7] 0))), (6, .cell (.c (fnC 108 [boxC [.int .i64 a0_0, .int .i64 a0_1, .int .i64 a0_2, .int .i64 a0_3, slC e28 a0_4, slC e72 a0_5, slC e65 a0_6, slC e77 a0_7] 0, boxC [.bool y1] 0]))), (8, vO 3 0 2 0 0), (42, vS e74 a1_1), (43, vI (a1_1.length : Int)), (44, vI y7)] ((0 ≤ y7 ∧ y7 < (a1_1.length : Int)) ∧ (True)) 4 [2, 6, 8, 42, 43, 44] ⟨c9, trivial⟩ ?_
               refine thenQ_n ?_
               refine js ?_
               refine jdr 18 mixed ?_
               refine jy 14 [(2, .cell (.c (boxC [.int .i64 a0_0, .int .i64 a0_1, .int .i64 a0_2, .int .i64 a0_3, slC e28 a0_4, slC e72 a0_5, slC e65 a0_6, slC e77 a0_7] 0))), (6, .cell (.c (fnC 108 [boxC [.int .i64 a0_0, .int .i64 a0_1, .int .i64 a0_2, .int .i64 a0_3, slC e28 a0_4, slC e72 a0_5, slC e65 a0_6, slC e77 a0_7] 0, boxC [.bool y1] 0]))), (8, vO 3 0 2 0 0), (42, vS e74 a1_1), (43, vI (a1_1.length : Int)), (44, vI y7), (49, vU ((a1_1.getD y7.toNat e74.d).1)), (51, vI a0_0)] 4 [2, 6, 8, 42, 43, 44, 49, 51] ?_
               obtain ⟨r10, gr10, h⟩ := bind_some h
               refine jL 52 Tryd.call73 (p73 L _ _ gr10) ?_
               refine jy 11 [(2, .cell (.c (boxC [.int .i64 a0_0, .int .i64 a0_1, .int .i64 a0_2, .int .i64 a0_3, slC e28 a0_4, slC e72 a0_5, slC e65 a0_6, slC e77 a0_7] 0))), (6, .cell (.c (fnC 108 [boxC [.int .i64 a0_0, .int .i64 a0_1, .int .i64 a0_2, .int .i64 a0_3, slC e28 a0_4, slC e72 a0_5, slC e65 a0_6, slC e77 a0_7] 0, boxC [.bool y1] 0]))), (8, vO 3 0 2 0 0), (42, vS e74 a1_1), (43, vI (a1_1.length : Int)), (44, vI y7), (54, vB (decide (((a1_1.getD y7.toNat e74.d).1) ≥ r10)))] 2 [2, 6, 8, 42, 43, 44, 54] ?_
               obtain ⟨y11, gy11, h⟩ := bind_some h
               refine WQ_join 6 12 [(2, .cell (.c (boxC [.int .i64 a0_0, .int .i64 a0_1, .int .i64 a0_2, .int .i64 a0_3, slC e28 a0_4, slC e72 a0_5, slC e65 a0_6, slC e77 a0_7] 0))), (6, .cell (.c (fnC 108 [boxC [.int .i64 a0_0, .int .i64 a0_1, .int .i64 a0_2, .int .i64 a0_3, slC e28 a0_4, slC e72 a0_5, slC e65 a0_6, slC e77 a0_7] 0, boxC [.bool y1] 0]))), (8, vO 3 0 2 0 0), (42, vS e74 a1_1), (43, vI (a1_1.length : Int)), (44, vI y7), (59, vB y11)] ?_ ?_
               · clear gy11
                 refine jy 5 [(2, .cell (.c (boxC [.int .i64 a0_0, .int .i64 a0_1, .int .i64 a0_2, .int .i64 a0_3, slC e28 a0_4, slC e72 a0_5, slC e65 a0_6, slC e77 a0_7] 0))), (6, .cell (.c (fnC 108 [boxC [.int .i64 a0_0, .int .i64 a0_1, .int .i64 a0_2, .int .i64 a0_3, slC e28 a0_4, slC e72 a0_5, slC e65 a0_6, slC e77 a0_7] 0, boxC [.bool y1] 0]))), (8, vO 3 0 2 0 0), (42, vS e74 a1_1), (43, vI (a1_1.length : Int)), (44, vI y7), (60, vB y11)] 1 [2, 6, 8, 42, 43, 44, 60] ?_
                 obtain ⟨y12, gy12, h⟩ := bind_some h
                 refine WQ_join 0 18 [(2, .cell (.c (boxC [.int .i64 a0_0, .int .i64 a0_1, .int .i64 a0_2, .int .i64 a0_3, slC e28 a0_4, slC e72 a0_5, slC e65 a0_6, slC e77 a0_7] 0))), (6, .cell (.c (fnC 108 [boxC [.int .i64 a0_0, .int .i64 a0_1, .int .i64 a0_2, .int .i64 a0_3, slC e28 a0_4, slC e72 a0_5, slC e65 a0_6, slC e77 a0_7] 0, boxC [.bool y1] 0]))), (42, vS e74 a1_1), (43, vI (a1_1.length : Int)), (44, vI y7), (65, vB y12)] ?_ ?_
                 · clear gy12
                   refine WQ_done ?_
                   refine jg [(2, .cell (.c (boxC [.int .i64 a0_0, .int .i64 a0_1, .int .i64 a0_2, .int .i64 a0_3, slC e28 a0_4, slC e72 a0_5, slC e65 a0_6, slC e77 a0_7] 0))), (6, .cell (.c (fnC 108 [boxC [.int .i64 a0_0, .int .i64 a0_1, .int .i64 a0_2, .int .i64 a0_3, slC e28 a0_4, slC e72 a0_5, slC e65 a0_6, slC e77 a0_7] 0, boxC [.bool y1] 0]))), (42, vS e74 a1_1), (43, vI (a1_1.length : Int)), (44, vI y7), (65, vB y12)] 0 [2, 6, 42, 43, 44, 65] ?_
                   refine thenQ_n ?_
                   refine jc y12 (fun hb => ?_) (fun hb => ?_)
                   · have h := cond_t hb h
                     refine js ?_
                     refine jr ?_
                     refine jg [(4, vB false)] 1 [4] ?_
                     refine thenQ_n ?_
                     refine jt ?_
                     refine blockQ_r ?_
                     refine thenQ_r ?_
                     obtain rfl := si h; refine round_r rfl (fun hb => ?_); subst hb; have h := kb8; dsimp only at h
                     refine blockQ_r ?_
                     obtain rfl := si h; have h := ky5; dsimp only at h; refine thenQ_r ?_
                     obtain rfl := si h
                     exact jq [vB false]
                   · have h := cond_f hb h
                     refine jk ?_
                     refine blockQ_n ?_
                     refine thenQ_n ?_
                     refine jr ?_
                     obtain ⟨c13, h⟩ := ck_bind h
                     refine jG [(2, .cell (.c (boxC [.int .i64 a0_0, .int .i64 a0_1, .int .i64 a0_2, .int .i64 a0_3, slC e28 a0_4, slC e72 a0_5, slC e65 a0_6, slC e77 a0_7] 0))), (6, .cell (.c (fnC 108 [boxC [.int .i64 a0_0, .int .i64 a0_1, .int .i64 a0_2, .int .i64 a0_3, slC e28 a0_4, slC e72 a0_5, slC e65 a0_6, slC e77 a0_7] 0, boxC [.bool y1] 0]))), (42, vS e74 a1_1), (43, vI (a1_1.length : Int)), (44, vI (y7 + (1 : Int)))] ((inR .i64 (y7 + (1 : Int))) ∧ (True)) 2 [2, 6, 42, 43, 44] ⟨c13, trivial⟩ ?_
                     obtain rfl := si h
                     exact round_n _ rfl (jE [.keep [2, 6, 42, 43, 44], .take 3])
                 · intro J
                   clear h
                   rcases Bool.eq_false_or_eq_true y11 with hb | hb
                   · have h := cond_t hb gy12; clear gy12
                     refine jD 60 hb ?_
                     obtain rfl := si h
                     refine jy 0 [(2, .cell (.c (boxC [.int .i64 a0_0, .int .i64 a0_1, .int .i64 a0_2, .int .i64 a0_3, slC e28 a0_4, slC e72 a0_5, slC e65 a0_6, slC e77 a0_7] 0))), (6, .cell (.c (fnC 108 [boxC [.int .i64 a0_0, .int .i64 a0_1, .int .i64 a0_2, .int .i64 a0_3, slC e28 a0_4, slC e72 a0_5, slC e65 a0_6, slC e77 a0_7] 0, boxC [.bool y1] 0]))), (42, vS e74 a1_1), (43, vI (a1_1.length : Int)), (44, vI y7), (65, vB true)] 5 [2, 6, 42, 43, 44, 65] J
                   · have h := cond_f hb gy12; clear gy12
                     refine jD 60 hb ?_
                     refine jy 2 [(2, .cell (.c (boxC [.int .i64 a0_0, .int .i64 a0_1, .int .i64 a0_2, .int .i64 a0_3, slC e28 a0_4, slC e72 a0_5, slC e65 a0_6, slC e77 a0_7] 0))), (6, .cell (.c (fnC 108 [boxC [.int .i64 a0_0, .int .i64 a0_1, .int .i64 a0_2, .int .i64 a0_3, slC e28 a0_4, slC e72 a0_5, slC e65 a0_6, slC e77 a0_7] 0, boxC [.bool y1] 0]))), (42, vS e74 a1_1), (43, vI (a1_1.length : Int)), (44, vI y7), (60, vB false), (61, vO 3 0 2 0 1), (62, vS e61 ((a1_1.getD y7.toNat e74.d).2)), (63, .cell (.c (fnC 108 [boxC [.int .i64 a0_0, .int .i64 a0_1, .int .i64 a0_2, .int .i64 a0_3, slC e28 a0_4, slC e72 a0_5, slC e65 a0_6, slC e77 a0_7] 0, boxC [.bool y1] 0])))] 3 [2, 6, 42, 43, 44, 60, 61, 62, 63] ?_
                     obtain ⟨r14, gr14, h⟩ := bind_some h
                     refine WQ_call (f := 110) (all := [vS e61 ((a1_1.getD y7.toNat e74.d).2), .cell (.c (fnC 108 [boxC [.int .i64 a0_0, .int .i64 a0_1, .int .i64 a0_2, .int .i64 a0_3, slC e28 a0_4, slC e72 a0_5, slC e65 a0_6, slC e77 a0_7] 0, boxC [.bool y1] 0]))]) (d := some 64) (r := vB r14) (by kernel_rfl) (by kernel_rfl) (by kernel_rfl) Tryd.call110 (pure_args (by kernel_rfl) (p110 L _ 108 2 (fun i => [boxC [.int .i64 a0_0, .int .i64 a0_1, .int .i64 a0_2, .int .i64 a0_3, slC e28 a0_4, slC e72 a0_5, slC e65 a0_6, slC e77 a0_7] 0, boxC [.bool y1] 0].getD i .jk) (fun x0 x1 => s108 L x0 x1 a0_0 a0_1 a0_2 a0_3 a0_4 a0_5 a0_6 a0_7 y1) (fun x0 x1 _ h => pure_args (by kernel_rfl) (p108 L _ _ _ _ _ _ _ _ _ _ _ _ h)) Tryd.call108 _ gr14)) ?_
                     obtain rfl := si h
                     refine jy 0 [(2, .cell (.c (boxC [.int .i64 a0_0, .int .i64 a0_1, .int .i64 a0_2, .int .i64 a0_3, slC e28 a0_4, slC e72 a0_5, slC e65 a0_6, slC e77 a0_7] 0))), (6, .cell (.c (fnC 108 [boxC [.int .i64 a0_0, .int .i64 a0_1, .int .i64 a0_2, .int .i64 a0_3, slC e28 a0_4, slC e72 a0_5, slC e65 a0_6, slC e77 a0_7] 0, boxC [.bool y1] 0]))), (42, vS e74 a1_1), (43, vI (a1_1.length : Int)), (44, vI y7), (65, vB r14)] 1 [2, 6, 42, 43, 44, 65] J
               · intro J
                 clear h
                 rcases Bool.eq_false_or_eq_true (decide (((a1_1.getD y7.toNat e74.d).1) ≥ r10)) with hb | hb
                 · have h := cond_t hb gy11; clear gy11
                   refine jD 54 hb ?_
                   obtain rfl := si h
                   refine jy 6 [(2, .cell (.c (boxC [.int .i64 a0_0, .int .i64 a0_1, .int .i64 a0_2, .int .i64 a0_3, slC e28 a0_4, slC e72 a0_5, slC e65 a0_6, slC e77 a0_7] 0))), (6, .cell (.c (fnC 108 [boxC [.int .i64 a0_0, .int .i64 a0_1, .int .i64 a0_2, .int .i64 a0_3, slC e28 a0_4, slC e72 a0_5, slC e65 a0_6, slC e77 a0_7] 0, boxC [.bool y1] 0]))), (8, vO 3 0 2 0 0), (42, vS e74 a1_1), (43, vI (a1_1.length : Int)), (44, vI y7), (59, vB true)] 5 [2, 6, 8, 42, 43, 44, 59] J
                 · have h := cond_f hb gy11; clear gy11
                   refine jD 54 hb ?_
                   refine jy 7 [(2, .cell (.c (boxC [.int .i64 a0_0, .int .i64 a0_1, .int .i64 a0_2, .int .i64 a0_3, slC e28 a0_4, slC e72 a0_5, slC e65 a0_6, slC e77 a0_7] 0))), (6, .cell (.c (fnC 108 [boxC [.int .i64 a0_0, .int .i64 a0_1, .int .i64 a0_2, .int .i64 a0_3, slC e28 a0_4, slC e72 a0_5, slC e65 a0_6, slC e77 a0_7] 0, boxC [.bool y1] 0]))), (8, vO 3 0 2 0 0), (42, vS e74 a1_1), (43, vI (a1_1.length : Int)), (44, vI y7), (54, vB false), (55, vO 3 0 2 0 1), (56, vS e61 ((a1_1.getD y7.toNat e74.d).2)), (57, vI (((a1_1.getD y7.toNat e74.d).2).length : Int)), (58, vB (decide ((((a1_1.getD y7.toNat e74.d).2).length : Int) > (8 : Int))))] 4 [2, 6, 8, 42, 43, 44, 54, 55, 56, 57, 58] ?_
                   obtain rfl := si h
                   refine jy 6 [(2, .cell (.c (boxC [.int .i64 a0_0, .int .i64 a0_1, .int .i64 a0_2, .int .i64 a0_3, slC e28 a0_4, slC e72 a0_5, slC e65 a0_6, slC e77 a0_7] 0))), (6, .cell (.c (fnC 108 [boxC [.int .i64 a0_0, .int .i64 a0_1, .int .i64 a0_2, .int .i64 a0_3, slC e28 a0_4, slC e72 a0_5, slC e65 a0_6, slC e77 a0_7] 0, boxC [.bool y1] 0]))), (8, vO 3 0 2 0 0), (42, vS e74 a1_1), (43, vI (a1_1.length : Int)), (44, vI y7), (59, vB (decide ((((a1_1.getD y7.toNat e74.d).2).length : Int) > (8 : Int))))] 1 [2, 6, 8, 42, 43, 44, 59] J
             · have h := cond_f hb h
               refine je 0 ?_
               refine thenQ_e ?_
               obtain rfl := si h; refine round_e rfl (fun hb => ?_); subst hb; have h := kb8; dsimp only at h
               refine blockQ_hit ?_
               obtain rfl := si h
               exact thenQ_n ⟨_, rfl, jE [.keep [], .take 3]⟩
       · intro J
         clear h
         rcases Bool.eq_false_or_eq_true y3 with hb | hb
         · have h := cond_t hb gy4; clear gy4
           refine jd 31 hb ?_
           obtain rfl := si h
           refine jh [(2, vO 0 0 8 0 0), (3, vO 1 0 2 0 0), (5, vO 2 0 1 0 0), (39, vB true)] 8 [2, 3, 5, 39] J
         · have h := cond_f hb gy4; clear gy4
           refine jd 31 hb ?_
           refine jh [(2, vO 0 0 8 0 0), (3, vO 1 0 2 0 0), (5, vO 2 0 1 0 0), (31, vB false), (33, vB y1)] 2 [2, 3, 5, 31, 33] ?_
           obtain ⟨y15, gy15, h⟩ := bind_some h
           refine jj 22 [(2, vO 0 0 8 0 0), (3, vO 1 0 2 0 0), (5, vO 2 0 1 0 0), (31, vB false), (38, vB y15)] ?_ ?_
           · clear gy15
             obtain rfl := si h
             refine jh [(2, vO 0 0 8 0 0), (3, vO 1 0 2 0 0), (5, vO 2 0 1 0 0), (39, vB y15)] 1 [2, 3, 5, 39] J
           · intro J
             clear h
             rcases Bool.eq_false_or_eq_true y1 with hb | hb
             · have h := cond_t hb gy15; clear gy15
               refine jd 33 hb ?_
               refine jh [(2, vO 0 0 8 0 0), (3, vO 1 0 2 0 0), (5, vO 2 0 1 0 0), (31, vB false), (33, vB true), (35, vS e74 a1_1)] 2 [2, 3, 5, 31, 33, 35] ?_
               obtain ⟨r16, gr16, h⟩ := bind_some h
               refine jl 36 Tryd.call66 (p66 L _ _ gr16) ?_
               refine jh [(2, vO 0 0 8 0 0), (3, vO 1 0 2 0 0), (5, vO 2 0 1 0 0), (31, vB false), (33, vB true), (37, vB (decide (r16 > (1 : Int))))] 1 [2, 3, 5, 31, 33, 37] ?_
               obtain rfl := si h
               refine jh [(2, vO 0 0 8 0 0), (3, vO 1 0 2 0 0), (5, vO 2 0 1 0 0), (31, vB false), (38, vB (decide (r16 > (1 : Int))))] 1 [2, 3, 5, 31, 38] J
             · have h := cond_f hb gy15; clear gy15
               refine jd 33 hb ?_
               obtain rfl := si h
               refine jh [(2, vO 0 0 8 0 0), (3, vO 1 0 2 0 0), (5, vO 2 0 1 0 0), (31, vB false), (38, vB false)] 5 [2, 3, 5, 31, 38] J
     · intro J
       clear h
       rcases Bool.eq_false_or_eq_true y2 with hb | hb
       · have h := cond_t hb gy3; clear gy3
         refine jd 25 hb ?_
         obtain rfl := si h
         refine jh [(2, vO 0 0 8 0 0), (3, vO 1 0 2 0 0), (5, vO 2 0 1 0 0), (30, vB true)] 5 [2, 3, 5, 30] J
       · have h := cond_f hb gy3; clear gy3
         refine jd 25 hb ?_
         refine jh [(2, vO 0 0 8 0 0), (3, vO 1 0 2 0 0), (5, vO 2 0 1 0 0), (25, vB false), (29, vB (decide ((a1_1.length : Int) > (64 : Int))))] 4 [2, 3, 5, 25, 29] ?_
         obtain rfl := si h
         refine jh [(2, vO 0 0 8 0 0), (3, vO 1 0 2 0 0), (5, vO 2 0 1 0 0), (30, vB (decide ((a1_1.length : Int) > (64 : Int))))] 1 [2, 3, 5, 30] J
   · intro J
     clear h
     rcases Bool.eq_false_or_eq_true (decide (a1_0 < (1 : Int))) with hb | hb
     · have h := cond_t hb gy2; clear gy2
       refine jd 20 hb ?_
       obtain rfl := si h
       refine jh [(2, vO 0 0 8 0 0), (3, vO 1 0 2 0 0), (5, vO 2 0 1 0 0), (24, vB true)] 4 [2, 3, 5, 24] J
     · have h := cond_f hb gy2; clear gy2
       refine jd 20 hb ?_
       refine jh [(2, vO 0 0 8 0 0), (3, vO 1 0 2 0 0), (5, vO 2 0 1 0 0), (20, vB false), (23, vB (decide (a1_0 > (4 : Int))))] 3 [2, 3, 5, 20, 23] ?_
       obtain rfl := si h
       refine jh [(2, vO 0 0 8 0 0), (3, vO 1 0 2 0 0), (5, vO 2 0 1 0 0), (24, vB (decide (a1_0 > (4 : Int))))] 1 [2, 3, 5, 24] J
 · intro J
   clear h
   rcases Bool.eq_false_or_eq_true (decide (a1_0 = (3 : Int))) with hb | hb
   · have h := cond_t hb gy1; clear gy1
     refine jd 12 hb ?_
     obtain rfl := si h
     refine jh [(2, vO 0 0 8 0 0), (3, vO 1 0 2 0 0), (16, vB true)] 4 [2, 3, 16] J
   · have h := cond_f hb gy1; clear gy1
     refine jd 12 hb ?_
     refine jh [(2, vO 0 0 8 0 0), (3, vO 1 0 2 0 0), (12, vB false), (15, vB (decide (a1_0 = (4 : Int))))] 3 [2, 3, 12, 15] ?_
     obtain rfl := si h
     refine jh [(2, vO 0 0 8 0 0), (3, vO 1 0 2 0 0), (16, vB (decide (a1_0 = (4 : Int))))] 1 [2, 3, 16] J

/- slices.Grow[[][]attestor/api.Var,[]attestor/api.Var] -/
theorem q103 (n : Int) (h0 : 0 ≤ n) (hb : n * 24 ≤ 140737488355328) (hn : n ≤ 140737488355328) : Fresh X 103 [.cell (.c .nsl), .cell (.c (.int .i64 n))] 62 1 0 (fun i j => (e62.row (([] : List (List (Int × Int))).getD i e62.d)).getD j .jk) := by
  refine Fresh_of_W (c := cd Tryd.f103 []) Tryd.func103 (by kernel_rfl) (N := 27) (by kernel_rfl) (Nat.le_of_ble_eq_true (by kernel_rfl)) ?_
  refine W_seq_at (by kernel_rfl) ?_
  refine W_region_at (by kernel_rfl) ?_
  refine WO_fin (σ' := []) (T' := [(0, .cell (.c .nsl)), (1, .cell (.c (.int .i64 n)))]) (Φ := True) 1 [0, 1] (by kernel_rfl) trivial (by kernel_rfl) ?_
  refine thenQ_n ?_
  refine W_seq_at (by kernel_rfl) ?_
  refine W_seq_at (by kernel_rfl) ?_
  refine W_region_at (by kernel_rfl) ?_
  refine WO_fin (σ' := []) (T' := [(0, .cell (.c .nsl)), (1, .cell (.c (.int .i64 n))), (6, .cell (.c (.bool (decide (n < (0 : Int))))))]) (Φ := True) 2 [0, 1, 6] (by kernel_rfl) trivial (by kernel_rfl) ?_
  refine thenQ_n ?_
  refine W_cond_at (b := decide (n < (0 : Int))) (by kernel_rfl) (fun hb => ?_) (fun hb => ?_)
  · exact absurd (of_decide_eq_true hb) (by omega)
  · refine W_skip_at (by kernel_rfl) ?_
    refine thenQ_n ?_
    refine W_seq_at (by kernel_rfl) ?_
    refine W_seq_at (by kernel_rfl) ?_
    refine W_region_at (by kernel_rfl) ?_
    refine WO_exk (σ' := []) (T' := [(0, .cell (.c .nsl)), (8, .cell (.c (.int .i64 n))), (9, .cell (.c .nsl))]) (Φ := True) 2 [0, 8, 9] (by kernel_rfl) trivial ?_
    refine WO_capnil (d := some 10) (by kernel_rfl) ?_
    refine WO_fin (σ' := []) (T' := [(0, .cell (.c .nsl)), (1, .cell (.c (.int .i64 (n - ((0 : Int) - (0 : Int))))))]) (Φ := inR .i64 ((0 : Int) - (0 : Int)) ∧ inR .i64 (n - ((0 : Int) - (0 : Int))) ∧ True) 5 [0, 1] (by kernel_rfl) ⟨by simp [inR], ⟨by omega, by omega⟩, trivial⟩ (by kernel_rfl) ?_
    refine thenQ_n ?_
    refine W_seq_at (by kernel_rfl) ?_
    refine W_region_at (by kernel_rfl) ?_
    refine WO_fin (σ' := []) (T' := [(0, .cell (.c .nsl)), (1, .cell (.c (.int .i64 (n - ((0 : Int) - (0 : Int)))))), (16, .cell (.c (.bool (decide ((n - ((0 : Int) - (0 : Int))) > (0 : Int))))))]) (Φ := True) 2 [0, 1, 16] (by kernel_rfl) trivial (by kernel_rfl) ?_
    refine thenQ_n ?_
    refine W_cond_at (b := decide ((n - ((0 : Int) - (0 : Int))) > (0 : Int))) (by kernel_rfl) (fun hb => ?_) (fun hb => ?_)
    · have hpos := of_decide_eq_true hb
      refine W_region_at (by kernel_rfl) ?_
      refine WO_exk (σ' := []) (T' := [(0, .cell (.c .nsl)), (1, .cell (.c (.int .i64 (n - ((0 : Int) - (0 : Int)))))), (17, .cell (.c .nsl)), (18, .cell (.c .nsl))]) (Φ := True) 2 [0, 1, 17, 18] (by kernel_rfl) trivial ?_
      refine WO_capnil (d := some 19) (by kernel_rfl) ?_
      refine WO_slicenil (d := some 20) (by kernel_rfl) ?_
      refine WO_exk (σ' := []) (T' := [(0, .cell (.c .nsl)), (20, .cell (.c .nsl)), (21, .cell (.c (.int .i64 (n - ((0 : Int) - (0 : Int))))))]) (Φ := True) 1 [0, 20, 21] (by kernel_rfl) trivial ?_
      refine WO_appz (d := some 22) (e := 62) (i := (⟨.slice 61, 1, 24, [.nsl]⟩ : TI)) (n := (n - ((0 : Int) - (0 : Int)))) (by kernel_rfl) hpos (by show (n - ((0 : Int) - (0 : Int))) * 24 ≤ _; omega) (by omega) ?_
      refine WO_exk (σ' := [some (.rows 0 62 1 (n - ((0 : Int) - (0 : Int))).toNat fun _ j => (⟨.slice 61, 1, 24, [.nsl]⟩ : TI).zero.getD j .jk)]) (T' := [(22, .cell (.sl 0 0 (n - ((0 : Int) - (0 : Int))).toNat)), (24, .cell (.c (.int .i64 (0 : Int))))]) (Φ := True) 2 [22, 24] (by kernel_rfl) trivial ?_
      refine WO_cut0 (d := some 25) (b := 0) (ver := 0) (by kernel_rfl) rfl ?_
      refine WO_fin (σ' := [some (.rows 1 62 1 0 fun _ j => (⟨.slice 61, 1, 24, [.nsl]⟩ : TI).zero.getD j .jk)]) (T' := [(0, .cell (.sl 0 1 0))]) (Φ := True) 1 [0] (by kernel_rfl) trivial (by kernel_rfl) ?_
      refine thenQ_n ?_
      refine W_ent (ent_rows (σ' := [some (.rows 1 62 1 0 (fun i j => (e62.row (([] : List (List (Int × Int))).getD i e62.d)).getD j .jk))]) (b := 0) rfl (fun i hi => absurd hi (Nat.not_lt_zero _)) rfl) ?_
      refine W_seq_at (by kernel_rfl) ?_
      refine W_region_at (by kernel_rfl) ?_
      refine WO_fin (σ' := [some (.rows 1 62 1 0 (fun i j => (e62.row (([] : List (List (Int × Int))).getD i e62.d)).getD j .jk))]) (T' := [(4, .cell (.sl 0 1 0))]) (Φ := True) 2 [4] (by kernel_rfl) trivial (by kernel_rfl) ?_
      refine thenQ_n ?_
      refine W_ret_at (by kernel_rfl) ?_
      exact ⟨.inl rfl, 4, 0, 1, by kernel_rfl, by kernel_rfl, by kernel_rfl⟩
    · refine W_skip_at (by kernel_rfl) ?_
      refine thenQ_n ?_
      refine W_ent (σ' := [some (.rows 0 62 1 0 (fun i j => (e62.row (([] : List (List (Int × Int))).getD i e62.d)).getD j .jk))]) (T' := [(0, .cell (.sl 0 0 0)), (1, .cell (.c (.int .i64 (n - ((0 : Int) - (0 : Int)))))), (16, .cell (.c (.bool (decide ((n - ((0 : Int) - (0 : Int))) > (0 : Int))))))]) (stps_ok [.own 0 62 1 (fun i j => (e62.row (([] : List (List (Int × Int))).getD i e62.d)).getD j .jk)] (by kernel_rfl)) ?_
      refine W_seq_at (by kernel_rfl) ?_
      refine W_region_at (by kernel_rfl) ?_
      refine WO_fin (σ' := [some (.rows 0 62 1 0 (fun i j => (e62.row (([] : List (List (Int × Int))).getD i e62.d)).getD j .jk))]) (T' := [(4, .cell (.sl 0 0 0))]) (Φ := True) 2 [4] (by kernel_rfl) trivial (by kernel_rfl) ?_
      refine thenQ_n ?_
      refine W_ret_at (by kernel_rfl) ?_
      exact ⟨.inl rfl, 4, 0, 0, by kernel_rfl, by kernel_rfl, by kernel_rfl⟩

/- slices.Concat[[][]api.Var,[]api.Var] -/
def s56_0 (L : LP) (a0 : (List (List (List (Int × Int))))) (y4 : (Int × (List (List (Int × Int))))) : Option ((Int × (List (List (Int × Int)))) ⊕ (List (List (Int × Int)))) :=
  (bif (decide (y4.1 < (a0.length : Int))) then
  (ck (0 ≤ y4.1 ∧ y4.1 < (a0.length : Int))).bind fun _ =>
  (ck ((y4.2.length + (a0.getD y4.1.toNat e63.d).length) * 24 ≤ 140737488355328 ∧ y4.2.length + (a0.getD y4.1.toNat e63.d).length ≤ 140737488355328)).bind fun _ =>
  (ck (inR .i64 (y4.1 + (1 : Int)))).bind fun _ =>
  some (.inl ((y4.1 + (1 : Int)), (y4.2 ++ (a0.getD y4.1.toNat e63.d))))
  else some (.inr y4.2))
def s56_1 (L : LP) (a0 : (List (List (List (Int × Int))))) (y9 : (Int × Int)) : Option ((Int × Int) ⊕ Int) :=
  (bif (decide (y9.2 < (a0.length : Int))) then
  ((ck (0 ≤ y9.2 ∧ y9.2 < (a0.length : Int))).bind fun _ =>
  (ck (inR .i64 (y9.1 + ((a0.getD y9.2.toNat e63.d).length : Int)))).bind fun _ =>
  (bif (decide ((y9.1 + ((a0.getD y9.2.toNat e63.d).length : Int)) < (0 : Int))) then
  none
  else some ())).bind fun (y11 : Unit) =>
  (ck (inR .i64 (y9.2 + (1 : Int)))).bind fun _ =>
  some (.inl ((y9.1 + ((a0.getD y9.2.toNat e63.d).length : Int)), (y9.2 + (1 : Int))))
  else some (.inr y9.1))
def s56 (L : LP) (a0 : (List (List (List (Int × Int))))) : Option (List (List (Int × Int))) :=
  ((L.run (s56_1 L a0) ((0 : Int), (0 : Int))).bind (fun (v : Int) => some v)).bind fun (y1 : Int) =>
  (ck (0 ≤ y1 ∧ y1 * 24 ≤ 140737488355328 ∧ y1 ≤ 140737488355328)).bind fun _ =>
  ((L.run (s56_0 L a0) ((0 : Int), ([] : List (List (Int × Int))))).bind (fun (v : (List (List (Int × Int)))) => some v)).bind fun (y3 : (List (List (Int × Int)))) =>
  some y3
theorem p56 (L : LP) (a0 : (List (List (List (Int × Int))))) (r : (List (List (Int × Int)))) (h : s56 L a0 = some r) : Pure X 56 [vS e63 a0] (vS e62 r) := by
 refine Pure_of_W (c := cd Tryd.f56 []) Tryd.func56 (by kernel_rfl) (N := 36) (by kernel_rfl) (Nat.le_of_ble_eq_true (by kernel_rfl)) ?_
 unfold s56 at h
 refine js ?_
 refine jr ?_
 refine jg [(0, vS e63 a0)] 1 [0] ?_
 refine thenQ_n ?_
 refine js ?_
 refine jr ?_
 refine jg [(0, vS e63 a0), (3, vI 0)] 1 [0, 3] ?_
 refine thenQ_n ?_
 obtain ⟨y1, gy1, ky1⟩ := bind_some h
 refine W_cut (by kernel_rfl) [] [(0, vS e63 a0), (3, vI y1)] ?_ ?_
 · have h := ky1; clear gy1 ky1
   refine js ?_
   refine jr ?_
   refine jh [(0, vS e63 a0), (23, vI y1)] 1 [0, 23] ?_
   obtain ⟨c2, h⟩ := ck_bind h
   refine WO_fresh (f := 103) (all := [.cell (.c (.nsl)), vI y1]) (d := some 24) (by kernel_rfl) (by kernel_rfl) Tryd.call103 (q103 y1 c2.1 c2.2.1 c2.2.2) ?_
   refine jg [(0, vS e63 a0), (6, vW 0 0 0)] 1 [0, 6] ?_
   refine thenQ_n ?_
   obtain ⟨y3, gy3, ky3⟩ := bind_some h
   refine W_cut (by kernel_rfl) [some (rwB e62 0 62 y3)] [(6, vW 0 0 y3.length)] ?_ ?_
   · have h := ky3; clear gy3 ky3
     refine js ?_
     refine jr ?_
     refine jg [(2, vW 0 0 y3.length)] 2 [2] ?_
     refine thenQ_n ?_
     refine jt ?_
     obtain rfl := si h
     exact jq [vW 0 0 y3.length]
   · have h := gy3; clear gy3 ky3
     refine js ?_
     refine jr ?_
     refine jg [(6, vW 0 0 0), (25, vS e63 a0), (26, vI (a0.length : Int)), (27, vI 0)] 3 [6, 25, 26, 27] ?_
     refine thenQ_n ?_
     refine jb 2 ?_
     obtain ⟨b5, gb5, kb5⟩ := bind_some h
     refine W_loop_at (S := fun (y4 : (Int × (List (List (Int × Int))))) => ([some (rwB e62 0 62 y4.2)], [(6, vW 0 0 y4.2.length), (25, vS e63 a0), (26, vI (a0.length : Int)), (27, vI y4.1)])) (step := _) (x0 := ((0 : Int), ([] : List (List (Int × Int))))) (b := b5) (L.ok _ _ _ gb5) (by kernel_rfl) (jE [.keep [6, 25, 26, 27], .take 1, .ver0 0]) ?_
     clear gb5 h; intro y4 o h; unfold s56_0 at h
     refine js ?_
     refine jr ?_
     refine jg [(6, vW 0 0 y4.2.length), (25, vS e63 a0), (26, vI (a0.length : Int)), (27, vI y4.1), (28, vB (decide (y4.1 < (a0.length : Int))))] 1 [6, 25, 26, 27, 28] ?_
     refine thenQ_n ?_
     refine js ?_
     refine jc (decide (y4.1 < (a0.length : Int))) (fun hb => ?_) (fun hb => ?_)
     · have h := cond_t hb h
       refine jk ?_
       refine thenQ_n ?_
       refine js ?_
       refine jb 3 ?_
       refine js ?_
       refine jr ?_
       obtain ⟨c6, h⟩ := ck_bind h
       refine jG [(6, vW 0 0 y4.2.length), (8, vS e62 (a0.getD y4.1.toNat e63.d)), (25, vS e63 a0), (26, vI (a0.length : Int)), (27, vI y4.1)] ((0 ≤ y4.1 ∧ y4.1 < (a0.length : Int)) ∧ (True)) 3 [6, 8, 25, 26, 27] ⟨c6, trivial⟩ ?_
       refine thenQ_n ?_
       refine jr ?_
       refine jh [(25, vS e63 a0), (26, vI (a0.length : Int)), (27, vI y4.1), (31, vW 0 0 y4.2.length), (32, vS e62 (a0.getD y4.1.toNat e63.d))] 2 [25, 26, 27, 31, 32] ?_
       obtain ⟨c7, h⟩ := ck_bind h
       refine WO_app e62 y4.2 (a0.getD y4.1.toNat e63.d) (b := 0) (ver := 0) (e := 62) (d := 33) (row2 := fun i j => (e62.row ((a0.getD y4.1.toNat e63.d).getD i e62.d)).getD j .jk) (Φ := (0 = 0 ∧ (y4.2.length + (a0.getD y4.1.toNat e63.d).length) * 24 ≤ 140737488355328 ∧ y4.2.length + (a0.getD y4.1.toNat e63.d).length ≤ 140737488355328) ∧ True) (σ' := [some (rwB e62 1 62 (y4.2 ++ (a0.getD y4.1.toNat e63.d)))]) (T' := [(33, vW 0 1 ((y4.2 ++ (a0.getD y4.1.toNat e63.d)).length)), (25, vS e63 a0), (26, vI (a0.length : Int)), (27, vI y4.1), (31, vW 0 0 y4.2.length), (32, vS e62 (a0.getD y4.1.toNat e63.d))]) (by kernel_rfl) ⟨⟨rfl, c7⟩, trivial⟩ (Nat.le_of_ble_eq_true (by kernel_rfl)) (fun _ _ _ _ => rfl) (by kernel_rfl) (by kernel_rfl) ?_
       refine jg [(6, vW 0 1 ((y4.2 ++ (a0.getD y4.1.toNat e63.d)).length)), (25, vS e63 a0), (26, vI (a0.length : Int)), (27, vI y4.1)] 1 [6, 25, 26, 27] ?_
       refine blockQ_n ?_
       refine thenQ_n ?_
       refine jr ?_
       obtain ⟨c8, h⟩ := ck_bind h
       refine jG [(6, vW 0 1 ((y4.2 ++ (a0.getD y4.1.toNat e63.d)).length)), (25, vS e63 a0), (26, vI (a0.length : Int)), (27, vI (y4.1 + (1 : Int)))] ((inR .i64 (y4.1 + (1 : Int))) ∧ (True)) 2 [6, 25, 26, 27] ⟨c8, trivial⟩ ?_
       obtain rfl := si h
       exact round_n _ rfl (jE [.keep [6, 25, 26, 27], .take 1, .ver0 0])
     · have h := cond_f hb h
       refine je 2 ?_
       refine thenQ_e ?_
       obtain rfl := si h; refine round_e rfl (fun hb => ?_); subst hb; have h := kb5
       refine blockQ_hit ?_
       obtain rfl := si h
       exact thenQ_n (jE [.keep [6], .take 1, .ver0 0])
 · have h := gy1; clear gy1 ky1
   refine js ?_
   refine jr ?_
   refine jg [(0, vS e63 a0), (3, vI 0), (9, vS e63 a0), (10, vI (a0.length : Int)), (11, vI 0)] 3 [0, 3, 9, 10, 11] ?_
   refine thenQ_n ?_
   refine jb 0 ?_
   obtain ⟨b10, gb10, kb10⟩ := bind_some h
   refine W_loop_at (S := fun (y9 : (Int × Int)) => ([], [(0, vS e63 a0), (3, vI y9.1), (9, vS e63 a0), (10, vI (a0.length : Int)), (11, vI y9.2)])) (step := _) (x0 := ((0 : Int), (0 : Int))) (b := b10) (L.ok _ _ _ gb10) (by kernel_rfl) (jE [.keep [0, 3, 9, 10, 11], .take 0]) ?_
   clear gb10 h; intro y9 o h; unfold s56_1 at h
   refine js ?_
   refine jr ?_
   refine jg [(0, vS e63 a0), (3, vI y9.1), (9, vS e63 a0), (10, vI (a0.length : Int)), (11, vI y9.2), (12, vB (decide (y9.2 < (a0.length : Int))))] 1 [0, 3, 9, 10, 11, 12] ?_
   refine thenQ_n ?_
   refine js ?_
   refine jc (decide (y9.2 < (a0.length : Int))) (fun hb => ?_) (fun hb => ?_)
   · have h := cond_t hb h
     refine jk ?_
     refine thenQ_n ?_
     obtain ⟨y11, gy11, ky11⟩ := bind_some h
     refine W_cut (by kernel_rfl) [] [(0, vS e63 a0), (3, vI (y9.1 + ((a0.getD y9.2.toNat e63.d).length : Int))), (9, vS e63 a0), (10, vI (a0.length : Int)), (11, vI y9.2)] ?_ ?_
     · have h := ky11; clear gy11 ky11
       refine jr ?_
       obtain ⟨c12, h⟩ := ck_bind h
       refine jG [(0, vS e63 a0), (3, vI (y9.1 + ((a0.getD y9.2.toNat e63.d).length : Int))), (9, vS e63 a0), (10, vI (a0.length : Int)), (11, vI (y9.2 + (1 : Int)))] ((inR .i64 (y9.2 + (1 : Int))) ∧ (True)) 2 [0, 3, 9, 10, 11] ⟨c12, trivial⟩ ?_
       obtain rfl := si h
       exact round_n _ rfl (jE [.keep [0, 3, 9, 10, 11], .take 0])
     · have h := gy11; clear gy11 ky11
       refine jb 1 ?_
       refine js ?_
       refine jr ?_
       obtain ⟨c13, h⟩ := ck_bind h
       refine jG [(0, vS e63 a0), (3, vI y9.1), (5, vS e62 (a0.getD y9.2.toNat e63.d)), (9, vS e63 a0), (10, vI (a0.length : Int)), (11, vI y9.2)] ((0 ≤ y9.2 ∧ y9.2 < (a0.length : Int)) ∧ (True)) 3 [0, 3, 5, 9, 10, 11] ⟨c13, trivial⟩ ?_
       refine thenQ_n ?_
       refine js ?_
       refine jr ?_
       obtain ⟨c14, h⟩ := ck_bind h
       refine jG [(0, vS e63 a0), (3, vI (y9.1 + ((a0.getD y9.2.toNat e63.d).length : Int))), (9, vS e63 a0), (10, vI (a0.length : Int)), (11, vI y9.2)] ((inR .i64 (y9.1 + ((a0.getD y9.2.toNat e63.d).length : Int))) ∧ (True)) 5 [0, 3, 9, 10, 11] ⟨c14, trivial⟩ ?_
       refine thenQ_n ?_
       refine js ?_
       refine jr ?_
       refine jg [(0, vS e63 a0), (3, vI (y9.1 + ((a0.getD y9.2.toNat e63.d).length : Int))), (9, vS e63 a0), (10, vI (a0.length : Int)), (11, vI y9.2), (20, vB (decide ((y9.1 + ((a0.getD y9.2.toNat e63.d).length : Int)) < (0 : Int))))] 2 [0, 3, 9, 10, 11, 20] ?_
       refine thenQ_n ?_
       refine jc (decide ((y9.1 + ((a0.getD y9.2.toNat e63.d).length : Int)) < (0 : Int))) (fun hb => ?_) (fun hb => ?_)
       · have h := cond_t hb h
         cases h
       · have h := cond_f hb h
         refine jk ?_
         refine blockQ_n ?_
         obtain rfl := si h
         exact thenQ_n (jE [.keep [0, 3, 9, 10, 11], .take 0])
   · have h := cond_f hb h
     refine je 0 ?_
     refine thenQ_e ?_
     obtain rfl := si h; refine round_e rfl (fun hb => ?_); subst hb; have h := kb10
     refine blockQ_hit ?_
     obtain rfl := si h
     exact thenQ_n (jE [.keep [0, 3], .take 0])

/- slices.Index[[]api.VarKind,api.VarKind] -/
def s139_0 (L : LP) (a0 : (List Int)) (a1 : Int) (y3 : Int) : Option (Int ⊕ (Int ⊕ Unit)) :=
  (bif (decide (y3 < (a0.length : Int))) then
  (ck (0 ≤ y3 ∧ y3 < (a0.length : Int))).bind fun _ =>
  (bif (decide (a1 = (a0.getD y3.toNat e59.d))) then
  some (.inr (.inl y3))
  else (ck (inR .i64 (y3 + (1 : Int)))).bind fun _ =>
  some (.inl (y3 + (1 : Int))))
  else some (.inr (.inr ())))
def s139 (L : LP) (a0 : (List Int)) (a1 : Int) : Option Int :=
  ((L.run (s139_0 L a0 a1) (0 : Int)).bind (fun (b : Int ⊕ Unit) => (match b with
  | .inl v => some (.inr v)
  | .inr v => some (.inl ())))).bind fun (y1 : Unit ⊕ Int) => (match y1 with
  | .inl v2 => some (-1 : Int)
  | .inr v2 => some v2)
theorem p139 (L : LP) (a0 : (List Int)) (a1 : Int) (r : Int) (h : s139 L a0 a1 = some r) : Pure X 139 [vS e59 a0, vY a1] (vI r) := by
 refine Pure_of_W (c := cd Tryd.f139 []) Tryd.func139 (by kernel_rfl) (N := 19) (by kernel_rfl) (Nat.le_of_ble_eq_true (by kernel_rfl)) ?_
 unfold s139 at h
 refine js ?_
 refine jr ?_
 refine jg [(0, vS e59 a0), (1, vY a1)] 1 [0, 1] ?_
 refine thenQ_n ?_
 obtain ⟨y1, gy1, ky1⟩ := bind_some h
 refine W_cutE (by kernel_rfl) (fun v2 => y1 = .inl v2) (fun v2 => ([], [])) ?_ ?_
 · intro v2 hv; subst hv; have h := ky1; clear gy1 ky1; dsimp only at h
   refine js ?_
   refine jr ?_
   refine jg [(4, vI (-1))] 1 [4] ?_
   refine thenQ_n ?_
   refine jt ?_
   obtain rfl := si h
   exact jq [vI (-1)]
 · have h := gy1; clear gy1
   refine js ?_
   refine jr ?_
   refine jg [(0, vS e59 a0), (1, vY a1), (7, vI (a0.length : Int)), (8, vI 0)] 3 [0, 1, 7, 8] ?_
   refine thenQ_n ?_
   refine jb 0 ?_
   obtain ⟨b4, gb4, kb4⟩ := bind_some h
   refine W_loop_at (S := fun (y3 : Int) => ([], [(0, vS e59 a0), (1, vY a1), (7, vI (a0.length : Int)), (8, vI y3)])) (step := _) (x0 := (0 : Int)) (b := b4) (L.ok _ _ _ gb4) (by kernel_rfl) (jE [.keep [0, 1, 7, 8], .take 0]) ?_
   clear gb4 h; intro y3 o h; unfold s139_0 at h
   refine js ?_
   refine jr ?_
   refine jg [(0, vS e59 a0), (1, vY a1), (7, vI (a0.length : Int)), (8, vI y3), (9, vB (decide (y3 < (a0.length : Int))))] 1 [0, 1, 7, 8, 9] ?_
   refine thenQ_n ?_
   refine js ?_
   refine jc (decide (y3 < (a0.length : Int))) (fun hb => ?_) (fun hb => ?_)
   · have h := cond_t hb h
     refine jk ?_
     refine thenQ_n ?_
     refine js ?_
     refine jb 1 ?_
     refine js ?_
     refine jr ?_
     refine jg [(0, vS e59 a0), (1, vY a1), (5, vI y3), (7, vI (a0.length : Int)), (8, vI y3)] 2 [0, 1, 5, 7, 8] ?_
     refine thenQ_n ?_
     refine js ?_
     refine jr ?_
     obtain ⟨c5, h⟩ := ck_bind h
     refine jG [(0, vS e59 a0), (1, vY a1), (5, vI y3), (7, vI (a0.length : Int)), (8, vI y3), (16, vB (decide (a1 = (a0.getD y3.toNat e59.d))))] ((0 ≤ y3 ∧ y3 < (a0.length : Int)) ∧ (True)) 6 [0, 1, 5, 7, 8, 16] ⟨c5, trivial⟩ ?_
     refine thenQ_n ?_
     refine jc (decide (a1 = (a0.getD y3.toNat e59.d))) (fun hb => ?_) (fun hb => ?_)
     · have h := cond_t hb h
       refine js ?_
       refine jr ?_
       refine jg [(4, vI y3)] 2 [4] ?_
       refine thenQ_n ?_
       refine jt ?_
       refine blockQ_r ?_
       refine thenQ_r ?_
       obtain rfl := si h; refine round_r rfl (fun hb => ?_); subst hb; have h := kb4; dsimp only at h
       refine blockQ_r ?_
       obtain rfl := si h; have h := ky1; dsimp only at h; refine thenQ_r ?_
       obtain rfl := si h
       exact jq [vI y3]
     · have h := cond_f hb h
       refine jk ?_
       refine blockQ_n ?_
       refine thenQ_n ?_
       refine jr ?_
       obtain ⟨c6, h⟩ := ck_bind h
       refine jG [(0, vS e59 a0), (1, vY a1), (7, vI (a0.length : Int)), (8, vI (y3 + (1 : Int)))] ((inR .i64 (y3 + (1 : Int))) ∧ (True)) 2 [0, 1, 7, 8] ⟨c6, trivial⟩ ?_
       obtain rfl := si h
       exact round_n _ rfl (jE [.keep [0, 1, 7, 8], .take 0])
   · have h := cond_f hb h
     refine je 0 ?_
     refine thenQ_e ?_
     obtain rfl := si h; refine round_e rfl (fun hb => ?_); subst hb; have h := kb4; dsimp only at h
     refine blockQ_hit ?_
     obtain rfl := si h
     exact thenQ_n ⟨_, rfl, jE [.keep [], .take 0]⟩

/- slices.Contains[[]api.VarKind,api.VarKind] -/
def s132 (L : LP) (a0 : (List Int)) (a1 : Int) : Option Bool :=
  (s139 L a0 a1).bind fun r1 =>
  some (decide (r1 ≥ (0 : Int)))
theorem p132 (L : LP) (a0 : (List Int)) (a1 : Int) (r : Bool) (h : s132 L a0 a1 = some r) : Pure X 132 [vS e59 a0, vY a1] (vB r) := by
 refine Pure_of_W (c := cd Tryd.f132 []) Tryd.func132 (by kernel_rfl) (N := 9) (by kernel_rfl) (Nat.le_of_ble_eq_true (by kernel_rfl)) ?_
 unfold s132 at h
 refine js ?_
 refine jr ?_
 refine jg [(0, vS e59 a0), (1, vY a1)] 1 [0, 1] ?_
 refine thenQ_n ?_
 refine js ?_
 refine jr ?_
 refine jh [(5, vS e59 a0), (6, vY a1)] 2 [5, 6] ?_
 obtain ⟨r1, gr1, h⟩ := bind_some h
 refine jl 7 Tryd.call139 (p139 L _ _ _ gr1) ?_
 refine jg [(4, vB (decide (r1 ≥ (0 : Int))))] 2 [4] ?_
 refine thenQ_n ?_
 refine jt ?_
 obtain rfl := si h
 exact jq [vB (decide (r1 ≥ (0 : Int)))]

/- system.tupled$1 -/
def s131 (L : LP) (a0_0 : Int) (a0_1 : Int) (a1_0 : Int) (a1_1 : Int) (a1_2 : Int) (a1_3 : Int) (a1_4 : (List (List Int))) (a1_5 : (List (Int × (List (Int × (List (Int × Int))))))) (a1_6 : (List ((List (List (Int × Int))) × (List (List (Int × Int)))))) (a1_7 : (List ((List (Int × Int)) × (List (Int × Int)) × Int × Int))) (a2_0 : (List Int)) : Option Bool :=
  (s109 L a1_0 a1_1 a1_2 a1_3 a1_4 a1_5 a1_6 a1_7 a0_0 a0_1).bind fun r1 =>
  (bif (!r1) then some true
  else (s132 L a2_0 a0_0).bind fun r3 =>
  some (!r3)).bind fun y2 =>
  some y2
theorem p131 (L : LP) (a0_0 : Int) (a0_1 : Int) (a1_0 : Int) (a1_1 : Int) (a1_2 : Int) (a1_3 : Int) (a1_4 : (List (List Int))) (a1_5 : (List (Int × (List (Int × (List (Int × Int))))))) (a1_6 : (List ((List (List (Int × Int))) × (List (List (Int × Int)))))) (a1_7 : (List ((List (Int × Int)) × (List (Int × Int)) × Int × Int))) (a2_0 : (List Int)) (r : Bool) (h : s131 L a0_0 a0_1 a1_0 a1_1 a1_2 a1_3 a1_4 a1_5 a1_6 a1_7 a2_0 = some r) : Pure X 131 [.agg [aY a0_0, aI a0_1], .cell (.c (boxC [.int .i64 a1_0, .int .i64 a1_1, .int .i64 a1_2, .int .i64 a1_3, slC e28 a1_4, slC e72 a1_5, slC e65 a1_6, slC e77 a1_7] 0)), .cell (.c (boxC [slC e59 a2_0] 0))] (vB r) := by
 refine Pure_of_W (c := cd Tryd.f131 []) Tryd.func131 (by kernel_rfl) (N := 16) (by kernel_rfl) (Nat.le_of_ble_eq_true (by kernel_rfl)) ?_
 unfold s131 at h
 refine js ?_
 refine jr ?_
 refine jf [bL 61 [aY a0_0, aI a0_1]] [(1, .cell (.c (boxC [.int .i64 a1_0, .int .i64 a1_1, .int .i64 a1_2, .int .i64 a1_3, slC e28 a1_4, slC e72 a1_5, slC e65 a1_6, slC e77 a1_7] 0))), (2, .cell (.c (boxC [slC e59 a2_0] 0))), (3, vO 0 0 2 0 0)] 2 [1, 2, 3] ?_
 refine thenQ_n ?_
 refine js ?_
 refine jr ?_
 refine jh [(2, .cell (.c (boxC [slC e59 a2_0] 0))), (3, vO 0 0 2 0 0), (5, .agg [aI a1_0, aI a1_1, aI a1_2, aI a1_3, aS e28 a1_4, aS e72 a1_5, aS e65 a1_6, aS e77 a1_7]), (6, .agg [aY a0_0, aI a0_1])] 2 [2, 3, 5, 6] ?_
 obtain ⟨r1, gr1, h⟩ := bind_some h
 refine jl 7 Tryd.call109 (p109 L _ _ _ _ _ _ _ _ _ _ _ gr1) ?_
 refine jh [(2, .cell (.c (boxC [slC e59 a2_0] 0))), (3, vO 0 0 2 0 0), (9, vB (!r1))] 2 [2, 3, 9] ?_
 obtain ⟨y2, gy2, h⟩ := bind_some h
 refine jj 11 [(15, vB y2)] ?_ ?_
 · clear gy2
   refine jg [(4, vB y2)] 1 [4] ?_
   refine thenQ_n ?_
   refine jt ?_
   obtain rfl := si h
   exact jq [vB y2]
 · intro J
   clear h
   rcases Bool.eq_false_or_eq_true (!r1) with hb | hb
   · have h := cond_t hb gy2; clear gy2
     refine jd 9 hb ?_
     obtain rfl := si h
     refine jh [(15, vB true)] 6 [15] J
   · have h := cond_f hb gy2; clear gy2
     refine jd 9 hb ?_
     refine jh [(9, vB false), (10, vS e59 a2_0), (12, vY a0_0)] 3 [9, 10, 12] ?_
     obtain ⟨r3, gr3, h⟩ := bind_some h
     refine jl 13 Tryd.call132 (p132 L _ _ _ gr3) ?_
     refine jh [(9, vB false), (14, vB (!r3))] 1 [9, 14] ?_
     obtain rfl := si h
     refine jh [(15, vB (!r3))] 1 [15] J

/- system.tupled -/
def s111 (L : LP) (a0_0 : Int) (a0_1 : Int) (a0_2 : Int) (a0_3 : Int) (a0_4 : (List (List Int))) (a0_5 : (List (Int × (List (Int × (List (Int × Int))))))) (a0_6 : (List ((List (List (Int × Int))) × (List (List (Int × Int)))))) (a0_7 : (List ((List (Int × Int)) × (List (Int × Int)) × Int × Int))) (a1 : (List (Int × Int))) (a2 : Int) (a3 : (List Int)) : Option Bool :=
  (bif (decide ((a1.length : Int) = a2)) then (s110 L a1 (fun x0 x1 => s131 L x0 x1 a0_0 a0_1 a0_2 a0_3 a0_4 a0_5 a0_6 a0_7 a3)).bind fun r2 =>
  some (!r2)
  else some false).bind fun y1 =>
  some y1
theorem p111 (L : LP) (a0_0 : Int) (a0_1 : Int) (a0_2 : Int) (a0_3 : Int) (a0_4 : (List (List Int))) (a0_5 : (List (Int × (List (Int × (List (Int × Int))))))) (a0_6 : (List ((List (List (Int × Int))) × (List (List (Int × Int)))))) (a0_7 : (List ((List (Int × Int)) × (List (Int × Int)) × Int × Int))) (a1 : (List (Int × Int))) (a2 : Int) (a3 : (List Int)) (r : Bool) (h : s111 L a0_0 a0_1 a0_2 a0_3 a0_4 a0_5 a0_6 a0_7 a1 a2 a3 = some r) : Pure X 111 [.agg [aI a0_0, aI a0_1, aI a0_2, aI a0_3, aS e28 a0_4, aS e72 a0_5, aS e65 a0_6, aS e77 a0_7], vS e61 a1, vI a2, vS e59 a3] (vB r) := by
 refine Pure_of_W (c := cd Tryd.f111 []) Tryd.func111 (by kernel_rfl) (N := 19) (by kernel_rfl) (Nat.le_of_ble_eq_true (by kernel_rfl)) ?_
 unfold s111 at h
 refine js ?_
 refine jr ?_
 refine jf [bL 27 [aI a0_0, aI a0_1, aI a0_2, aI a0_3, aS e28 a0_4, aS e72 a0_5, aS e65 a0_6, aS e77 a0_7], bL 161 [aS e59 a3]] [(1, vS e61 a1), (2, vI a2), (4, vO 0 0 8 0 0), (7, vO 1 0 1 0 0)] 3 [1, 2, 4, 7] ?_
 refine thenQ_n ?_
 refine js ?_
 refine jr ?_
 refine jh [(1, vS e61 a1), (4, vO 0 0 8 0 0), (7, vO 1 0 1 0 0), (13, vB (decide ((a1.length : Int) = a2)))] 5 [1, 4, 7, 13] ?_
 obtain ⟨y1, gy1, h⟩ := bind_some h
 refine WO_join 10 [] [(18, vB y1)] ?_ ?_
 · clear gy1
   refine jg [(8, vB y1)] 1 [8] ?_
   refine thenQ_n ?_
   refine jt ?_
   obtain rfl := si h
   exact jq [vB y1]
 · intro J
   clear h
   rcases Bool.eq_false_or_eq_true (decide ((a1.length : Int) = a2)) with hb | hb
   · have h := cond_t hb gy1; clear gy1
     refine jd 13 hb ?_
     refine jh [(4, vO 0 0 8 0 0), (7, vO 1 0 1 0 0), (13, vB true), (14, vS e61 a1)] 1 [4, 7, 13, 14] ?_
     refine WO_ent (σ' := [none, none]) (T' := [(4, .cell (.c (boxC [.int .i64 a0_0, .int .i64 a0_1, .int .i64 a0_2, .int .i64 a0_3, slC e28 a0_4, slC e72 a0_5, slC e65 a0_6, slC e77 a0_7] 0))), (7, .cell (.c (boxC [slC e59 a3] 0))), (13, vB true), (14, vS e61 a1)]) (jE [.freeze 0, .freeze 1]) ?_
     refine jh [(13, vB true), (14, vS e61 a1), (15, .cell (.c (fnC 131 [boxC [.int .i64 a0_0, .int .i64 a0_1, .int .i64 a0_2, .int .i64 a0_3, slC e28 a0_4, slC e72 a0_5, slC e65 a0_6, slC e77 a0_7] 0, boxC [slC e59 a3] 0])))] 1 [13, 14, 15] ?_
     obtain ⟨r2, gr2, h⟩ := bind_some h
     refine WO_call (f := 110) (all := [vS e61 a1, .cell (.c (fnC 131 [boxC [.int .i64 a0_0, .int .i64 a0_1, .int .i64 a0_2, .int .i64 a0_3, slC e28 a0_4, slC e72 a0_5, slC e65 a0_6, slC e77 a0_7] 0, boxC [slC e59 a3] 0]))]) (d := some 16) (r := vB r2) (by kernel_rfl) (by kernel_rfl) (by kernel_rfl) Tryd.call110 (pure_args (by kernel_rfl) (p110 L _ 131 2 (fun i => [boxC [.int .i64 a0_0, .int .i64 a0_1, .int .i64 a0_2, .int .i64 a0_3, slC e28 a0_4, slC e72 a0_5, slC e65 a0_6, slC e77 a0_7] 0, boxC [slC e59 a3] 0].getD i .jk) (fun x0 x1 => s131 L x0 x1 a0_0 a0_1 a0_2 a0_3 a0_4 a0_5 a0_6 a0_7 a3) (fun x0 x1 _ h => pure_args (by kernel_rfl) (p131 L _ _ _ _ _ _ _ _ _ _ _ _ h)) Tryd.call131 _ gr2)) ?_
     refine jh [(13, vB true), (17, vB (!r2))] 1 [13, 17] ?_
     obtain rfl := si h
     refine jh [(18, vB (!r2))] 1 [18] ?_
     exact WO_ent (σ' := []) (T' := [(18, vB (!r2))]) (jE [.take 0]) J
   · have h := cond_f hb gy1; clear gy1
     refine jd 13 hb ?_
     obtain rfl := si h
     refine jh [(18, vB false)] 5 [18] ?_
     exact WO_ent (σ' := []) (T' := [(18, vB false)]) (jE [.take 0]) J

/- system.permuted -/
def s64_0 (L : LP) (a0_0 : Int) (a0_1 : Int) (a0_2 : Int) (a0_3 : Int) (a0_4 : (List (List Int))) (a0_5 : (List (Int × (List (Int × (List (Int × Int))))))) (a0_6 : (List ((List (List (Int × Int))) × (List (List (Int × Int)))))) (a0_7 : (List ((List (Int × Int)) × (List (Int × Int)) × Int × Int))) (a1_0 : (List (List (Int × Int)))) (r6 : (List (List (Int × Int)))) (y7 : Int) : Option (Int ⊕ (Bool ⊕ Unit)) :=
  (bif (decide (y7 < (r6.length : Int))) then
  (ck (0 ≤ y7 ∧ y7 < (r6.length : Int))).bind fun _ =>
  (ck (0 ≤ (0 : Int) ∧ (0 : Int) < (a1_0.length : Int))).bind fun _ =>
  (s111 L a0_0 a0_1 a0_2 a0_3 a0_4 a0_5 a0_6 a0_7 (r6.getD y7.toNat e62.d) ((a1_0.getD (0 : Int).toNat e62.d).length : Int) [(1 : Int), (3 : Int)]).bind fun r11 =>
  (bif (!r11) then
  some (.inr (.inl false))
  else (ck (inR .i64 (y7 + (1 : Int)))).bind fun _ =>
  some (.inl (y7 + (1 : Int))))
  else some (.inr (.inr ())))
def s64 (L : LP) (a0_0 : Int) (a0_1 : Int) (a0_2 : Int) (a0_3 : Int) (a0_4 : (List (List Int))) (a0_5 : (List (Int × (List (Int × (List (Int × Int))))))) (a0_6 : (List ((List (List (Int × Int))) × (List (List (Int × Int)))))) (a0_7 : (List ((List (Int × Int)) × (List (Int × Int)) × Int × Int))) (a1_0 : (List (List (Int × Int)))) (a1_1 : (List (List (Int × Int)))) : Option Bool :=
  (s45 L (a1_0.length : Int) (1 : Int) (4 : Int)).bind fun r1 =>
  (bif (!r1) then some true
  else some (!(decide ((a1_1.length : Int) = (a1_0.length : Int))))).bind fun y2 =>
  (bif y2 then some true
  else (ck (0 ≤ (0 : Int) ∧ (0 : Int) < (a1_0.length : Int))).bind fun _ =>
  (s45 L ((a1_0.getD (0 : Int).toNat e62.d).length : Int) (1 : Int) (4 : Int)).bind fun r14 =>
  some (!r14)).bind fun y3 =>
  (bif y3 then
  some false
  else ((s56 L [a1_0, a1_1]).bind fun r6 =>
  (L.run (s64_0 L a0_0 a0_1 a0_2 a0_3 a0_4 a0_5 a0_6 a0_7 a1_0 r6) (0 : Int)).bind (fun (b : Bool ⊕ Unit) => (match b with
  | .inl v => some (.inr v)
  | .inr v => some (.inl ())))).bind fun (y4 : Unit ⊕ Bool) => (match y4 with
  | .inl v5 => some true
  | .inr v5 => some v5))
theorem p64 (L : LP) (a0_0 : Int) (a0_1 : Int) (a0_2 : Int) (a0_3 : Int) (a0_4 : (List (List Int))) (a0_5 : (List (Int × (List (Int × (List (Int × Int))))))) (a0_6 : (List ((List (List (Int × Int))) × (List (List (Int × Int)))))) (a0_7 : (List ((List (Int × Int)) × (List (Int × Int)) × Int × Int))) (a1_0 : (List (List (Int × Int)))) (a1_1 : (List (List (Int × Int)))) (r : Bool) (h : s64 L a0_0 a0_1 a0_2 a0_3 a0_4 a0_5 a0_6 a0_7 a1_0 a1_1 = some r) : Pure X 64 [.agg [aI a0_0, aI a0_1, aI a0_2, aI a0_3, aS e28 a0_4, aS e72 a0_5, aS e65 a0_6, aS e77 a0_7], .agg [aS e62 a1_0, aS e62 a1_1]] (vB r) := by
 refine Pure_of_W (c := cd Tryd.f64 []) Tryd.func64 (by kernel_rfl) (N := 52) (by kernel_rfl) (Nat.le_of_ble_eq_true (by kernel_rfl)) ?_
 unfold s64 at h
 refine js ?_
 refine jr ?_
 refine jf [bL 27 [aI a0_0, aI a0_1, aI a0_2, aI a0_3, aS e28 a0_4, aS e72 a0_5, aS e65 a0_6, aS e77 a0_7], bL 65 [aS e62 a1_0, aS e62 a1_1]] [(2, vO 0 0 8 0 0), (3, vO 1 0 2 0 0)] 3 [2, 3] ?_
 refine thenQ_n ?_
 refine js ?_
 refine js ?_
 refine jr ?_
 refine jh [(2, vO 0 0 8 0 0), (3, vO 1 0 2 0 0), (9, vI (a1_0.length : Int))] 3 [2, 3, 9] ?_
 obtain ⟨r1, gr1, h⟩ := bind_some h
 refine jl 10 Tryd.call45 (p45 L _ _ _ _ gr1) ?_
 refine jh [(2, vO 0 0 8 0 0), (3, vO 1 0 2 0 0), (12, vB (!r1))] 2 [2, 3, 12] ?_
 obtain ⟨y2, gy2, h⟩ := bind_some h
 refine jj 14 [(2, vO 0 0 8 0 0), (3, vO 1 0 2 0 0), (20, vB y2)] ?_ ?_
 · clear gy2
   refine jh [(2, vO 0 0 8 0 0), (3, vO 1 0 2 0 0), (21, vB y2)] 1 [2, 3, 21] ?_
   obtain ⟨y3, gy3, h⟩ := bind_some h
   refine jj 23 [(2, vO 0 0 8 0 0), (3, vO 1 0 2 0 0), (29, vB y3)] ?_ ?_
   · clear gy3
     refine jg [(2, vO 0 0 8 0 0), (3, vO 1 0 2 0 0), (29, vB y3)] 0 [2, 3, 29] ?_
     refine thenQ_n ?_
     refine jc y3 (fun hb => ?_) (fun hb => ?_)
     · have h := cond_t hb h
       refine js ?_
       refine jr ?_
       refine jg [(4, vB false)] 1 [4] ?_
       refine thenQ_n ?_
       refine jt ?_
       refine thenQ_r ?_
       obtain rfl := si h
       exact jq [vB false]
     · have h := cond_f hb h
       refine jk ?_
       refine thenQ_n ?_
       obtain ⟨y4, gy4, ky4⟩ := bind_some h
       refine W_cutE (by kernel_rfl) (fun v5 => y4 = .inl v5) (fun v5 => ([bL 27 [aI a0_0, aI a0_1, aI a0_2, aI a0_3, aS e28 a0_4, aS e72 a0_5, aS e65 a0_6, aS e77 a0_7], bL 65 [aS e62 a1_0, aS e62 a1_1]], [])) ?_ ?_
       · intro v5 hv; subst hv; have h := ky4; clear gy4 ky4; dsimp only at h
         refine js ?_
         refine jr ?_
         refine jg [(4, vB true)] 1 [4] ?_
         refine thenQ_n ?_
         refine jt ?_
         obtain rfl := si h
         exact jq [vB true]
       · have h := gy4; clear gy4
         refine js ?_
         refine jr ?_
         refine jh [(2, vO 0 0 8 0 0), (3, vO 1 0 2 0 0), (31, vS e62 a1_0), (33, vS e62 a1_1)] 4 [2, 3, 31, 33] ?_
         refine WO_q1 (r := .cell (.c (rawC 2 1 [slC e62 a1_0, slC e62 a1_1]))) (r' := vS e63 [a1_0, a1_1]) (d := some 34) (φ := True) (raw_weak e63 (xs := [a1_0, a1_1]) rfl rfl (by kernel_rfl) (by kernel_rfl)) (by kernel_rfl) trivial ?_
         obtain ⟨r6, gr6, h⟩ := bind_some h
         refine jl 35 Tryd.call56 (p56 L _ _ gr6) ?_
         refine jg [(2, vO 0 0 8 0 0), (3, vO 1 0 2 0 0), (35, vS e62 r6), (36, vI (r6.length : Int)), (37, vI 0)] 2 [2, 3, 35, 36, 37] ?_
         refine thenQ_n ?_
         refine jb 0 ?_
         obtain ⟨b8, gb8, kb8⟩ := bind_some h
         refine W_loop_at (S := fun (y7 : Int) => ([bL 27 [aI a0_0, aI a0_1, aI a0_2, aI a0_3, aS e28 a0_4, aS e72 a0_5, aS e65 a0_6, aS e77 a0_7], bL 65 [aS e62 a1_0, aS e62 a1_1]], [(2, vO 0 0 8 0 0), (3, vO 1 0 2 0 0), (35, vS e62 r6), (36, vI (r6.length : Int)), (37, vI y7)])) (step := _) (x0 := (0 : Int)) (b := b8) (L.ok _ _ _ gb8) (by kernel_rfl) (jE [.keep [2, 3, 35, 36, 37], .take 2]) ?_
         clear gb8 h; intro y7 o h; unfold s64_0 at h
         refine js ?_
         refine jr ?_
         refine jg [(2, vO 0 0 8 0 0), (3, vO 1 0 2 0 0), (35, vS e62 r6), (36, vI (r6.length : Int)), (37, vI y7), (38, vB (decide (y7 < (r6.length : Int))))] 1 [2, 3, 35, 36, 37, 38] ?_
         refine thenQ_n ?_
         refine js ?_
         refine jc (decide (y7 < (r6.length : Int))) (fun hb => ?_) (fun hb => ?_)
         · have h := cond_t hb h
           refine jk ?_
           refine thenQ_n ?_
           refine js ?_
           refine jb 1 ?_
           refine js ?_
           refine jr ?_
           obtain ⟨c9, h⟩ := ck_bind h
           refine jG [(2, vO 0 0 8 0 0), (3, vO 1 0 2 0 0), (6, vS e61 (r6.getD y7.toNat e62.d)), (35, vS e62 r6), (36, vI (r6.length : Int)), (37, vI y7)] ((0 ≤ y7 ∧ y7 < (r6.length : Int)) ∧ (True)) 3 [2, 3, 6, 35, 36, 37] ⟨c9, trivial⟩ ?_
           refine thenQ_n ?_
           refine js ?_
           refine jdr 8 mixed ?_
           obtain ⟨c10, h⟩ := ck_bind h
           refine jY 1 [(2, vO 0 0 8 0 0), (3, vO 1 0 2 0 0), (35, vS e62 r6), (36, vI (r6.length : Int)), (37, vI y7), (41, .agg [aI a0_0, aI a0_1, aI a0_2, aI a0_3, aS e28 a0_4, aS e72 a0_5, aS e65 a0_6, aS e77 a0_7]), (42, vS e61 (r6.getD y7.toNat e62.d)), (47, vI ((a1_0.getD (0 : Int).toNat e62.d).length : Int))] ((0 ≤ (0 : Int) ∧ (0 : Int) < (a1_0.length : Int)) ∧ (True)) 7 [2, 3, 35, 36, 37, 41, 42, 47] ⟨c10, trivial⟩ ?_
           refine WQ_q1 (r := .cell (.c (rawC 2 1 [.int .u8 1, .int .u8 3]))) (r' := vS e59 [(1 : Int), (3 : Int)]) (d := some 48) (φ := True) (raw_weak e59 (xs := [(1 : Int), (3 : Int)]) rfl rfl (by kernel_rfl) (by kernel_rfl)) (by kernel_rfl) trivial ?_
           refine WQ_done ?_
           obtain ⟨r11, gr11, h⟩ := bind_some h
           refine jl 49 Tryd.call111 (p111 L _ _ _ _ _ _ _ _ _ _ _ _ gr11) ?_
           refine jg [(2, vO 0 0 8 0 0), (3, vO 1 0 2 0 0), (35, vS e62 r6), (36, vI (r6.length : Int)), (37, vI y7), (50, vB (!r11))] 1 [2, 3, 35, 36, 37, 50] ?_
           refine thenQ_n ?_
           refine jc (!r11) (fun hb => ?_) (fun hb => ?_)
           · have h := cond_t hb h
             refine js ?_
             refine jr ?_
             refine jg [(4, vB false)] 1 [4] ?_
             refine thenQ_n ?_
             refine jt ?_
             refine blockQ_r ?_
             refine thenQ_r ?_
             obtain rfl := si h; refine round_r rfl (fun hb => ?_); subst hb; have h := kb8; dsimp only at h
             refine blockQ_r ?_
             obtain rfl := si h; have h := ky4; dsimp only at h; refine thenQ_r ?_
             obtain rfl := si h
             exact jq [vB false]
           · have h := cond_f hb h
             refine jk ?_
             refine blockQ_n ?_
             refine thenQ_n ?_
             refine jr ?_
             obtain ⟨c12, h⟩ := ck_bind h
             refine jG [(2, vO 0 0 8 0 0), (3, vO 1 0 2 0 0), (35, vS e62 r6), (36, vI (r6.length : Int)), (37, vI (y7 + (1 : Int)))] ((inR .i64 (y7 + (1 : Int))) ∧ (True)) 2 [2, 3, 35, 36, 37] ⟨c12, trivial⟩ ?_
             obtain rfl := si h
             exact round_n _ rfl (jE [.keep [2, 3, 35, 36, 37], .take 2])
         · have h := cond_f hb h
           refine je 0 ?_
           refine thenQ_e ?_
           obtain rfl := si h; refine round_e rfl (fun hb => ?_); subst hb; have h := kb8; dsimp only at h
           refine blockQ_hit ?_
           obtain rfl := si h
           exact thenQ_n ⟨_, rfl, jE [.keep [], .take 2]⟩
   · intro J
     clear h
     rcases Bool.eq_false_or_eq_true y2 with hb | hb
     · have h := cond_t hb gy3; clear gy3
       refine jd 21 hb ?_
       obtain rfl := si h
       refine jh [(2, vO 0 0 8 0 0), (3, vO 1 0 2 0 0), (29, vB true)] 8 [2, 3, 29] J
     · have h := cond_f hb gy3; clear gy3
       refine jd 21 hb ?_
       obtain ⟨c13, h⟩ := ck_bind h
       refine jH [(2, vO 0 0 8 0 0), (3, vO 1 0 2 0 0), (21, vB false), (26, vI ((a1_0.getD (0 : Int).toNat e62.d).length : Int))] ((0 ≤ (0 : Int) ∧ (0 : Int) < (a1_0.length : Int)) ∧ (True)) 5 [2, 3, 21, 26] ⟨c13, trivial⟩ ?_
       obtain ⟨r14, gr14, h⟩ := bind_some h
       refine jl 27 Tryd.call45 (p45 L _ _ _ _ gr14) ?_
       refine jh [(2, vO 0 0 8 0 0), (3, vO 1 0 2 0 0), (21, vB false), (28, vB (!r14))] 1 [2, 3, 21, 28] ?_
       obtain rfl := si h
       refine jh [(2, vO 0 0 8 0 0), (3, vO 1 0 2 0 0), (29, vB (!r14))] 1 [2, 3, 29] J
 · intro J
   clear h
   rcases Bool.eq_false_or_eq_true (!r1) with hb | hb
   · have h := cond_t hb gy2; clear gy2
     refine jd 12 hb ?_
     obtain rfl := si h
     refine jh [(2, vO 0 0 8 0 0), (3, vO 1 0 2 0 0), (20, vB true)] 8 [2, 3, 20] J
   · have h := cond_f hb gy2; clear gy2
     refine jd 12 hb ?_
     refine jh [(2, vO 0 0 8 0 0), (3, vO 1 0 2 0 0), (12, vB false), (19, vB (!(decide ((a1_1.length : Int) = (a1_0.length : Int)))))] 7 [2, 3, 12, 19] ?_
     obtain rfl := si h
     refine jh [(2, vO 0 0 8 0 0), (3, vO 1 0 2 0 0), (20, vB (!(decide ((a1_1.length : Int) = (a1_0.length : Int)))))] 1 [2, 3, 20] J

/- system.looked -/
def s65 (L : LP) (a0_0 : Int) (a0_1 : Int) (a0_2 : Int) (a0_3 : Int) (a0_4 : (List (List Int))) (a0_5 : (List (Int × (List (Int × (List (Int × Int))))))) (a0_6 : (List ((List (List (Int × Int))) × (List (List (Int × Int)))))) (a0_7 : (List ((List (Int × Int)) × (List (Int × Int)) × Int × Int))) (a1_0 : (List (Int × Int))) (a1_1 : (List (Int × Int))) (a1_2 : Int) (a1_3 : Int) : Option Bool :=
  (s45 L (a1_0.length : Int) (1 : Int) (4 : Int)).bind fun r1 =>
  (bif r1 then some (decide (a1_2 = (1 : Int)))
  else some false).bind fun y2 =>
  (bif y2 then (s109 L a0_0 a0_1 a0_2 a0_3 a0_4 a0_5 a0_6 a0_7 a1_2 a1_3).bind fun r8 =>
  some r8
  else some false).bind fun y3 =>
  (bif y3 then (s111 L a0_0 a0_1 a0_2 a0_3 a0_4 a0_5 a0_6 a0_7 a1_0 (a1_0.length : Int) [(1 : Int), (3 : Int)]).bind fun r7 =>
  some r7
  else some false).bind fun y4 =>
  (bif y4 then (s111 L a0_0 a0_1 a0_2 a0_3 a0_4 a0_5 a0_6 a0_7 a1_1 (a1_0.length : Int) [(3 : Int)]).bind fun r6 =>
  some r6
  else some false).bind fun y5 =>
  some y5
theorem p65 (L : LP) (a0_0 : Int) (a0_1 : Int) (a0_2 : Int) (a0_3 : Int) (a0_4 : (List (List Int))) (a0_5 : (List (Int × (List (Int × (List (Int × Int))))))) (a0_6 : (List ((List (List (Int × Int))) × (List (List (Int × Int)))))) (a0_7 : (List ((List (Int × Int)) × (List (Int × Int)) × Int × Int))) (a1_0 : (List (Int × Int))) (a1_1 : (List (Int × Int))) (a1_2 : Int) (a1_3 : Int) (r : Bool) (h : s65 L a0_0 a0_1 a0_2 a0_3 a0_4 a0_5 a0_6 a0_7 a1_0 a1_1 a1_2 a1_3 = some r) : Pure X 65 [.agg [aI a0_0, aI a0_1, aI a0_2, aI a0_3, aS e28 a0_4, aS e72 a0_5, aS e65 a0_6, aS e77 a0_7], .agg [aS e61 a1_0, aS e61 a1_1, aY a1_2, aI a1_3]] (vB r) := by
 refine Pure_of_W (c := cd Tryd.f65 []) Tryd.func65 (by kernel_rfl) (N := 39) (by kernel_rfl) (Nat.le_of_ble_eq_true (by kernel_rfl)) ?_
 unfold s65 at h
 refine js ?_
 refine jr ?_
 refine jf [bL 27 [aI a0_0, aI a0_1, aI a0_2, aI a0_3, aS e28 a0_4, aS e72 a0_5, aS e65 a0_6, aS e77 a0_7], bL 77 [aS e61 a1_0, aS e61 a1_1, aY a1_2, aI a1_3]] [(2, vO 0 0 8 0 0), (3, vO 1 0 4 0 0)] 3 [2, 3] ?_
 refine thenQ_n ?_
 refine js ?_
 refine jr ?_
 refine jg [(2, vO 0 0 8 0 0), (3, vO 1 0 4 0 0), (5, vI (a1_0.length : Int))] 4 [2, 3, 5] ?_
 refine thenQ_n ?_
 refine js ?_
 refine jr ?_
 refine jh [(2, vO 0 0 8 0 0), (3, vO 1 0 4 0 0), (5, vI (a1_0.length : Int)), (9, vI (a1_0.length : Int))] 1 [2, 3, 5, 9] ?_
 obtain ⟨r1, gr1, h⟩ := bind_some h
 refine jl 10 Tryd.call45 (p45 L _ _ _ _ gr1) ?_
 refine jh [(2, vO 0 0 8 0 0), (3, vO 1 0 4 0 0), (5, vI (a1_0.length : Int)), (11, vB r1)] 1 [2, 3, 5, 11] ?_
 obtain ⟨y2, gy2, h⟩ := bind_some h
 refine jj 8 [(2, vO 0 0 8 0 0), (3, vO 1 0 4 0 0), (5, vI (a1_0.length : Int)), (16, vB y2)] ?_ ?_
 · clear gy2
   refine jh [(2, vO 0 0 8 0 0), (3, vO 1 0 4 0 0), (5, vI (a1_0.length : Int)), (17, vB y2)] 1 [2, 3, 5, 17] ?_
   obtain ⟨y3, gy3, h⟩ := bind_some h
   refine jj 14 [(2, vO 0 0 8 0 0), (3, vO 1 0 4 0 0), (5, vI (a1_0.length : Int)), (22, vB y3)] ?_ ?_
   · clear gy3
     refine jh [(2, vO 0 0 8 0 0), (3, vO 1 0 4 0 0), (5, vI (a1_0.length : Int)), (23, vB y3)] 1 [2, 3, 5, 23] ?_
     obtain ⟨y4, gy4, h⟩ := bind_some h
     refine jj 22 [(2, vO 0 0 8 0 0), (3, vO 1 0 4 0 0), (5, vI (a1_0.length : Int)), (30, vB y4)] ?_ ?_
     · clear gy4
       refine jh [(2, vO 0 0 8 0 0), (3, vO 1 0 4 0 0), (5, vI (a1_0.length : Int)), (31, vB y4)] 1 [2, 3, 5, 31] ?_
       obtain ⟨y5, gy5, h⟩ := bind_some h
       refine jj 30 [(38, vB y5)] ?_ ?_
       · clear gy5
         refine jg [(4, vB y5)] 1 [4] ?_
         refine thenQ_n ?_
         refine jt ?_
         obtain rfl := si h
         exact jq [vB y5]
       · intro J
         clear h
         rcases Bool.eq_false_or_eq_true y4 with hb | hb
         · have h := cond_t hb gy5; clear gy5
           refine jd 31 hb ?_
           refine jh [(31, vB true), (32, .agg [aI a0_0, aI a0_1, aI a0_2, aI a0_3, aS e28 a0_4, aS e72 a0_5, aS e65 a0_6, aS e77 a0_7]), (34, vS e61 a1_1), (35, vI (a1_0.length : Int))] 4 [31, 32, 34, 35] ?_
           refine WO_q1 (r := .cell (.c (rawC 1 1 [.int .u8 3]))) (r' := vS e59 [(3 : Int)]) (d := some 36) (φ := True) (raw_weak e59 (xs := [(3 : Int)]) rfl rfl (by kernel_rfl) (by kernel_rfl)) (by kernel_rfl) trivial ?_
           obtain ⟨r6, gr6, h⟩ := bind_some h
           refine jl 37 Tryd.call111 (p111 L _ _ _ _ _ _ _ _ _ _ _ _ gr6) ?_
           obtain rfl := si h
           refine jh [(38, vB r6)] 1 [38] J
         · have h := cond_f hb gy5; clear gy5
           refine jd 31 hb ?_
           obtain rfl := si h
           refine jh [(38, vB false)] 7 [38] J
     · intro J
       clear h
       rcases Bool.eq_false_or_eq_true y3 with hb | hb
       · have h := cond_t hb gy4; clear gy4
         refine jd 23 hb ?_
         refine jh [(2, vO 0 0 8 0 0), (3, vO 1 0 4 0 0), (5, vI (a1_0.length : Int)), (23, vB true), (24, .agg [aI a0_0, aI a0_1, aI a0_2, aI a0_3, aS e28 a0_4, aS e72 a0_5, aS e65 a0_6, aS e77 a0_7]), (26, vS e61 a1_0), (27, vI (a1_0.length : Int))] 4 [2, 3, 5, 23, 24, 26, 27] ?_
         refine WO_q1 (r := .cell (.c (rawC 2 1 [.int .u8 1, .int .u8 3]))) (r' := vS e59 [(1 : Int), (3 : Int)]) (d := some 28) (φ := True) (raw_weak e59 (xs := [(1 : Int), (3 : Int)]) rfl rfl (by kernel_rfl) (by kernel_rfl)) (by kernel_rfl) trivial ?_
         obtain ⟨r7, gr7, h⟩ := bind_some h
         refine jl 29 Tryd.call111 (p111 L _ _ _ _ _ _ _ _ _ _ _ _ gr7) ?_
         obtain rfl := si h
         refine jh [(2, vO 0 0 8 0 0), (3, vO 1 0 4 0 0), (5, vI (a1_0.length : Int)), (30, vB r7)] 1 [2, 3, 5, 30] J
       · have h := cond_f hb gy4; clear gy4
         refine jd 23 hb ?_
         obtain rfl := si h
         refine jh [(2, vO 0 0 8 0 0), (3, vO 1 0 4 0 0), (5, vI (a1_0.length : Int)), (30, vB false)] 7 [2, 3, 5, 30] J
   · intro J
     clear h
     rcases Bool.eq_false_or_eq_true y2 with hb | hb
     · have h := cond_t hb gy3; clear gy3
       refine jd 17 hb ?_
       refine jh [(2, vO 0 0 8 0 0), (3, vO 1 0 4 0 0), (5, vI (a1_0.length : Int)), (17, vB true), (18, .agg [aI a0_0, aI a0_1, aI a0_2, aI a0_3, aS e28 a0_4, aS e72 a0_5, aS e65 a0_6, aS e77 a0_7]), (20, .agg [aY a1_2, aI a1_3])] 3 [2, 3, 5, 17, 18, 20] ?_
       obtain ⟨r8, gr8, h⟩ := bind_some h
       refine jl 21 Tryd.call109 (p109 L _ _ _ _ _ _ _ _ _ _ _ gr8) ?_
       obtain rfl := si h
       refine jh [(2, vO 0 0 8 0 0), (3, vO 1 0 4 0 0), (5, vI (a1_0.length : Int)), (22, vB r8)] 1 [2, 3, 5, 22] J
     · have h := cond_f hb gy3; clear gy3
       refine jd 17 hb ?_
       obtain rfl := si h
       refine jh [(2, vO 0 0 8 0 0), (3, vO 1 0 4 0 0), (5, vI (a1_0.length : Int)), (22, vB false)] 5 [2, 3, 5, 22] J
 · intro J
   clear h
   rcases Bool.eq_false_or_eq_true r1 with hb | hb
   · have h := cond_t hb gy2; clear gy2
     refine jd 11 hb ?_
     refine jh [(2, vO 0 0 8 0 0), (3, vO 1 0 4 0 0), (5, vI (a1_0.length : Int)), (11, vB true), (15, vB (decide (a1_2 = (1 : Int))))] 4 [2, 3, 5, 11, 15] ?_
     obtain rfl := si h
     refine jh [(2, vO 0 0 8 0 0), (3, vO 1 0 4 0 0), (5, vI (a1_0.length : Int)), (16, vB (decide (a1_2 = (1 : Int))))] 1 [2, 3, 5, 16] J
   · have h := cond_f hb gy2; clear gy2
     refine jd 11 hb ?_
     obtain rfl := si h
     refine jh [(2, vO 0 0 8 0 0), (3, vO 1 0 4 0 0), (5, vI (a1_0.length : Int)), (16, vB false)] 5 [2, 3, 5, 16] J

/- system.Valid -/
def s18_0 (L : LP) (a0_0 : Int) (a0_1 : Int) (a0_2 : Int) (a0_3 : Int) (a0_4 : (List (List Int))) (a0_5 : (List (Int × (List (Int × (List (Int × Int))))))) (a0_6 : (List ((List (List (Int × Int))) × (List (List (Int × Int)))))) (a0_7 : (List ((List (Int × Int)) × (List (Int × Int)) × Int × Int))) (y16 : Int) : Option (Int ⊕ (Bool ⊕ Unit)) :=
  (bif (decide (y16 < (a0_7.length : Int))) then
  (ck (0 ≤ y16 ∧ y16 < (a0_7.length : Int))).bind fun _ =>
  (s65 L a0_0 a0_1 a0_2 a0_3 a0_4 a0_5 a0_6 a0_7 ((a0_7.getD y16.toNat e77.d).1) ((a0_7.getD y16.toNat e77.d).2.1) ((a0_7.getD y16.toNat e77.d).2.2.1) ((a0_7.getD y16.toNat e77.d).2.2.2)).bind fun r19 =>
  (bif (!r19) then
  some (.inr (.inl false))
  else (ck (inR .i64 (y16 + (1 : Int)))).bind fun _ =>
  some (.inl (y16 + (1 : Int))))
  else some (.inr (.inr ())))
def s18_1 (L : LP) (a0_0 : Int) (a0_1 : Int) (a0_2 : Int) (a0_3 : Int) (a0_4 : (List (List Int))) (a0_5 : (List (Int × (List (Int × (List (Int × Int))))))) (a0_6 : (List ((List (List (Int × Int))) × (List (List (Int × Int)))))) (a0_7 : (List ((List (Int × Int)) × (List (Int × Int)) × Int × Int))) (y21 : Int) : Option (Int ⊕ (Bool ⊕ Unit)) :=
  (bif (decide (y21 < (a0_6.length : Int))) then
  (ck (0 ≤ y21 ∧ y21 < (a0_6.length : Int))).bind fun _ =>
  (s64 L a0_0 a0_1 a0_2 a0_3 a0_4 a0_5 a0_6 a0_7 ((a0_6.getD y21.toNat e65.d).1) ((a0_6.getD y21.toNat e65.d).2)).bind fun r24 =>
  (bif (!r24) then
  some (.inr (.inl false))
  else (ck (inR .i64 (y21 + (1 : Int)))).bind fun _ =>
  some (.inl (y21 + (1 : Int))))
  else some (.inr (.inr ())))
def s18_2 (L : LP) (a0_0 : Int) (a0_1 : Int) (a0_2 : Int) (a0_3 : Int) (a0_4 : (List (List Int))) (a0_5 : (List (Int × (List (Int × (List (Int × Int))))))) (a0_6 : (List ((List (List (Int × Int))) × (List (List (Int × Int)))))) (a0_7 : (List ((List (Int × Int)) × (List (Int × Int)) × Int × Int))) (y26 : Int) : Option (Int ⊕ (Bool ⊕ Unit)) :=
  (bif (decide (y26 < (a0_5.length : Int))) then
  (ck (0 ≤ y26 ∧ y26 < (a0_5.length : Int))).bind fun _ =>
  (s63 L a0_0 a0_1 a0_2 a0_3 a0_4 a0_5 a0_6 a0_7 ((a0_5.getD y26.toNat e72.d).1) ((a0_5.getD y26.toNat e72.d).2)).bind fun r29 =>
  (bif (!r29) then
  some (.inr (.inl false))
  else (ck (inR .i64 (y26 + (1 : Int)))).bind fun _ =>
  some (.inl (y26 + (1 : Int))))
  else some (.inr (.inr ())))
def s18 (L : LP) (a0_0 : Int) (a0_1 : Int) (a0_2 : Int) (a0_3 : Int) (a0_4 : (List (List Int))) (a0_5 : (List (Int × (List (Int × (List (Int × Int))))))) (a0_6 : (List ((List (List (Int × Int))) × (List (List (Int × Int)))))) (a0_7 : (List ((List (Int × Int)) × (List (Int × Int)) × Int × Int))) : Option Bool :=
  (s60 L a0_0).bind fun r1 =>
  (bif (!r1) then some true
  else (s61 L a0_0).bind fun r33 =>
  (s45 L a0_1 (1 : Int) (if r33 < (13 : Int) then r33 else (13 : Int))).bind fun r34 =>
  some (!r34)).bind fun y2 =>
  (bif y2 then some true
  else (s45 L a0_2 (1 : Int) (64 : Int)).bind fun r32 =>
  some (!r32)).bind fun y3 =>
  (bif y3 then some true
  else (s45 L a0_3 (0 : Int) (16 : Int)).bind fun r31 =>
  some (!r31)).bind fun y4 =>
  (bif y4 then
  some false
  else (bif (decide ((a0_4.length : Int) > (64 : Int))) then some true
  else some (decide ((a0_5.length : Int) > (64 : Int)))).bind fun y5 =>
  (bif y5 then some true
  else some (decide ((a0_6.length : Int) > (4 : Int)))).bind fun y6 =>
  (bif y6 then some true
  else some (decide ((a0_7.length : Int) > (8 : Int)))).bind fun y7 =>
  (bif y7 then
  some false
  else (ck (0 ≤ a0_1 ∧ a0_1 < ((IntKind.bits .i64 : Nat) : Int) ∧ inR .i64 ((1 : Int) * 2 ^ a0_1.toNat))).bind fun _ =>
  (s62 L a0_0 ((1 : Int) * 2 ^ a0_1.toNat) a0_4).bind fun r9 =>
  (bif (!r9) then
  some false
  else ((L.run (s18_2 L a0_0 a0_1 a0_2 a0_3 a0_4 a0_5 a0_6 a0_7) (0 : Int)).bind (fun (b : Bool ⊕ Unit) => (match b with
  | .inl v => some (.inr v)
  | .inr v => some (.inl ())))).bind fun (y10 : Unit ⊕ Bool) => (match y10 with
  | .inl v11 => ((L.run (s18_1 L a0_0 a0_1 a0_2 a0_3 a0_4 a0_5 a0_6 a0_7) (0 : Int)).bind (fun (b : Bool ⊕ Unit) => (match b with
  | .inl v => some (.inr v)
  | .inr v => some (.inl ())))).bind fun (y12 : Unit ⊕ Bool) => (match y12 with
  | .inl v13 => ((L.run (s18_0 L a0_0 a0_1 a0_2 a0_3 a0_4 a0_5 a0_6 a0_7) (0 : Int)).bind (fun (b : Bool ⊕ Unit) => (match b with
  | .inl v => some (.inr v)
  | .inr v => some (.inl ())))).bind fun (y14 : Unit ⊕ Bool) => (match y14 with
  | .inl v15 => some true
  | .inr v15 => some v15)
  | .inr v13 => some v13)
  | .inr v11 => some v11))))
theorem p18 (L : LP) (a0_0 : Int) (a0_1 : Int) (a0_2 : Int) (a0_3 : Int) (a0_4 : (List (List Int))) (a0_5 : (List (Int × (List (Int × (List (Int × Int))))))) (a0_6 : (List ((List (List (Int × Int))) × (List (List (Int × Int)))))) (a0_7 : (List ((List (Int × Int)) × (List (Int × Int)) × Int × Int))) (r : Bool) (h : s18 L a0_0 a0_1 a0_2 a0_3 a0_4 a0_5 a0_6 a0_7 = some r) : Pure X 18 [.agg [aI a0_0, aI a0_1, aI a0_2, aI a0_3, aS e28 a0_4, aS e72 a0_5, aS e65 a0_6, aS e77 a0_7]] (vB r) := by
 refine Pure_of_W (c := cd Tryd.f18 []) Tryd.func18 (by kernel_rfl) (N := 102) (by kernel_rfl) (Nat.le_of_ble_eq_true (by kernel_rfl)) ?_
 unfold s18 at h
 refine js ?_
 refine jr ?_
 refine jf [bL 27 [aI a0_0, aI a0_1, aI a0_2, aI a0_3, aS e28 a0_4, aS e72 a0_5, aS e65 a0_6, aS e77 a0_7]] [(1, vO 0 0 8 0 0)] 2 [1] ?_
 refine thenQ_n ?_
 refine js ?_
 refine js ?_
 refine jdr 14 mixed ?_
 refine jy 12 [(1, vO 0 0 8 0 0), (10, vI a0_0)] 2 [1, 10] ?_
 obtain ⟨r1, gr1, h⟩ := bind_some h
 refine jL 11 Tryd.call60 (p60 L _ _ gr1) ?_
 refine jy 9 [(1, vO 0 0 8 0 0), (13, vB (!r1))] 2 [1, 13] ?_
 obtain ⟨y2, gy2, h⟩ := bind_some h
 refine WQ_join 0 14 [(1, vO 0 0 8 0 0), (22, vB y2)] ?_ ?_
 · clear gy2
   refine WQ_done ?_
   refine jh [(1, vO 0 0 8 0 0), (23, vB y2)] 1 [1, 23] ?_
   obtain ⟨y3, gy3, h⟩ := bind_some h
   refine jj 20 [(1, vO 0 0 8 0 0), (28, vB y3)] ?_ ?_
   · clear gy3
     refine jh [(1, vO 0 0 8 0 0), (29, vB y3)] 1 [1, 29] ?_
     obtain ⟨y4, gy4, h⟩ := bind_some h
     refine jj 26 [(1, vO 0 0 8 0 0), (34, vB y4)] ?_ ?_
     · clear gy4
       refine jg [(1, vO 0 0 8 0 0), (34, vB y4)] 0 [1, 34] ?_
       refine thenQ_n ?_
       refine jc y4 (fun hb => ?_) (fun hb => ?_)
       · have h := cond_t hb h
         refine js ?_
         refine jr ?_
         refine jg [(2, vB false)] 1 [2] ?_
         refine thenQ_n ?_
         refine jt ?_
         refine thenQ_r ?_
         obtain rfl := si h
         exact jq [vB false]
       · have h := cond_f hb h
         refine jk ?_
         refine thenQ_n ?_
         refine js ?_
         refine js ?_
         refine jr ?_
         refine jh [(1, vO 0 0 8 0 0), (39, vB (decide ((a0_4.length : Int) > (64 : Int))))] 5 [1, 39] ?_
         obtain ⟨y5, gy5, h⟩ := bind_some h
         refine jj 10 [(1, vO 0 0 8 0 0), (44, vB y5)] ?_ ?_
         · clear gy5
           refine jh [(1, vO 0 0 8 0 0), (45, vB y5)] 1 [1, 45] ?_
           obtain ⟨y6, gy6, h⟩ := bind_some h
           refine jj 16 [(1, vO 0 0 8 0 0), (50, vB y6)] ?_ ?_
           · clear gy6
             refine jh [(1, vO 0 0 8 0 0), (51, vB y6)] 1 [1, 51] ?_
             obtain ⟨y7, gy7, h⟩ := bind_some h
             refine jj 22 [(1, vO 0 0 8 0 0), (56, vB y7)] ?_ ?_
             · clear gy7
               refine jg [(1, vO 0 0 8 0 0), (56, vB y7)] 0 [1, 56] ?_
               refine thenQ_n ?_
               refine jc y7 (fun hb => ?_) (fun hb => ?_)
               · have h := cond_t hb h
                 refine js ?_
                 refine jr ?_
                 refine jg [(2, vB false)] 1 [2] ?_
                 refine thenQ_n ?_
                 refine jt ?_
                 refine thenQ_r ?_
                 obtain rfl := si h
                 exact jq [vB false]
               · have h := cond_f hb h
                 refine jk ?_
                 refine thenQ_n ?_
                 refine js ?_
                 refine js ?_
                 refine jdr 7 mixed ?_
                 obtain ⟨c8, h⟩ := ck_bind h
                 refine jY 0 [(1, vO 0 0 8 0 0), (58, vI a0_0), (61, vI ((1 : Int) * 2 ^ a0_1.toNat)), (63, vS e28 a0_4)] ((0 ≤ a0_1 ∧ a0_1 < ((IntKind.bits .i64 : Nat) : Int) ∧ inR .i64 ((1 : Int) * 2 ^ a0_1.toNat)) ∧ (True)) 7 [1, 58, 61, 63] ⟨c8, trivial⟩ ?_
                 refine WQ_done ?_
                 obtain ⟨r9, gr9, h⟩ := bind_some h
                 refine jl 64 Tryd.call62 (p62 L _ _ _ _ gr9) ?_
                 refine jg [(1, vO 0 0 8 0 0), (65, vB (!r9))] 1 [1, 65] ?_
                 refine thenQ_n ?_
                 refine jc (!r9) (fun hb => ?_) (fun hb => ?_)
                 · have h := cond_t hb h
                   refine js ?_
                   refine jr ?_
                   refine jg [(2, vB false)] 1 [2] ?_
                   refine thenQ_n ?_
                   refine jt ?_
                   refine thenQ_r ?_
                   obtain rfl := si h
                   exact jq [vB false]
                 · have h := cond_f hb h
                   refine jk ?_
                   refine thenQ_n ?_
                   obtain ⟨y10, gy10, ky10⟩ := bind_some h
                   refine W_cutE (by kernel_rfl) (fun v11 => y10 = .inl v11) (fun v11 => ([bL 27 [aI a0_0, aI a0_1, aI a0_2, aI a0_3, aS e28 a0_4, aS e72 a0_5, aS e65 a0_6, aS e77 a0_7]], [(1, vO 0 0 8 0 0)])) ?_ ?_
                   · intro v11 hv; subst hv; have h := ky10; clear gy10 ky10; dsimp only at h
                     obtain ⟨y12, gy12, ky12⟩ := bind_some h
                     refine W_cutE (by kernel_rfl) (fun v13 => y12 = .inl v13) (fun v13 => ([bL 27 [aI a0_0, aI a0_1, aI a0_2, aI a0_3, aS e28 a0_4, aS e72 a0_5, aS e65 a0_6, aS e77 a0_7]], [(1, vO 0 0 8 0 0)])) ?_ ?_
                     · intro v13 hv; subst hv; have h := ky12; clear gy12 ky12; dsimp only at h
                       obtain ⟨y14, gy14, ky14⟩ := bind_some h
                       refine W_cutE (by kernel_rfl) (fun v15 => y14 = .inl v15) (fun v15 => ([bL 27 [aI a0_0, aI a0_1, aI a0_2, aI a0_3, aS e28 a0_4, aS e72 a0_5, aS e65 a0_6, aS e77 a0_7]], [])) ?_ ?_
                       · intro v15 hv; subst hv; have h := ky14; clear gy14 ky14; dsimp only at h
                         refine js ?_
                         refine jr ?_
                         refine jg [(2, vB true)] 1 [2] ?_
                         refine thenQ_n ?_
                         refine jt ?_
                         obtain rfl := si h
                         exact jq [vB true]
                       · have h := gy14; clear gy14
                         refine js ?_
                         refine jr ?_
                         refine jg [(1, vO 0 0 8 0 0), (91, vS e77 a0_7), (92, vI (a0_7.length : Int)), (93, vI 0)] 4 [1, 91, 92, 93] ?_
                         refine thenQ_n ?_
                         refine jb 4 ?_
                         obtain ⟨b17, gb17, kb17⟩ := bind_some h
                         refine W_loop_at (S := fun (y16 : Int) => ([bL 27 [aI a0_0, aI a0_1, aI a0_2, aI a0_3, aS e28 a0_4, aS e72 a0_5, aS e65 a0_6, aS e77 a0_7]], [(1, vO 0 0 8 0 0), (91, vS e77 a0_7), (92, vI (a0_7.length : Int)), (93, vI y16)])) (step := _) (x0 := (0 : Int)) (b := b17) (L.ok _ _ _ gb17) (by kernel_rfl) (jE [.keep [1, 91, 92, 93], .take 1]) ?_
                         clear gb17 h; intro y16 o h; unfold s18_0 at h
                         refine js ?_
                         refine jr ?_
                         refine jg [(1, vO 0 0 8 0 0), (91, vS e77 a0_7), (92, vI (a0_7.length : Int)), (93, vI y16), (94, vB (decide (y16 < (a0_7.length : Int))))] 1 [1, 91, 92, 93, 94] ?_
                         refine thenQ_n ?_
                         refine js ?_
                         refine jc (decide (y16 < (a0_7.length : Int))) (fun hb => ?_) (fun hb => ?_)
                         · have h := cond_t hb h
                           refine jk ?_
                           refine thenQ_n ?_
                           refine js ?_
                           refine jb 5 ?_
                           refine js ?_
                           refine jr ?_
                           obtain ⟨c18, h⟩ := ck_bind h
                           refine jF [bL 27 [aI a0_0, aI a0_1, aI a0_2, aI a0_3, aS e28 a0_4, aS e72 a0_5, aS e65 a0_6, aS e77 a0_7], bL 77 [aS e61 ((a0_7.getD y16.toNat e77.d).1), aS e61 ((a0_7.getD y16.toNat e77.d).2.1), aY ((a0_7.getD y16.toNat e77.d).2.2.1), aI ((a0_7.getD y16.toNat e77.d).2.2.2)]] [(1, vO 0 0 8 0 0), (8, vO 1 0 4 0 0), (91, vS e77 a0_7), (92, vI (a0_7.length : Int)), (93, vI y16)] ((0 ≤ y16 ∧ y16 < (a0_7.length : Int)) ∧ (True)) 4 [1, 8, 91, 92, 93] ⟨c18, trivial⟩ ?_
                           refine thenQ_n ?_
                           refine js ?_
                           refine jr ?_
                           refine jh [(1, vO 0 0 8 0 0), (91, vS e77 a0_7), (92, vI (a0_7.length : Int)), (93, vI y16), (97, .agg [aI a0_0, aI a0_1, aI a0_2, aI a0_3, aS e28 a0_4, aS e72 a0_5, aS e65 a0_6, aS e77 a0_7]), (98, .agg [aS e61 ((a0_7.getD y16.toNat e77.d).1), aS e61 ((a0_7.getD y16.toNat e77.d).2.1), aY ((a0_7.getD y16.toNat e77.d).2.2.1), aI ((a0_7.getD y16.toNat e77.d).2.2.2)])] 2 [1, 91, 92, 93, 97, 98] ?_
                           obtain ⟨r19, gr19, h⟩ := bind_some h
                           refine jl 99 Tryd.call65 (p65 L _ _ _ _ _ _ _ _ _ _ _ _ _ gr19) ?_
                           refine jg [(1, vO 0 0 8 0 0), (91, vS e77 a0_7), (92, vI (a0_7.length : Int)), (93, vI y16), (100, vB (!r19))] 1 [1, 91, 92, 93, 100] ?_
                           refine thenQ_n ?_
                           refine jc (!r19) (fun hb => ?_) (fun hb => ?_)
                           · have h := cond_t hb h
                             refine js ?_
                             refine jr ?_
                             refine jg [(2, vB false)] 1 [2] ?_
                             refine thenQ_n ?_
                             refine jt ?_
                             refine blockQ_r ?_
                             refine thenQ_r ?_
                             obtain rfl := si h; refine round_r rfl (fun hb => ?_); subst hb; have h := kb17; dsimp only at h
                             refine blockQ_r ?_
                             obtain rfl := si h; have h := ky14; dsimp only at h; refine thenQ_r ?_
                             obtain rfl := si h
                             exact jq [vB false]
                           · have h := cond_f hb h
                             refine jk ?_
                             refine blockQ_n ?_
                             refine thenQ_n ?_
                             refine jr ?_
                             obtain ⟨c20, h⟩ := ck_bind h
                             refine jG [(1, vO 0 0 8 0 0), (91, vS e77 a0_7), (92, vI (a0_7.length : Int)), (93, vI (y16 + (1 : Int)))] ((inR .i64 (y16 + (1 : Int))) ∧ (True)) 2 [1, 91, 92, 93] ⟨c20, trivial⟩ ?_
                             obtain rfl := si h
                             exact round_n _ rfl (jE [.keep [1, 91, 92, 93], .take 1])
                         · have h := cond_f hb h
                           refine je 4 ?_
                           refine thenQ_e ?_
                           obtain rfl := si h; refine round_e rfl (fun hb => ?_); subst hb; have h := kb17; dsimp only at h
                           refine blockQ_hit ?_
                           obtain rfl := si h
                           exact thenQ_n ⟨_, rfl, jE [.keep [], .take 1]⟩
                     · have h := gy12; clear gy12
                       refine js ?_
                       refine jr ?_
                       refine jg [(1, vO 0 0 8 0 0), (79, vS e65 a0_6), (80, vI (a0_6.length : Int)), (81, vI 0)] 4 [1, 79, 80, 81] ?_
                       refine thenQ_n ?_
                       refine jb 2 ?_
                       obtain ⟨b22, gb22, kb22⟩ := bind_some h
                       refine W_loop_at (S := fun (y21 : Int) => ([bL 27 [aI a0_0, aI a0_1, aI a0_2, aI a0_3, aS e28 a0_4, aS e72 a0_5, aS e65 a0_6, aS e77 a0_7]], [(1, vO 0 0 8 0 0), (79, vS e65 a0_6), (80, vI (a0_6.length : Int)), (81, vI y21)])) (step := _) (x0 := (0 : Int)) (b := b22) (L.ok _ _ _ gb22) (by kernel_rfl) (jE [.keep [1, 79, 80, 81], .take 1]) ?_
                       clear gb22 h; intro y21 o h; unfold s18_1 at h
                       refine js ?_
                       refine jr ?_
                       refine jg [(1, vO 0 0 8 0 0), (79, vS e65 a0_6), (80, vI (a0_6.length : Int)), (81, vI y21), (82, vB (decide (y21 < (a0_6.length : Int))))] 1 [1, 79, 80, 81, 82] ?_
                       refine thenQ_n ?_
                       refine js ?_
                       refine jc (decide (y21 < (a0_6.length : Int))) (fun hb => ?_) (fun hb => ?_)
                       · have h := cond_t hb h
                         refine jk ?_
                         refine thenQ_n ?_
                         refine js ?_
                         refine jb 3 ?_
                         refine js ?_
                         refine jr ?_
                         obtain ⟨c23, h⟩ := ck_bind h
                         refine jF [bL 27 [aI a0_0, aI a0_1, aI a0_2, aI a0_3, aS e28 a0_4, aS e72 a0_5, aS e65 a0_6, aS e77 a0_7], bL 65 [aS e62 ((a0_6.getD y21.toNat e65.d).1), aS e62 ((a0_6.getD y21.toNat e65.d).2)]] [(1, vO 0 0 8 0 0), (6, vO 1 0 2 0 0), (79, vS e65 a0_6), (80, vI (a0_6.length : Int)), (81, vI y21)] ((0 ≤ y21 ∧ y21 < (a0_6.length : Int)) ∧ (True)) 4 [1, 6, 79, 80, 81] ⟨c23, trivial⟩ ?_
                         refine thenQ_n ?_
                         refine js ?_
                         refine jr ?_
                         refine jh [(1, vO 0 0 8 0 0), (79, vS e65 a0_6), (80, vI (a0_6.length : Int)), (81, vI y21), (85, .agg [aI a0_0, aI a0_1, aI a0_2, aI a0_3, aS e28 a0_4, aS e72 a0_5, aS e65 a0_6, aS e77 a0_7]), (86, .agg [aS e62 ((a0_6.getD y21.toNat e65.d).1), aS e62 ((a0_6.getD y21.toNat e65.d).2)])] 2 [1, 79, 80, 81, 85, 86] ?_
                         obtain ⟨r24, gr24, h⟩ := bind_some h
                         refine jl 87 Tryd.call64 (p64 L _ _ _ _ _ _ _ _ _ _ _ gr24) ?_
                         refine jg [(1, vO 0 0 8 0 0), (79, vS e65 a0_6), (80, vI (a0_6.length : Int)), (81, vI y21), (88, vB (!r24))] 1 [1, 79, 80, 81, 88] ?_
                         refine thenQ_n ?_
                         refine jc (!r24) (fun hb => ?_) (fun hb => ?_)
                         · have h := cond_t hb h
                           refine js ?_
                           refine jr ?_
                           refine jg [(2, vB false)] 1 [2] ?_
                           refine thenQ_n ?_
                           refine jt ?_
                           refine blockQ_r ?_
                           refine thenQ_r ?_
                           obtain rfl := si h; refine round_r rfl (fun hb => ?_); subst hb; have h := kb22; dsimp only at h
                           refine blockQ_r ?_
                           obtain rfl := si h; have h := ky12; dsimp only at h; refine thenQ_r ?_
                           obtain rfl := si h
                           exact jq [vB false]
                         · have h := cond_f hb h
                           refine jk ?_
                           refine blockQ_n ?_
                           refine thenQ_n ?_
                           refine jr ?_
                           obtain ⟨c25, h⟩ := ck_bind h
                           refine jG [(1, vO 0 0 8 0 0), (79, vS e65 a0_6), (80, vI (a0_6.length : Int)), (81, vI (y21 + (1 : Int)))] ((inR .i64 (y21 + (1 : Int))) ∧ (True)) 2 [1, 79, 80, 81] ⟨c25, trivial⟩ ?_
                           obtain rfl := si h
                           exact round_n _ rfl (jE [.keep [1, 79, 80, 81], .take 1])
                       · have h := cond_f hb h
                         refine je 2 ?_
                         refine thenQ_e ?_
                         obtain rfl := si h; refine round_e rfl (fun hb => ?_); subst hb; have h := kb22; dsimp only at h
                         refine blockQ_hit ?_
                         obtain rfl := si h
                         exact thenQ_n ⟨_, rfl, jE [.keep [1], .take 1]⟩
                   · have h := gy10; clear gy10
                     refine js ?_
                     refine jr ?_
                     refine jg [(1, vO 0 0 8 0 0), (67, vS e72 a0_5), (68, vI (a0_5.length : Int)), (69, vI 0)] 4 [1, 67, 68, 69] ?_
                     refine thenQ_n ?_
                     refine jb 0 ?_
                     obtain ⟨b27, gb27, kb27⟩ := bind_some h
                     refine W_loop_at (S := fun (y26 : Int) => ([bL 27 [aI a0_0, aI a0_1, aI a0_2, aI a0_3, aS e28 a0_4, aS e72 a0_5, aS e65 a0_6, aS e77 a0_7]], [(1, vO 0 0 8 0 0), (67, vS e72 a0_5), (68, vI (a0_5.length : Int)), (69, vI y26)])) (step := _) (x0 := (0 : Int)) (b := b27) (L.ok _ _ _ gb27) (by kernel_rfl) (jE [.keep [1, 67, 68, 69], .take 1]) ?_
                     clear gb27 h; intro y26 o h; unfold s18_2 at h
                     refine js ?_
                     refine jr ?_
                     refine jg [(1, vO 0 0 8 0 0), (67, vS e72 a0_5), (68, vI (a0_5.length : Int)), (69, vI y26), (70, vB (decide (y26 < (a0_5.length : Int))))] 1 [1, 67, 68, 69, 70] ?_
                     refine thenQ_n ?_
                     refine js ?_
                     refine jc (decide (y26 < (a0_5.length : Int))) (fun hb => ?_) (fun hb => ?_)
                     · have h := cond_t hb h
                       refine jk ?_
                       refine thenQ_n ?_
                       refine js ?_
                       refine jb 1 ?_
                       refine js ?_
                       refine jr ?_
                       obtain ⟨c28, h⟩ := ck_bind h
                       refine jF [bL 27 [aI a0_0, aI a0_1, aI a0_2, aI a0_3, aS e28 a0_4, aS e72 a0_5, aS e65 a0_6, aS e77 a0_7], bL 72 [aY ((a0_5.getD y26.toNat e72.d).1), aS e74 ((a0_5.getD y26.toNat e72.d).2)]] [(1, vO 0 0 8 0 0), (4, vO 1 0 2 0 0), (67, vS e72 a0_5), (68, vI (a0_5.length : Int)), (69, vI y26)] ((0 ≤ y26 ∧ y26 < (a0_5.length : Int)) ∧ (True)) 4 [1, 4, 67, 68, 69] ⟨c28, trivial⟩ ?_
                       refine thenQ_n ?_
                       refine js ?_
                       refine jr ?_
                       refine jh [(1, vO 0 0 8 0 0), (67, vS e72 a0_5), (68, vI (a0_5.length : Int)), (69, vI y26), (73, .agg [aI a0_0, aI a0_1, aI a0_2, aI a0_3, aS e28 a0_4, aS e72 a0_5, aS e65 a0_6, aS e77 a0_7]), (74, .agg [aY ((a0_5.getD y26.toNat e72.d).1), aS e74 ((a0_5.getD y26.toNat e72.d).2)])] 2 [1, 67, 68, 69, 73, 74] ?_
                       obtain ⟨r29, gr29, h⟩ := bind_some h
                       refine jl 75 Tryd.call63 (p63 L _ _ _ _ _ _ _ _ _ _ _ gr29) ?_
                       refine jg [(1, vO 0 0 8 0 0), (67, vS e72 a0_5), (68, vI (a0_5.length : Int)), (69, vI y26), (76, vB (!r29))] 1 [1, 67, 68, 69, 76] ?_
                       refine thenQ_n ?_
                       refine jc (!r29) (fun hb => ?_) (fun hb => ?_)
                       · have h := cond_t hb h
                         refine js ?_
                         refine jr ?_
                         refine jg [(2, vB false)] 1 [2] ?_
                         refine thenQ_n ?_
                         refine jt ?_
                         refine blockQ_r ?_
                         refine thenQ_r ?_
                         obtain rfl := si h; refine round_r rfl (fun hb => ?_); subst hb; have h := kb27; dsimp only at h
                         refine blockQ_r ?_
                         obtain rfl := si h; have h := ky10; dsimp only at h; refine thenQ_r ?_
                         obtain rfl := si h
                         exact jq [vB false]
                       · have h := cond_f hb h
                         refine jk ?_
                         refine blockQ_n ?_
                         refine thenQ_n ?_
                         refine jr ?_
                         obtain ⟨c30, h⟩ := ck_bind h
                         refine jG [(1, vO 0 0 8 0 0), (67, vS e72 a0_5), (68, vI (a0_5.length : Int)), (69, vI (y26 + (1 : Int)))] ((inR .i64 (y26 + (1 : Int))) ∧ (True)) 2 [1, 67, 68, 69] ⟨c30, trivial⟩ ?_
                         obtain rfl := si h
                         exact round_n _ rfl (jE [.keep [1, 67, 68, 69], .take 1])
                     · have h := cond_f hb h
                       refine je 0 ?_
                       refine thenQ_e ?_
                       obtain rfl := si h; refine round_e rfl (fun hb => ?_); subst hb; have h := kb27; dsimp only at h
                       refine blockQ_hit ?_
                       obtain rfl := si h
                       exact thenQ_n ⟨_, rfl, jE [.keep [1], .take 1]⟩
             · intro J
               clear h
               rcases Bool.eq_false_or_eq_true y6 with hb | hb
               · have h := cond_t hb gy7; clear gy7
                 refine jd 51 hb ?_
                 obtain rfl := si h
                 refine jh [(1, vO 0 0 8 0 0), (56, vB true)] 5 [1, 56] J
               · have h := cond_f hb gy7; clear gy7
                 refine jd 51 hb ?_
                 refine jh [(1, vO 0 0 8 0 0), (51, vB false), (55, vB (decide ((a0_7.length : Int) > (8 : Int))))] 4 [1, 51, 55] ?_
                 obtain rfl := si h
                 refine jh [(1, vO 0 0 8 0 0), (56, vB (decide ((a0_7.length : Int) > (8 : Int))))] 1 [1, 56] J
           · intro J
             clear h
             rcases Bool.eq_false_or_eq_true y5 with hb | hb
             · have h := cond_t hb gy6; clear gy6
               refine jd 45 hb ?_
               obtain rfl := si h
               refine jh [(1, vO 0 0 8 0 0), (50, vB true)] 5 [1, 50] J
             · have h := cond_f hb gy6; clear gy6
               refine jd 45 hb ?_
               refine jh [(1, vO 0 0 8 0 0), (45, vB false), (49, vB (decide ((a0_6.length : Int) > (4 : Int))))] 4 [1, 45, 49] ?_
               obtain rfl := si h
               refine jh [(1, vO 0 0 8 0 0), (50, vB (decide ((a0_6.length : Int) > (4 : Int))))] 1 [1, 50] J
         · intro J
           clear h
           rcases Bool.eq_false_or_eq_true (decide ((a0_4.length : Int) > (64 : Int))) with hb | hb
           · have h := cond_t hb gy5; clear gy5
             refine jd 39 hb ?_
             obtain rfl := si h
             refine jh [(1, vO 0 0 8 0 0), (44, vB true)] 5 [1, 44] J
           · have h := cond_f hb gy5; clear gy5
             refine jd 39 hb ?_
             refine jh [(1, vO 0 0 8 0 0), (39, vB false), (43, vB (decide ((a0_5.length : Int) > (64 : Int))))] 4 [1, 39, 43] ?_
             obtain rfl := si h
             refine jh [(1, vO 0 0 8 0 0), (44, vB (decide ((a0_5.length : Int) > (64 : Int))))] 1 [1, 44] J
     · intro J
       clear h
       rcases Bool.eq_false_or_eq_true y3 with hb | hb
       · have h := cond_t hb gy4; clear gy4
         refine jd 29 hb ?_
         obtain rfl := si h
         refine jh [(1, vO 0 0 8 0 0), (34, vB true)] 5 [1, 34] J
       · have h := cond_f hb gy4; clear gy4
         refine jd 29 hb ?_
         refine jh [(1, vO 0 0 8 0 0), (29, vB false), (31, vI a0_3)] 2 [1, 29, 31] ?_
         obtain ⟨r31, gr31, h⟩ := bind_some h
         refine jl 32 Tryd.call45 (p45 L _ _ _ _ gr31) ?_
         refine jh [(1, vO 0 0 8 0 0), (29, vB false), (33, vB (!r31))] 1 [1, 29, 33] ?_
         obtain rfl := si h
         refine jh [(1, vO 0 0 8 0 0), (34, vB (!r31))] 1 [1, 34] J
   · intro J
     clear h
     rcases Bool.eq_false_or_eq_true y2 with hb | hb
     · have h := cond_t hb gy3; clear gy3
       refine jd 23 hb ?_
       obtain rfl := si h
       refine jh [(1, vO 0 0 8 0 0), (28, vB true)] 5 [1, 28] J
     · have h := cond_f hb gy3; clear gy3
       refine jd 23 hb ?_
       refine jh [(1, vO 0 0 8 0 0), (23, vB false), (25, vI a0_2)] 2 [1, 23, 25] ?_
       obtain ⟨r32, gr32, h⟩ := bind_some h
       refine jl 26 Tryd.call45 (p45 L _ _ _ _ gr32) ?_
       refine jh [(1, vO 0 0 8 0 0), (23, vB false), (27, vB (!r32))] 1 [1, 23, 27] ?_
       obtain rfl := si h
       refine jh [(1, vO 0 0 8 0 0), (28, vB (!r32))] 1 [1, 28] J
 · intro J
   clear h
   rcases Bool.eq_false_or_eq_true (!r1) with hb | hb
   · have h := cond_t hb gy2; clear gy2
     refine jD 13 hb ?_
     obtain rfl := si h
     refine jy 0 [(1, vO 0 0 8 0 0), (22, vB true)] 9 [1, 22] J
   · have h := cond_f hb gy2; clear gy2
     refine jD 13 hb ?_
     refine jy 5 [(1, vO 0 0 8 0 0), (13, vB false), (15, vI a0_1), (17, vI a0_0)] 4 [1, 13, 15, 17] ?_
     obtain ⟨r33, gr33, h⟩ := bind_some h
     refine jL 18 Tryd.call61 (p61 L _ _ gr33) ?_
     refine jy 3 [(1, vO 0 0 8 0 0), (13, vB false), (15, vI a0_1), (19, vI (if r33 < (13 : Int) then r33 else (13 : Int)))] 1 [1, 13, 15, 19] ?_
     obtain ⟨r34, gr34, h⟩ := bind_some h
     refine jL 20 Tryd.call45 (p45 L _ _ _ _ gr34) ?_
     refine jy 1 [(1, vO 0 0 8 0 0), (13, vB false), (21, vB (!r34))] 1 [1, 13, 21] ?_
     obtain rfl := si h
     refine jy 0 [(1, vO 0 0 8 0 0), (22, vB (!r34))] 1 [1, 22] J

/- system.Fits -/
def s44 (L : LP) (a0_0 : Int) (a0_1 : Int) (a0_2 : Int) (a0_3 : Int) (a0_4 : (List (List Int))) (a0_5 : (List (Int × (List (Int × (List (Int × Int))))))) (a0_6 : (List ((List (List (Int × Int))) × (List (List (Int × Int)))))) (a0_7 : (List ((List (Int × Int)) × (List (Int × Int)) × Int × Int))) (a1_0 : (List Int)) (a1_1 : (List (List Int))) : Option Bool :=
  (s18 L a0_0 a0_1 a0_2 a0_3 a0_4 a0_5 a0_6 a0_7).bind fun r1 =>
  (bif r1 then some (decide ((a1_0.length : Int) = a0_3))
  else some false).bind fun y2 =>
  (bif y2 then some (decide ((a1_1.length : Int) = a0_2))
  else some false).bind fun y3 =>
  (bif y3 then (s97 L a0_0 a1_0).bind fun r8 =>
  some r8
  else some false).bind fun y4 =>
  (bif y4 then (ck (0 ≤ a0_1 ∧ a0_1 < ((IntKind.bits .i64 : Nat) : Int) ∧ inR .i64 ((1 : Int) * 2 ^ a0_1.toNat))).bind fun _ =>
  (s62 L a0_0 ((1 : Int) * 2 ^ a0_1.toNat) a1_1).bind fun r7 =>
  some r7
  else some false).bind fun y5 =>
  some y5
theorem p44 (L : LP) (a0_0 : Int) (a0_1 : Int) (a0_2 : Int) (a0_3 : Int) (a0_4 : (List (List Int))) (a0_5 : (List (Int × (List (Int × (List (Int × Int))))))) (a0_6 : (List ((List (List (Int × Int))) × (List (List (Int × Int)))))) (a0_7 : (List ((List (Int × Int)) × (List (Int × Int)) × Int × Int))) (a1_0 : (List Int)) (a1_1 : (List (List Int))) (r : Bool) (h : s44 L a0_0 a0_1 a0_2 a0_3 a0_4 a0_5 a0_6 a0_7 a1_0 a1_1 = some r) : Pure X 44 [.agg [aI a0_0, aI a0_1, aI a0_2, aI a0_3, aS e28 a0_4, aS e72 a0_5, aS e65 a0_6, aS e77 a0_7], .agg [aS e44 a1_0, aS e28 a1_1]] (vB r) := by
 refine Pure_of_W (c := cd Tryd.f44 []) Tryd.func44 (by kernel_rfl) (N := 40) (by kernel_rfl) (Nat.le_of_ble_eq_true (by kernel_rfl)) ?_
 unfold s44 at h
 refine js ?_
 refine jr ?_
 refine jf [bL 27 [aI a0_0, aI a0_1, aI a0_2, aI a0_3, aS e28 a0_4, aS e72 a0_5, aS e65 a0_6, aS e77 a0_7], bL 30 [aS e44 a1_0, aS e28 a1_1]] [(2, vO 0 0 8 0 0), (3, vO 1 0 2 0 0)] 3 [2, 3] ?_
 refine thenQ_n ?_
 refine js ?_
 refine jdr 35 mixed ?_
 refine jy 34 [(2, vO 0 0 8 0 0), (3, vO 1 0 2 0 0), (5, .agg [aI a0_0, aI a0_1, aI a0_2, aI a0_3, aS e28 a0_4, aS e72 a0_5, aS e65 a0_6, aS e77 a0_7])] 1 [2, 3, 5] ?_
 obtain ⟨r1, gr1, h⟩ := bind_some h
 refine jL 6 Tryd.call18 (p18 L _ _ _ _ _ _ _ _ _ gr1) ?_
 refine jy 32 [(2, vO 0 0 8 0 0), (3, vO 1 0 2 0 0), (7, vB r1)] 1 [2, 3, 7] ?_
 obtain ⟨y2, gy2, h⟩ := bind_some h
 refine WQ_join 25 10 [(2, vO 0 0 8 0 0), (3, vO 1 0 2 0 0), (14, vB y2)] ?_ ?_
 · clear gy2
   refine jy 24 [(2, vO 0 0 8 0 0), (3, vO 1 0 2 0 0), (15, vB y2)] 1 [2, 3, 15] ?_
   obtain ⟨y3, gy3, h⟩ := bind_some h
   refine WQ_join 17 18 [(2, vO 0 0 8 0 0), (3, vO 1 0 2 0 0), (22, vB y3)] ?_ ?_
   · clear gy3
     refine jy 16 [(2, vO 0 0 8 0 0), (3, vO 1 0 2 0 0), (23, vB y3)] 1 [2, 3, 23] ?_
     obtain ⟨y4, gy4, h⟩ := bind_some h
     refine WQ_join 10 25 [(2, vO 0 0 8 0 0), (3, vO 1 0 2 0 0), (29, vB y4)] ?_ ?_
     · clear gy4
       refine jy 9 [(2, vO 0 0 8 0 0), (3, vO 1 0 2 0 0), (30, vB y4)] 1 [2, 3, 30] ?_
       obtain ⟨y5, gy5, h⟩ := bind_some h
       refine WQ_join 0 35 [(39, vB y5)] ?_ ?_
       · clear gy5
         refine WQ_done ?_
         refine jg [(4, vB y5)] 1 [4] ?_
         refine thenQ_n ?_
         refine jt ?_
         obtain rfl := si h
         exact jq [vB y5]
       · intro J
         clear h
         rcases Bool.eq_false_or_eq_true y4 with hb | hb
         · have h := cond_t hb gy5; clear gy5
           refine jD 30 hb ?_
           obtain ⟨c6, h⟩ := ck_bind h
           refine jY 2 [(30, vB true), (32, vI a0_0), (35, vI ((1 : Int) * 2 ^ a0_1.toNat)), (37, vS e28 a1_1)] ((0 ≤ a0_1 ∧ a0_1 < ((IntKind.bits .i64 : Nat) : Int) ∧ inR .i64 ((1 : Int) * 2 ^ a0_1.toNat)) ∧ (True)) 7 [30, 32, 35, 37] ⟨c6, trivial⟩ ?_
           obtain ⟨r7, gr7, h⟩ := bind_some h
           refine jL 38 Tryd.call62 (p62 L _ _ _ _ gr7) ?_
           obtain rfl := si h
           refine jy 0 [(39, vB r7)] 1 [39] J
         · have h := cond_f hb gy5; clear gy5
           refine jD 30 hb ?_
           obtain rfl := si h
           refine jy 0 [(39, vB false)] 9 [39] J
     · intro J
       clear h
       rcases Bool.eq_false_or_eq_true y3 with hb | hb
       · have h := cond_t hb gy4; clear gy4
         refine jD 23 hb ?_
         refine jy 12 [(2, vO 0 0 8 0 0), (3, vO 1 0 2 0 0), (23, vB true), (25, vI a0_0), (27, vS e44 a1_0)] 4 [2, 3, 23, 25, 27] ?_
         obtain ⟨r8, gr8, h⟩ := bind_some h
         refine jL 28 Tryd.call97 (p97 L _ _ _ gr8) ?_
         obtain rfl := si h
         refine jy 10 [(2, vO 0 0 8 0 0), (3, vO 1 0 2 0 0), (29, vB r8)] 1 [2, 3, 29] J
       · have h := cond_f hb gy4; clear gy4
         refine jD 23 hb ?_
         obtain rfl := si h
         refine jy 10 [(2, vO 0 0 8 0 0), (3, vO 1 0 2 0 0), (29, vB false)] 6 [2, 3, 29] J
   · intro J
     clear h
     rcases Bool.eq_false_or_eq_true y2 with hb | hb
     · have h := cond_t hb gy3; clear gy3
       refine jD 15 hb ?_
       refine jy 18 [(2, vO 0 0 8 0 0), (3, vO 1 0 2 0 0), (15, vB true), (21, vB (decide ((a1_1.length : Int) = a0_2)))] 6 [2, 3, 15, 21] ?_
       obtain rfl := si h
       refine jy 17 [(2, vO 0 0 8 0 0), (3, vO 1 0 2 0 0), (22, vB (decide ((a1_1.length : Int) = a0_2)))] 1 [2, 3, 22] J
     · have h := cond_f hb gy3; clear gy3
       refine jD 15 hb ?_
       obtain rfl := si h
       refine jy 17 [(2, vO 0 0 8 0 0), (3, vO 1 0 2 0 0), (22, vB false)] 7 [2, 3, 22] J
 · intro J
   clear h
   rcases Bool.eq_false_or_eq_true r1 with hb | hb
   · have h := cond_t hb gy2; clear gy2
     refine jD 7 hb ?_
     refine jy 26 [(2, vO 0 0 8 0 0), (3, vO 1 0 2 0 0), (7, vB true), (13, vB (decide ((a1_0.length : Int) = a0_3)))] 6 [2, 3, 7, 13] ?_
     obtain rfl := si h
     refine jy 25 [(2, vO 0 0 8 0 0), (3, vO 1 0 2 0 0), (14, vB (decide ((a1_0.length : Int) = a0_3)))] 1 [2, 3, 14] J
   · have h := cond_f hb gy2; clear gy2
     refine jD 7 hb ?_
     obtain rfl := si h
     refine jy 25 [(2, vO 0 0 8 0 0), (3, vO 1 0 2 0 0), (14, vB false)] 7 [2, 3, 14] J

/- system.row -/
def s98_0 (L : LP) (a0 : (List (List Int))) (a1 : Int) (y3 : (Int × (List Int))) : Option ((Int × (List Int)) ⊕ (List Int)) :=
  (bif (decide (y3.1 < (a0.length : Int))) then
  (ck (0 ≤ y3.1 ∧ y3.1 < (a0.length : Int))).bind fun _ =>
  (ck (0 ≤ a1 ∧ a1 < ((a0.getD y3.1.toNat e28.d).length : Int))).bind fun _ =>
  (ck (0 ≤ y3.1 ∧ y3.1 < ((y3.2.length : Nat) : Int))).bind fun _ =>
  (ck (y3.1.toNat < y3.2.length)).bind fun _ =>
  (ck (inR .i64 (y3.1 + (1 : Int)))).bind fun _ =>
  some (.inl ((y3.1 + (1 : Int)), (y3.2.set y3.1.toNat ((a0.getD y3.1.toNat e28.d).getD a1.toNat e44.d))))
  else some (.inr y3.2))
def s98 (L : LP) (a0 : (List (List Int))) (a1 : Int) : Option (List Int) :=
  (ck ((a0.length : Int) = (a0.length : Int) ∧ 0 ≤ (a0.length : Int) ∧ (a0.length : Int) * 8 ≤ 140737488355328 ∧ (a0.length : Int) ≤ 140737488355328)).bind fun _ =>
  ((L.run (s98_0 L a0 a1) ((0 : Int), (List.replicate (a0.length : Int).toNat e44.d))).bind (fun (v : (List Int)) => some v)).bind fun (y2 : (List Int)) =>
  some y2
theorem p98 (L : LP) (a0 : (List (List Int))) (a1 : Int) (r : (List Int)) (h : s98 L a0 a1 = some r) : Pure X 98 [vS e28 a0, vI a1] (vS e44 r) := by
 refine Pure_of_W (c := cd Tryd.f98 []) Tryd.func98 (by kernel_rfl) (N := 27) (by kernel_rfl) (Nat.le_of_ble_eq_true (by kernel_rfl)) ?_
 unfold s98 at h
 refine js ?_
 refine jr ?_
 refine jg [(0, vS e28 a0), (1, vI a1)] 1 [0, 1] ?_
 refine thenQ_n ?_
 refine js ?_
 refine jr ?_
 refine jh [(0, vS e28 a0), (1, vI a1), (9, vI (a0.length : Int))] 2 [0, 1, 9] ?_
 obtain ⟨c1, h⟩ := ck_bind h
 refine WO_exk (σ' := [some (.rows 0 44 1 (a0.length : Int).toNat (fun _ j => (e44.row e44.d).getD j .jk))]) (T' := [(10, vW 0 0 ((a0.length : Int).toNat)), (0, vS e28 a0), (1, vI a1), (9, vI (a0.length : Int))]) (Φ := ((a0.length : Int) = (a0.length : Int) ∧ 0 ≤ (a0.length : Int) ∧ (a0.length : Int) * 8 ≤ 140737488355328 ∧ (a0.length : Int) ≤ 140737488355328) ∧ True) 1 [10, 0, 1, 9] (by kernel_rfl) ⟨c1, trivial⟩ ?_
 refine WO_ent (ent_make e44 0 44 (n := (a0.length : Int).toNat) (row := fun _ j => (e44.row e44.d).getD j .jk) (t := 10) (σ' := [some (rwB e44 0 44 (List.replicate (a0.length : Int).toNat e44.d))]) (T' := [(10, vW 0 0 ((List.replicate (a0.length : Int).toNat e44.d).length)), (0, vS e28 a0), (1, vI a1), (9, vI (a0.length : Int))]) (by kernel_rfl) (fun _ _ _ => rfl) (by kernel_rfl) (by kernel_rfl) (by kernel_rfl)) ?_
 refine jg [(0, vS e28 a0), (1, vI a1), (5, vW 0 0 ((List.replicate (a0.length : Int).toNat e44.d).length))] 1 [0, 1, 5] ?_
 refine thenQ_n ?_
 obtain ⟨y2, gy2, ky2⟩ := bind_some h
 refine W_cut (by kernel_rfl) [some (rwB e44 0 44 y2)] [(5, vW 0 0 y2.length)] ?_ ?_
 · have h := ky2; clear gy2 ky2
   refine js ?_
   refine jr ?_
   refine jg [(4, vW 0 0 y2.length)] 2 [4] ?_
   refine thenQ_n ?_
   refine jt ?_
   obtain rfl := si h
   exact jq [vW 0 0 y2.length]
 · have h := gy2; clear gy2 ky2
   refine js ?_
   refine jr ?_
   refine jg [(1, vI a1), (5, vW 0 0 ((List.replicate (a0.length : Int).toNat e44.d).length)), (11, vS e28 a0), (12, vI (a0.length : Int)), (13, vI 0)] 3 [1, 5, 11, 12, 13] ?_
   refine thenQ_n ?_
   refine jb 0 ?_
   obtain ⟨b4, gb4, kb4⟩ := bind_some h
   refine W_loop_at (S := fun (y3 : (Int × (List Int))) => ([some (rwB e44 0 44 y3.2)], [(1, vI a1), (5, vW 0 0 y3.2.length), (11, vS e28 a0), (12, vI (a0.length : Int)), (13, vI y3.1)])) (step := _) (x0 := ((0 : Int), (List.replicate (a0.length : Int).toNat e44.d))) (b := b4) (L.ok _ _ _ gb4) (by kernel_rfl) (jE [.keep [1, 5, 11, 12, 13], .take 1, .ver0 0]) ?_
   clear gb4 h; intro y3 o h; unfold s98_0 at h
   refine js ?_
   refine jr ?_
   refine jg [(1, vI a1), (5, vW 0 0 y3.2.length), (11, vS e28 a0), (12, vI (a0.length : Int)), (13, vI y3.1), (14, vB (decide (y3.1 < (a0.length : Int))))] 1 [1, 5, 11, 12, 13, 14] ?_
   refine thenQ_n ?_
   refine js ?_
   refine jc (decide (y3.1 < (a0.length : Int))) (fun hb => ?_) (fun hb => ?_)
   · have h := cond_t hb h
     refine jk ?_
     refine thenQ_n ?_
     refine js ?_
     refine jb 1 ?_
     refine js ?_
     refine jr ?_
     obtain ⟨c5, h⟩ := ck_bind h
     refine jG [(1, vI a1), (5, vW 0 0 y3.2.length), (6, vI y3.1), (7, vS e44 (a0.getD y3.1.toNat e28.d)), (11, vS e28 a0), (12, vI (a0.length : Int)), (13, vI y3.1)] ((0 ≤ y3.1 ∧ y3.1 < (a0.length : Int)) ∧ (True)) 5 [1, 5, 6, 7, 11, 12, 13] ⟨c5, trivial⟩ ?_
     refine thenQ_n ?_
     refine jr ?_
     obtain ⟨c6, h⟩ := ck_bind h
     obtain ⟨c7, h⟩ := ck_bind h
     refine jH [(1, vI a1), (5, vW 0 0 y3.2.length), (11, vS e28 a0), (12, vI (a0.length : Int)), (13, vI y3.1), (23, vU ((a0.getD y3.1.toNat e28.d).getD a1.toNat e44.d)), (24, vO 0 0 1 y3.1.toNat 0)] ((0 ≤ a1 ∧ a1 < ((a0.getD y3.1.toNat e28.d).length : Int)) ∧ (0 ≤ y3.1 ∧ y3.1 < ((y3.2.length : Nat) : Int)) ∧ (True)) 7 [1, 5, 11, 12, 13, 23, 24] ⟨c6, c7, trivial⟩ ?_
     obtain ⟨c8, h⟩ := ck_bind h
     refine WO_put e44 y3.2 ((a0.getD y3.1.toNat e28.d).getD a1.toNat e44.d) (b := 0) (ver := 0) (e := 44) (r := y3.1.toNat) (σ' := [some (rwB e44 0 44 (y3.2.set y3.1.toNat ((a0.getD y3.1.toNat e28.d).getD a1.toNat e44.d)))]) (by kernel_rfl) (by kernel_rfl) c8 (by kernel_rfl) (fun n => [(1, vI a1), (5, vW 0 0 n), (11, vS e28 a0), (12, vI (a0.length : Int)), (13, vI y3.1), (23, vU ((a0.getD y3.1.toNat e28.d).getD a1.toNat e44.d)), (24, vO 0 0 1 y3.1.toNat 0)]) (by kernel_rfl) ?_
     refine jg [(1, vI a1), (5, vW 0 0 ((y3.2.set y3.1.toNat ((a0.getD y3.1.toNat e28.d).getD a1.toNat e44.d)).length)), (11, vS e28 a0), (12, vI (a0.length : Int)), (13, vI y3.1)] 0 [1, 5, 11, 12, 13] ?_
     refine blockQ_n ?_
     refine thenQ_n ?_
     refine jr ?_
     obtain ⟨c9, h⟩ := ck_bind h
     refine jG [(1, vI a1), (5, vW 0 0 ((y3.2.set y3.1.toNat ((a0.getD y3.1.toNat e28.d).getD a1.toNat e44.d)).length)), (11, vS e28 a0), (12, vI (a0.length : Int)), (13, vI (y3.1 + (1 : Int)))] ((inR .i64 (y3.1 + (1 : Int))) ∧ (True)) 2 [1, 5, 11, 12, 13] ⟨c9, trivial⟩ ?_
     obtain rfl := si h
     exact round_n _ rfl (jE [.keep [1, 5, 11, 12, 13], .take 1, .ver0 0])
   · have h := cond_f hb h
     refine je 0 ?_
     refine thenQ_e ?_
     obtain rfl := si h; refine round_e rfl (fun hb => ?_); subst hb; have h := kb4
     refine blockQ_hit ?_
     obtain rfl := si h
     exact thenQ_n (jE [.keep [5], .take 1, .ver0 0])

/- slices.Clone[[]uint64,uint64] -/
def s99 (L : LP) (a0 : List Int) : Option (List Int) :=
  (ck ((([] : List Int).length + a0.length) * 8 ≤ 140737488355328 ∧ ([] : List Int).length + a0.length ≤ 140737488355328)).bind fun _ => some a0
theorem p99 (L : LP) (a0 : List Int) (r : List Int) (h : s99 L a0 = some r) : Pure X 99 [.cell (.c (slC e44 a0))] (.cell (.c (slC e44 r))) := by
  unfold s99 at h
  obtain ⟨c1, h⟩ := ck_bind h
  obtain rfl := Option.some.inj h
  refine Pure_of_W (c := cd Tryd.f99 []) Tryd.func99 (by kernel_rfl) (N := 8) (by kernel_rfl) (Nat.le_of_ble_eq_true (by kernel_rfl)) ?_
  refine W_seq_at (by kernel_rfl) ?_
  refine W_region_at (by kernel_rfl) ?_
  refine WO_fin (σ' := []) (T' := [(0, .cell (.c (slC e44 a0)))]) (Φ := True) 1 [0] (by kernel_rfl) trivial (by kernel_rfl) ?_
  refine thenQ_n ?_
  refine W_seq_at (by kernel_rfl) ?_
  refine W_seq_at (by kernel_rfl) ?_
  refine W_region_at (by kernel_rfl) ?_
  refine WO_exk (σ' := []) (T' := [(0, .cell (.c (slC e44 a0))), (3, .cell (.c (slC e44 a0)))]) (Φ := True) 1 [0, 3] (by kernel_rfl) trivial ?_
  refine WO_isnil (d := some 4) (len := a0.length) (by kernel_rfl) (fun b hb0 => ?_)
  refine WO_fin (σ' := []) (T' := [(0, .cell (.c (slC e44 a0))), (4, .cell (.c (.bool b)))]) (Φ := True) 0 [0, 4] (by kernel_rfl) trivial (by kernel_rfl) ?_
  refine thenQ_n ?_
  refine W_cond_at (b := b) (by kernel_rfl) (fun hb => ?_) (fun hb => ?_)
  · have e0 : a0 = [] := List.eq_nil_of_length_eq_zero (hb0 hb)
    subst e0
    refine W_seq_at (by kernel_rfl) ?_
    refine W_region_at (by kernel_rfl) ?_
    refine WO_fin (σ' := []) (T' := [(2, .cell (.c .nsl))]) (Φ := True) 1 [2] (by kernel_rfl) trivial (by kernel_rfl) ?_
    refine thenQ_n ?_
    refine W_ret_at (by kernel_rfl) ?_
    refine thenQ_r ?_
    exact qret [.cell (.c .nsl)] (by kernel_rfl) (by kernel_rfl) [.sl 1 (fun i j => (e44.row (([] : List Int).getD i e44.d)).getD j .jk)] (by kernel_rfl)
  · refine W_skip_at (by kernel_rfl) ?_
    refine thenQ_n ?_
    refine W_seq_at (by kernel_rfl) ?_
    refine W_region_at (by kernel_rfl) ?_
    refine WO_rowown e44 ([] : List Int) (cs := []) (d := 5) (e := 44) (n := 0) (σ' := [some (rwB e44 0 44 ([] : List Int))]) (T' := [(5, .cell (.sl 0 0 0)), (0, .cell (.c (slC e44 a0))), (4, .cell (.c (.bool b)))]) (by kernel_rfl) rfl (by kernel_rfl) (by kernel_rfl) (by kernel_rfl) ?_
    refine WO_exk (σ' := [some (rwB e44 0 44 ([] : List Int))]) (T' := [(5, .cell (.sl 0 0 0)), (6, .cell (.c (slC e44 a0)))]) (Φ := True) 1 [5, 6] (by kernel_rfl) trivial ?_
    refine WO_app e44 ([] : List Int) a0 (b := 0) (ver := 0) (e := 44) (d := 7) (row2 := fun i j => (e44.row (a0.getD i e44.d)).getD j .jk) (Φ := (0 = 0 ∧ (([] : List Int).length + a0.length) * 8 ≤ 140737488355328 ∧ ([] : List Int).length + a0.length ≤ 140737488355328) ∧ True) (σ' := [some (rwB e44 1 44 (([] : List Int) ++ a0))]) (T' := [(7, .cell (.sl 0 1 (([] : List Int) ++ a0).length)), (5, .cell (.sl 0 0 0)), (6, .cell (.c (slC e44 a0)))]) (by kernel_rfl) ⟨⟨rfl, c1⟩, trivial⟩ (Nat.le_of_ble_eq_true (by kernel_rfl)) (fun _ _ _ _ => rfl) (by kernel_rfl) (by kernel_rfl) ?_
    refine WO_fin (σ' := [some (rwB e44 1 44 (([] : List Int) ++ a0))]) (T' := [(2, .cell (.sl 0 1 (([] : List Int) ++ a0).length))]) (Φ := True) 1 [2] (by kernel_rfl) trivial (by kernel_rfl) ?_
    refine thenQ_n ?_
    refine W_ret_at (by kernel_rfl) ?_
    exact qret [.cell (.sl 0 1 (([] : List Int) ++ a0).length)] (by kernel_rfl) (by kernel_rfl) [] (by kernel_rfl)

/- system.at -/
def s46 (L : LP) (a0_0 : Int) (a0_1 : Int) (a0_2 : Int) (a0_3 : Int) (a0_4 : (List (List Int))) (a0_5 : (List (Int × (List (Int × (List (Int × Int))))))) (a0_6 : (List ((List (List (Int × Int))) × (List (List (Int × Int)))))) (a0_7 : (List ((List (Int × Int)) × (List (Int × Int)) × Int × Int))) (a1_0 : (List Int)) (a1_1 : (List (List Int))) (a2 : Int) : Option ((List Int) × (List Int) × (List Int) × (List Int) × (List Int) × (List Int) × (List Int)) :=
  (s98 L a1_1 a2).bind fun r1 =>
  (ck (inR .i64 (a2 + (1 : Int)))).bind fun _ =>
  (ck (0 ≤ a0_1 ∧ a0_1 < ((IntKind.bits .i64 : Nat) : Int) ∧ inR .i64 ((1 : Int) * 2 ^ a0_1.toNat))).bind fun _ =>
  (ck (0 ≤ (a2 + (1 : Int)) ∧ 0 < ((1 : Int) * 2 ^ a0_1.toNat))).bind fun _ =>
  (s98 L a1_1 ((a2 + (1 : Int)) % ((1 : Int) * 2 ^ a0_1.toNat))).bind fun r5 =>
  (s98 L a0_4 a2).bind fun r6 =>
  (s99 L a1_0).bind fun r7 =>
  some (r1, r5, r6, r7, [], [], [])
theorem p46 (L : LP) (a0_0 : Int) (a0_1 : Int) (a0_2 : Int) (a0_3 : Int) (a0_4 : (List (List Int))) (a0_5 : (List (Int × (List (Int × (List (Int × Int))))))) (a0_6 : (List ((List (List (Int × Int))) × (List (List (Int × Int)))))) (a0_7 : (List ((List (Int × Int)) × (List (Int × Int)) × Int × Int))) (a1_0 : (List Int)) (a1_1 : (List (List Int))) (a2 : Int) (r : ((List Int) × (List Int) × (List Int) × (List Int) × (List Int) × (List Int) × (List Int))) (h : s46 L a0_0 a0_1 a0_2 a0_3 a0_4 a0_5 a0_6 a0_7 a1_0 a1_1 a2 = some r) : Pure X 46 [.agg [aI a0_0, aI a0_1, aI a0_2, aI a0_3, aS e28 a0_4, aS e72 a0_5, aS e65 a0_6, aS e77 a0_7], .agg [aS e44 a1_0, aS e28 a1_1], vI a2] (.agg [aS e44 r.1, aS e44 r.2.1, aS e44 r.2.2.1, aS e44 r.2.2.2.1, aS e44 r.2.2.2.2.1, aS e44 r.2.2.2.2.2.1, aS e44 r.2.2.2.2.2.2]) := by
 refine Pure_of_W (c := cd Tryd.f46 []) Tryd.func46 (by kernel_rfl) (N := 28) (by kernel_rfl) (Nat.le_of_ble_eq_true (by kernel_rfl)) ?_
 unfold s46 at h
 refine js ?_
 refine jr ?_
 refine jf [bL 27 [aI a0_0, aI a0_1, aI a0_2, aI a0_3, aS e28 a0_4, aS e72 a0_5, aS e65 a0_6, aS e77 a0_7], bL 30 [aS e44 a1_0, aS e28 a1_1], bL 35 [.c (.nsl), .c (.nsl), .c (.nsl), .c (.nsl), .c (.nsl), .c (.nsl), .c (.nsl)]] [(2, vI a2), (3, vO 0 0 8 0 0), (4, vO 1 0 2 0 0), (6, vO 2 0 7 0 0)] 3 [2, 3, 4, 6] ?_
 refine thenQ_n ?_
 refine js ?_
 refine jdr 19 mixed ?_
 refine jy 16 [(2, vI a2), (3, vO 0 0 8 0 0), (4, vO 1 0 2 0 0), (6, vO 2 0 7 0 0), (8, vS e28 a1_1), (9, vI a2)] 3 [2, 3, 4, 6, 8, 9] ?_
 obtain ⟨r1, gr1, h⟩ := bind_some h
 refine jL 10 Tryd.call98 (p98 L _ _ _ gr1) ?_
 obtain ⟨c2, h⟩ := ck_bind h
 obtain ⟨c3, h⟩ := ck_bind h
 obtain ⟨c4, h⟩ := ck_bind h
 refine jY 7 [(2, vI a2), (3, vO 0 0 8 0 0), (4, vO 1 0 2 0 0), (6, vO 2 0 7 0 0), (10, vS e44 r1), (12, vS e28 a1_1), (18, vI ((a2 + (1 : Int)) % ((1 : Int) * 2 ^ a0_1.toNat)))] ((inR .i64 (a2 + (1 : Int))) ∧ (0 ≤ a0_1 ∧ a0_1 < ((IntKind.bits .i64 : Nat) : Int) ∧ inR .i64 ((1 : Int) * 2 ^ a0_1.toNat)) ∧ (0 ≤ (a2 + (1 : Int)) ∧ 0 < ((1 : Int) * 2 ^ a0_1.toNat)) ∧ (True)) 8 [2, 3, 4, 6, 10, 12, 18] ⟨c2, c3, c4, trivial⟩ ?_
 obtain ⟨r5, gr5, h⟩ := bind_some h
 refine jL 19 Tryd.call98 (p98 L _ _ _ gr5) ?_
 refine jy 3 [(4, vO 1 0 2 0 0), (6, vO 2 0 7 0 0), (10, vS e44 r1), (19, vS e44 r5), (21, vS e28 a0_4), (22, vI a2)] 3 [4, 6, 10, 19, 21, 22] ?_
 obtain ⟨r6, gr6, h⟩ := bind_some h
 refine jL 23 Tryd.call98 (p98 L _ _ _ gr6) ?_
 refine jy 0 [(6, vO 2 0 7 0 0), (10, vS e44 r1), (19, vS e44 r5), (23, vS e44 r6), (25, vS e44 a1_0)] 2 [6, 10, 19, 23, 25] ?_
 refine WQ_done ?_
 obtain ⟨r7, gr7, h⟩ := bind_some h
 refine jl 26 Tryd.call99 (p99 L _ _ gr7) ?_
 refine jf [bL 27 [aI a0_0, aI a0_1, aI a0_2, aI a0_3, aS e28 a0_4, aS e72 a0_5, aS e65 a0_6, aS e77 a0_7], bL 30 [aS e44 a1_0, aS e28 a1_1], bL 35 [aS e44 r1, aS e44 r5, aS e44 r6, aS e44 r7, .c (.nsl), .c (.nsl), .c (.nsl)]] [(6, vO 2 0 7 0 0)] 2 [6] ?_
 refine thenQ_n ?_
 refine jt ?_
 obtain rfl := si h
 exact jQ [.agg [aS e44 r1, aS e44 r5, aS e44 r6, aS e44 r7, .c (.nsl), .c (.nsl), .c (.nsl)]] ([.agg [.no, .no, .no, .no, .sl 1 (fun i j => (e44.row (([] : List Int).getD i e44.d)).getD j .jk), .sl 1 (fun i j => (e44.row (([] : List Int).getD i e44.d)).getD j .jk), .sl 1 (fun i j => (e44.row (([] : List Int).getD i e44.d)).getD j .jk)]])

/- system.span -/
def s93 (L : LP) (a0 : Int) (a1 : Int) : Option (Int × Int) :=
  (bif (decide (a0 = (2 : Int))) then
  (ck (inR .i64 (a1 - (1 : Int)))).bind fun _ =>
  some ((0 : Int), (a1 - (1 : Int)))
  else (bif (decide (a0 = (3 : Int))) then
  some ((0 : Int), (1 : Int))
  else (bif (decide (a0 = (4 : Int))) then
  (ck (inR .i64 (a1 - (1 : Int)))).bind fun _ =>
  some ((a1 - (1 : Int)), a1)
  else some ((0 : Int), a1))))
theorem p93 (L : LP) (a0 : Int) (a1 : Int) (r : (Int × Int)) (h : s93 L a0 a1 = some r) : Pure X 93 [vY a0, vI a1] (tupV [vI r.1, vI r.2]) := by
 refine Pure_of_W (c := cd Tryd.f93 []) Tryd.func93 (by kernel_rfl) (N := 19) (by kernel_rfl) (Nat.le_of_ble_eq_true (by kernel_rfl)) ?_
 unfold s93 at h
 refine js ?_
 refine jr ?_
 refine jg [(0, vY a0), (1, vI a1)] 2 [0, 1] ?_
 refine thenQ_n ?_
 refine js ?_
 refine js ?_
 refine jr ?_
 refine jg [(1, vI a1), (6, vY a0)] 1 [1, 6] ?_
 refine thenQ_n ?_
 refine jb 0 ?_
 refine js ?_
 refine jr ?_
 refine jg [(1, vI a1), (6, vY a0), (7, vB (decide (a0 = (2 : Int))))] 2 [1, 6, 7] ?_
 refine thenQ_n ?_
 refine jc (decide (a0 = (2 : Int))) (fun hb => ?_) (fun hb => ?_)
 · have h := cond_t hb h
   refine js ?_
   refine jr ?_
   obtain ⟨c1, h⟩ := ck_bind h
   refine jG [(4, vI 0), (5, vI (a1 - (1 : Int)))] ((inR .i64 (a1 - (1 : Int))) ∧ (True)) 4 [4, 5] ⟨c1, trivial⟩ ?_
   refine thenQ_n ?_
   refine jt ?_
   refine blockQ_r ?_
   refine thenQ_r ?_
   obtain rfl := si h
   exact jq [vI 0, vI (a1 - (1 : Int))]
 · have h := cond_f hb h
   refine js ?_
   refine jr ?_
   refine jg [(1, vI a1), (6, vY a0), (11, vB (decide (a0 = (3 : Int))))] 2 [1, 6, 11] ?_
   refine thenQ_n ?_
   refine jc (decide (a0 = (3 : Int))) (fun hb => ?_) (fun hb => ?_)
   · have h := cond_t hb h
     refine js ?_
     refine jr ?_
     refine jg [(4, vI 0), (5, vI 1)] 2 [4, 5] ?_
     refine thenQ_n ?_
     refine jt ?_
     refine blockQ_r ?_
     refine thenQ_r ?_
     obtain rfl := si h
     exact jq [vI 0, vI 1]
   · have h := cond_f hb h
     refine js ?_
     refine jr ?_
     refine jg [(1, vI a1), (13, vB (decide (a0 = (4 : Int))))] 2 [1, 13] ?_
     refine thenQ_n ?_
     refine jc (decide (a0 = (4 : Int))) (fun hb => ?_) (fun hb => ?_)
     · have h := cond_t hb h
       refine js ?_
       refine jr ?_
       obtain ⟨c2, h⟩ := ck_bind h
       refine jG [(4, vI (a1 - (1 : Int))), (5, vI a1)] ((inR .i64 (a1 - (1 : Int))) ∧ (True)) 5 [4, 5] ⟨c2, trivial⟩ ?_
       refine thenQ_n ?_
       refine jt ?_
       refine blockQ_r ?_
       refine thenQ_r ?_
       obtain rfl := si h
       exact jq [vI (a1 - (1 : Int)), vI a1]
     · have h := cond_f hb h
       refine jk ?_
       refine blockQ_n ?_
       refine thenQ_n ?_
       refine js ?_
       refine jr ?_
       refine jg [(4, vI 0), (5, vI a1)] 3 [4, 5] ?_
       refine thenQ_n ?_
       refine jt ?_
       obtain rfl := si h
       exact jq [vI 0, vI a1]

/- field.Mul -/
def s80 (L : LP) (a0 : Int) (a1 : Int) (a2 : Int) : Option Int :=
  (s73 L a0).bind fun r1 =>
  (bif (decide (r1 = (0 : Int))) then
  some (0 : Int)
  else (ck (0 ≤ a1 ∧ 0 < r1)).bind fun _ =>
  (ck (0 ≤ a2 ∧ 0 < r1)).bind fun _ =>
  (ck (inR .u64 ((a1 % r1) * (a2 % r1)))).bind fun _ =>
  (ck (0 ≤ ((a1 % r1) * (a2 % r1)) ∧ 0 < r1)).bind fun _ =>
  some (((a1 % r1) * (a2 % r1)) % r1))
theorem p80 (L : LP) (a0 : Int) (a1 : Int) (a2 : Int) (r : Int) (h : s80 L a0 a1 a2 = some r) : Pure X 80 [vI a0, vU a1, vU a2] (vU r) := by
 refine Pure_of_W (c := cd Tryd.f80 []) Tryd.func80 (by kernel_rfl) (N := 21) (by kernel_rfl) (Nat.le_of_ble_eq_true (by kernel_rfl)) ?_
 unfold s80 at h
 refine js ?_
 refine jr ?_
 refine jg [(0, vI a0), (1, vU a1), (2, vU a2)] 1 [0, 1, 2] ?_
 refine thenQ_n ?_
 refine js ?_
 refine jr ?_
 refine jh [(1, vU a1), (2, vU a2), (8, vI a0)] 1 [1, 2, 8] ?_
 obtain ⟨r1, gr1, h⟩ := bind_some h
 refine jl 9 Tryd.call73 (p73 L _ _ gr1) ?_
 refine jg [(1, vU a1), (2, vU a2), (7, vU r1)] 1 [1, 2, 7] ?_
 refine thenQ_n ?_
 refine js ?_
 refine js ?_
 refine jr ?_
 refine jg [(1, vU a1), (2, vU a2), (7, vU r1), (11, vB (decide (r1 = (0 : Int))))] 2 [1, 2, 7, 11] ?_
 refine thenQ_n ?_
 refine jc (decide (r1 = (0 : Int))) (fun hb => ?_) (fun hb => ?_)
 · have h := cond_t hb h
   refine js ?_
   refine jr ?_
   refine jg [(6, vU 0)] 1 [6] ?_
   refine thenQ_n ?_
   refine jt ?_
   refine thenQ_r ?_
   obtain rfl := si h
   exact jq [vU 0]
 · have h := cond_f hb h
   refine jk ?_
   refine thenQ_n ?_
   refine js ?_
   refine jdr 8 mixed ?_
   obtain ⟨c2, h⟩ := ck_bind h
   obtain ⟨c3, h⟩ := ck_bind h
   obtain ⟨c4, h⟩ := ck_bind h
   refine jY 0 [(18, vU ((a1 % r1) * (a2 % r1))), (19, vU r1)] ((0 ≤ a1 ∧ 0 < r1) ∧ (0 ≤ a2 ∧ 0 < r1) ∧ (inR .u64 ((a1 % r1) * (a2 % r1))) ∧ (True)) 8 [18, 19] ⟨c2, c3, c4, trivial⟩ ?_
   refine WQ_done ?_
   obtain ⟨c5, h⟩ := ck_bind h
   refine jG [(6, vU (((a1 % r1) * (a2 % r1)) % r1))] ((0 ≤ ((a1 % r1) * (a2 % r1)) ∧ 0 < r1) ∧ (True)) 2 [6] ⟨c5, trivial⟩ ?_
   refine thenQ_n ?_
   refine jt ?_
   obtain rfl := si h
   exact jq [vU (((a1 % r1) * (a2 % r1)) % r1)]

/- field.Add -/
def s84 (L : LP) (a0 : Int) (a1 : Int) (a2 : Int) : Option Int :=
  (s73 L a0).bind fun r1 =>
  (bif (decide (r1 = (0 : Int))) then
  some (0 : Int)
  else (ck (0 ≤ a1 ∧ 0 < r1)).bind fun _ =>
  (ck (0 ≤ a2 ∧ 0 < r1)).bind fun _ =>
  (ck (inR .u64 ((a1 % r1) + (a2 % r1)))).bind fun _ =>
  ((bif (decide (((a1 % r1) + (a2 % r1)) ≥ r1)) then
  (ck (inR .u64 (((a1 % r1) + (a2 % r1)) - r1))).bind fun _ =>
  some (((a1 % r1) + (a2 % r1)) - r1)
  else some ((a1 % r1) + (a2 % r1)))).bind fun (y5 : Int) =>
  some y5)
theorem p84 (L : LP) (a0 : Int) (a1 : Int) (a2 : Int) (r : Int) (h : s84 L a0 a1 a2 = some r) : Pure X 84 [vI a0, vU a1, vU a2] (vU r) := by
 refine Pure_of_W (c := cd Tryd.f84 []) Tryd.func84 (by kernel_rfl) (N := 27) (by kernel_rfl) (Nat.le_of_ble_eq_true (by kernel_rfl)) ?_
 unfold s84 at h
 refine js ?_
 refine jr ?_
 refine jg [(0, vI a0), (1, vU a1), (2, vU a2)] 1 [0, 1, 2] ?_
 refine thenQ_n ?_
 refine js ?_
 refine jr ?_
 refine jh [(1, vU a1), (2, vU a2), (9, vI a0)] 1 [1, 2, 9] ?_
 obtain ⟨r1, gr1, h⟩ := bind_some h
 refine jl 10 Tryd.call73 (p73 L _ _ gr1) ?_
 refine jg [(1, vU a1), (2, vU a2), (7, vU r1)] 1 [1, 2, 7] ?_
 refine thenQ_n ?_
 refine js ?_
 refine js ?_
 refine jr ?_
 refine jg [(1, vU a1), (2, vU a2), (7, vU r1), (12, vB (decide (r1 = (0 : Int))))] 2 [1, 2, 7, 12] ?_
 refine thenQ_n ?_
 refine jc (decide (r1 = (0 : Int))) (fun hb => ?_) (fun hb => ?_)
 · have h := cond_t hb h
   refine js ?_
   refine jr ?_
   refine jg [(6, vU 0)] 1 [6] ?_
   refine thenQ_n ?_
   refine jt ?_
   refine thenQ_r ?_
   obtain rfl := si h
   exact jq [vU 0]
 · have h := cond_f hb h
   refine jk ?_
   refine thenQ_n ?_
   refine js ?_
   refine jdr 6 mixed ?_
   obtain ⟨c2, h⟩ := ck_bind h
   obtain ⟨c3, h⟩ := ck_bind h
   refine jY 0 [(7, vU r1), (15, vU (a1 % r1)), (18, vU (a2 % r1))] ((0 ≤ a1 ∧ 0 < r1) ∧ (0 ≤ a2 ∧ 0 < r1) ∧ (True)) 6 [7, 15, 18] ⟨c2, c3, trivial⟩ ?_
   refine WQ_done ?_
   obtain ⟨c4, h⟩ := ck_bind h
   refine jG [(7, vU r1), (8, vU ((a1 % r1) + (a2 % r1)))] ((inR .u64 ((a1 % r1) + (a2 % r1))) ∧ (True)) 2 [7, 8] ⟨c4, trivial⟩ ?_
   refine thenQ_n ?_
   obtain ⟨y5, gy5, ky5⟩ := bind_some h
   refine W_cut (by kernel_rfl) [] [(8, vU y5)] ?_ ?_
   · have h := ky5; clear gy5 ky5
     refine js ?_
     refine jr ?_
     refine jg [(6, vU y5)] 2 [6] ?_
     refine thenQ_n ?_
     refine jt ?_
     obtain rfl := si h
     exact jq [vU y5]
   · have h := gy5; clear gy5 ky5
     refine js ?_
     refine jr ?_
     refine jg [(7, vU r1), (8, vU ((a1 % r1) + (a2 % r1))), (22, vB (decide (((a1 % r1) + (a2 % r1)) ≥ r1)))] 3 [7, 8, 22] ?_
     refine thenQ_n ?_
     refine jc (decide (((a1 % r1) + (a2 % r1)) ≥ r1)) (fun hb => ?_) (fun hb => ?_)
     · have h := cond_t hb h
       refine jr ?_
       obtain ⟨c6, h⟩ := ck_bind h
       refine jG [(8, vU (((a1 % r1) + (a2 % r1)) - r1))] ((inR .u64 (((a1 % r1) + (a2 % r1)) - r1)) ∧ (True)) 4 [8] ⟨c6, trivial⟩ ?_
       obtain rfl := si h
       exact thenQ_n (jE [.keep [8], .take 0])
     · have h := cond_f hb h
       refine jk ?_
       obtain rfl := si h
       exact thenQ_n (jE [.keep [8], .take 0])

/- mono.list -/
def s124 (L : LP) (a0 : Int) (a1_0 : (List Int)) (a1_1 : (List Int)) (a1_2 : (List Int)) (a1_3 : (List Int)) (a1_4 : (List Int)) (a1_5 : (List Int)) (a1_6 : (List Int)) : Option (List Int) :=
  (bif (decide (a0 = (1 : Int))) then
  some a1_0
  else (bif (decide (a0 = (2 : Int))) then
  some a1_1
  else (bif (decide (a0 = (3 : Int))) then
  some a1_2
  else (bif (decide (a0 = (4 : Int))) then
  some a1_3
  else (bif (decide (a0 = (5 : Int))) then
  some a1_4
  else (bif (decide (a0 = (6 : Int))) then
  some a1_5
  else (bif (decide (a0 = (7 : Int))) then
  some a1_6
  else some [])))))))
theorem p124 (L : LP) (a0 : Int) (a1_0 : (List Int)) (a1_1 : (List Int)) (a1_2 : (List Int)) (a1_3 : (List Int)) (a1_4 : (List Int)) (a1_5 : (List Int)) (a1_6 : (List Int)) (r : (List Int)) (h : s124 L a0 a1_0 a1_1 a1_2 a1_3 a1_4 a1_5 a1_6 = some r) : Pure X 124 [vY a0, .agg [aS e44 a1_0, aS e44 a1_1, aS e44 a1_2, aS e44 a1_3, aS e44 a1_4, aS e44 a1_5, aS e44 a1_6]] (vS e44 r) := by
 refine Pure_of_W (c := cd Tryd.f124 []) Tryd.func124 (by kernel_rfl) (N := 34) (by kernel_rfl) (Nat.le_of_ble_eq_true (by kernel_rfl)) ?_
 unfold s124 at h
 refine js ?_
 refine jr ?_
 refine jf [bL 35 [aS e44 a1_0, aS e44 a1_1, aS e44 a1_2, aS e44 a1_3, aS e44 a1_4, aS e44 a1_5, aS e44 a1_6]] [(0, vY a0), (3, vO 0 0 7 0 0)] 2 [0, 3] ?_
 refine thenQ_n ?_
 refine js ?_
 refine js ?_
 refine jr ?_
 refine jg [(3, vO 0 0 7 0 0), (5, vY a0)] 1 [3, 5] ?_
 refine thenQ_n ?_
 refine jb 0 ?_
 refine js ?_
 refine jr ?_
 refine jg [(3, vO 0 0 7 0 0), (5, vY a0), (6, vB (decide (a0 = (1 : Int))))] 2 [3, 5, 6] ?_
 refine thenQ_n ?_
 refine jc (decide (a0 = (1 : Int))) (fun hb => ?_) (fun hb => ?_)
 · have h := cond_t hb h
   refine js ?_
   refine jr ?_
   refine jg [(4, vS e44 a1_0)] 3 [4] ?_
   refine thenQ_n ?_
   refine jt ?_
   refine blockQ_r ?_
   refine thenQ_r ?_
   obtain rfl := si h
   exact jq [vS e44 a1_0]
 · have h := cond_f hb h
   refine js ?_
   refine jr ?_
   refine jg [(3, vO 0 0 7 0 0), (5, vY a0), (10, vB (decide (a0 = (2 : Int))))] 2 [3, 5, 10] ?_
   refine thenQ_n ?_
   refine jc (decide (a0 = (2 : Int))) (fun hb => ?_) (fun hb => ?_)
   · have h := cond_t hb h
     refine js ?_
     refine jr ?_
     refine jg [(4, vS e44 a1_1)] 3 [4] ?_
     refine thenQ_n ?_
     refine jt ?_
     refine blockQ_r ?_
     refine thenQ_r ?_
     obtain rfl := si h
     exact jq [vS e44 a1_1]
   · have h := cond_f hb h
     refine js ?_
     refine jr ?_
     refine jg [(3, vO 0 0 7 0 0), (5, vY a0), (14, vB (decide (a0 = (3 : Int))))] 2 [3, 5, 14] ?_
     refine thenQ_n ?_
     refine jc (decide (a0 = (3 : Int))) (fun hb => ?_) (fun hb => ?_)
     · have h := cond_t hb h
       refine js ?_
       refine jr ?_
       refine jg [(4, vS e44 a1_2)] 3 [4] ?_
       refine thenQ_n ?_
       refine jt ?_
       refine blockQ_r ?_
       refine thenQ_r ?_
       obtain rfl := si h
       exact jq [vS e44 a1_2]
     · have h := cond_f hb h
       refine js ?_
       refine jr ?_
       refine jg [(3, vO 0 0 7 0 0), (5, vY a0), (18, vB (decide (a0 = (4 : Int))))] 2 [3, 5, 18] ?_
       refine thenQ_n ?_
       refine jc (decide (a0 = (4 : Int))) (fun hb => ?_) (fun hb => ?_)
       · have h := cond_t hb h
         refine js ?_
         refine jr ?_
         refine jg [(4, vS e44 a1_3)] 3 [4] ?_
         refine thenQ_n ?_
         refine jt ?_
         refine blockQ_r ?_
         refine thenQ_r ?_
         obtain rfl := si h
         exact jq [vS e44 a1_3]
       · have h := cond_f hb h
         refine js ?_
         refine jr ?_
         refine jg [(3, vO 0 0 7 0 0), (5, vY a0), (22, vB (decide (a0 = (5 : Int))))] 2 [3, 5, 22] ?_
         refine thenQ_n ?_
         refine jc (decide (a0 = (5 : Int))) (fun hb => ?_) (fun hb => ?_)
         · have h := cond_t hb h
           refine js ?_
           refine jr ?_
           refine jg [(4, vS e44 a1_4)] 3 [4] ?_
           refine thenQ_n ?_
           refine jt ?_
           refine blockQ_r ?_
           refine thenQ_r ?_
           obtain rfl := si h
           exact jq [vS e44 a1_4]
         · have h := cond_f hb h
           refine js ?_
           refine jr ?_
           refine jg [(3, vO 0 0 7 0 0), (5, vY a0), (26, vB (decide (a0 = (6 : Int))))] 2 [3, 5, 26] ?_
           refine thenQ_n ?_
           refine jc (decide (a0 = (6 : Int))) (fun hb => ?_) (fun hb => ?_)
           · have h := cond_t hb h
             refine js ?_
             refine jr ?_
             refine jg [(4, vS e44 a1_5)] 3 [4] ?_
             refine thenQ_n ?_
             refine jt ?_
             refine blockQ_r ?_
             refine thenQ_r ?_
             obtain rfl := si h
             exact jq [vS e44 a1_5]
           · have h := cond_f hb h
             refine js ?_
             refine jr ?_
             refine jg [(3, vO 0 0 7 0 0), (30, vB (decide (a0 = (7 : Int))))] 2 [3, 30] ?_
             refine thenQ_n ?_
             refine jc (decide (a0 = (7 : Int))) (fun hb => ?_) (fun hb => ?_)
             · have h := cond_t hb h
               refine js ?_
               refine jr ?_
               refine jg [(4, vS e44 a1_6)] 3 [4] ?_
               refine thenQ_n ?_
               refine jt ?_
               refine blockQ_r ?_
               refine thenQ_r ?_
               obtain rfl := si h
               exact jq [vS e44 a1_6]
             · have h := cond_f hb h
               refine jk ?_
               refine blockQ_n ?_
               refine thenQ_n ?_
               refine js ?_
               refine jr ?_
               refine jg [(4, .cell (.c (.nsl)))] 1 [4] ?_
               refine thenQ_n ?_
               refine jt ?_
               obtain rfl := si h
               exact jQ [.cell (.c (.nsl))] ([.sl 1 (fun i j => (e44.row (([] : List Int).getD i e44.d)).getD j .jk)])

/- mono.Value -/
def s94_1 (L : LP) (a0 : Int) (a1 : (List (Int × (List (Int × Int))))) (a2_0 : (List Int)) (a2_1 : (List Int)) (a2_2 : (List Int)) (a2_3 : (List Int)) (a2_4 : (List Int)) (a2_5 : (List Int)) (a2_6 : (List Int)) (y4 : (Int × Int)) (y12 : (Int × Int)) : Option ((Int × Int) ⊕ ((Int × Int) ⊕ Int)) :=
  (bif (decide (y12.2 < (((a1.getD y4.2.toNat e74.d).2).length : Int))) then
  (ck (0 ≤ y12.2 ∧ y12.2 < (((a1.getD y4.2.toNat e74.d).2).length : Int))).bind fun _ =>
  (s124 L ((((a1.getD y4.2.toNat e74.d).2).getD y12.2.toNat e61.d).1) a2_0 a2_1 a2_2 a2_3 a2_4 a2_5 a2_6).bind fun r15 =>
  (bif (decide (((((a1.getD y4.2.toNat e74.d).2).getD y12.2.toNat e61.d).2) < (0 : Int))) then some true
  else some (decide (((((a1.getD y4.2.toNat e74.d).2).getD y12.2.toNat e61.d).2) ≥ (r15.length : Int)))).bind fun y16 =>
  (bif y16 then
  some (.inr (.inl ((0 : Int), (2 : Int))))
  else (ck (0 ≤ ((((a1.getD y4.2.toNat e74.d).2).getD y12.2.toNat e61.d).2) ∧ ((((a1.getD y4.2.toNat e74.d).2).getD y12.2.toNat e61.d).2) < (r15.length : Int))).bind fun _ =>
  (s80 L a0 y12.1 (r15.getD ((((a1.getD y4.2.toNat e74.d).2).getD y12.2.toNat e61.d).2).toNat e44.d)).bind fun r18 =>
  (ck (inR .i64 (y12.2 + (1 : Int)))).bind fun _ =>
  some (.inl (r18, (y12.2 + (1 : Int)))))
  else some (.inr (.inr y12.1)))
def s94_0 (L : LP) (a0 : Int) (a1 : (List (Int × (List (Int × Int))))) (a2_0 : (List Int)) (a2_1 : (List Int)) (a2_2 : (List Int)) (a2_3 : (List Int)) (a2_4 : (List Int)) (a2_5 : (List Int)) (a2_6 : (List Int)) (y4 : (Int × Int)) : Option ((Int × Int) ⊕ ((Int × Int) ⊕ Int)) :=
  (bif (decide (y4.2 < (a1.length : Int))) then
  (ck (0 ≤ y4.2 ∧ y4.2 < (a1.length : Int))).bind fun _ =>
  (s84 L a0 ((a1.getD y4.2.toNat e74.d).1) (0 : Int)).bind fun r7 =>
  ((L.run (s94_1 L a0 a1 a2_0 a2_1 a2_2 a2_3 a2_4 a2_5 a2_6 y4) (r7, (0 : Int))).bind (fun (b : (Int × Int) ⊕ Int) => (match b with
  | .inl v => some (.inr v)
  | .inr v => some (.inl v)))).bind fun (y8 : Int ⊕ (Int × Int)) => (match y8 with
  | .inl v9 => (s84 L a0 y4.1 v9).bind fun r10 =>
  (ck (inR .i64 (y4.2 + (1 : Int)))).bind fun _ =>
  some (.inl (r10, (y4.2 + (1 : Int))))
  | .inr v9 => some (.inr (.inl v9)))
  else some (.inr (.inr y4.1)))
def s94 (L : LP) (a0 : Int) (a1 : (List (Int × (List (Int × Int))))) (a2_0 : (List Int)) (a2_1 : (List Int)) (a2_2 : (List Int)) (a2_3 : (List Int)) (a2_4 : (List Int)) (a2_5 : (List Int)) (a2_6 : (List Int)) : Option (Int × Int) :=
  (s60 L a0).bind fun r1 =>
  (bif (!r1) then
  some ((0 : Int), (1 : Int))
  else ((L.run (s94_0 L a0 a1 a2_0 a2_1 a2_2 a2_3 a2_4 a2_5 a2_6) ((0 : Int), (0 : Int))).bind (fun (b : (Int × Int) ⊕ Int) => (match b with
  | .inl v => some (.inr v)
  | .inr v => some (.inl v)))).bind fun (y2 : Int ⊕ (Int × Int)) => (match y2 with
  | .inl v3 => some (v3, (0 : Int))
  | .inr v3 => some v3))
theorem p94 (L : LP) (a0 : Int) (a1 : (List (Int × (List (Int × Int))))) (a2_0 : (List Int)) (a2_1 : (List Int)) (a2_2 : (List Int)) (a2_3 : (List Int)) (a2_4 : (List Int)) (a2_5 : (List Int)) (a2_6 : (List Int)) (r : (Int × Int)) (h : s94 L a0 a1 a2_0 a2_1 a2_2 a2_3 a2_4 a2_5 a2_6 = some r) : Pure X 94 [vI a0, vS e74 a1, .agg [aS e44 a2_0, aS e44 a2_1, aS e44 a2_2, aS e44 a2_3, aS e44 a2_4, aS e44 a2_5, aS e44 a2_6]] (tupV [vU r.1, vI r.2]) := by
 refine Pure_of_W (c := cd Tryd.f94 []) Tryd.func94 (by kernel_rfl) (N := 64) (by kernel_rfl) (Nat.le_of_ble_eq_true (by kernel_rfl)) ?_
 unfold s94 at h
 refine js ?_
 refine jr ?_
 refine jf [bL 35 [aS e44 a2_0, aS e44 a2_1, aS e44 a2_2, aS e44 a2_3, aS e44 a2_4, aS e44 a2_5, aS e44 a2_6]] [(0, vI a0), (1, vS e74 a1), (5, vO 0 0 7 0 0)] 3 [0, 1, 5] ?_
 refine thenQ_n ?_
 refine js ?_
 refine js ?_
 refine jr ?_
 refine jh [(0, vI a0), (1, vS e74 a1), (5, vO 0 0 7 0 0), (15, vI a0)] 1 [0, 1, 5, 15] ?_
 obtain ⟨r1, gr1, h⟩ := bind_some h
 refine jl 16 Tryd.call60 (p60 L _ _ gr1) ?_
 refine jg [(0, vI a0), (1, vS e74 a1), (5, vO 0 0 7 0 0), (17, vB (!r1))] 1 [0, 1, 5, 17] ?_
 refine thenQ_n ?_
 refine jc (!r1) (fun hb => ?_) (fun hb => ?_)
 · have h := cond_t hb h
   refine js ?_
   refine jr ?_
   refine jg [(6, vU 0), (7, vI 1)] 2 [6, 7] ?_
   refine thenQ_n ?_
   refine jt ?_
   refine thenQ_r ?_
   obtain rfl := si h
   exact jq [vU 0, vI 1]
 · have h := cond_f hb h
   refine jk ?_
   refine thenQ_n ?_
   refine js ?_
   refine jr ?_
   refine jg [(0, vI a0), (1, vS e74 a1), (5, vO 0 0 7 0 0), (8, vU 0)] 1 [0, 1, 5, 8] ?_
   refine thenQ_n ?_
   obtain ⟨y2, gy2, ky2⟩ := bind_some h
   refine W_cutE (by kernel_rfl) (fun v3 => y2 = .inl v3) (fun v3 => ([bL 35 [aS e44 a2_0, aS e44 a2_1, aS e44 a2_2, aS e44 a2_3, aS e44 a2_4, aS e44 a2_5, aS e44 a2_6]], [(8, vU v3)])) ?_ ?_
   · intro v3 hv; subst hv; have h := ky2; clear gy2 ky2; dsimp only at h
     refine js ?_
     refine jr ?_
     refine jg [(6, vU v3), (7, vI 0)] 3 [6, 7] ?_
     refine thenQ_n ?_
     refine jt ?_
     obtain rfl := si h
     exact jq [vU v3, vI 0]
   · have h := gy2; clear gy2
     refine js ?_
     refine jr ?_
     refine jg [(0, vI a0), (5, vO 0 0 7 0 0), (8, vU 0), (18, vS e74 a1), (19, vI (a1.length : Int)), (20, vI 0)] 3 [0, 5, 8, 18, 19, 20] ?_
     refine thenQ_n ?_
     refine jb 0 ?_
     obtain ⟨b5, gb5, kb5⟩ := bind_some h
     refine W_loop_at (S := fun (y4 : (Int × Int)) => ([bL 35 [aS e44 a2_0, aS e44 a2_1, aS e44 a2_2, aS e44 a2_3, aS e44 a2_4, aS e44 a2_5, aS e44 a2_6]], [(0, vI a0), (5, vO 0 0 7 0 0), (8, vU y4.1), (18, vS e74 a1), (19, vI (a1.length : Int)), (20, vI y4.2)])) (step := _) (x0 := ((0 : Int), (0 : Int))) (b := b5) (L.ok _ _ _ gb5) (by kernel_rfl) (jE [.keep [0, 5, 8, 18, 19, 20], .take 1]) ?_
     clear gb5 h; intro y4 o h; unfold s94_0 at h
     refine js ?_
     refine jr ?_
     refine jg [(0, vI a0), (5, vO 0 0 7 0 0), (8, vU y4.1), (18, vS e74 a1), (19, vI (a1.length : Int)), (20, vI y4.2), (21, vB (decide (y4.2 < (a1.length : Int))))] 1 [0, 5, 8, 18, 19, 20, 21] ?_
     refine thenQ_n ?_
     refine js ?_
     refine jc (decide (y4.2 < (a1.length : Int))) (fun hb => ?_) (fun hb => ?_)
     · have h := cond_t hb h
       refine jk ?_
       refine thenQ_n ?_
       refine js ?_
       refine jb 1 ?_
       refine js ?_
       refine jr ?_
       obtain ⟨c6, h⟩ := ck_bind h
       refine jF [bL 35 [aS e44 a2_0, aS e44 a2_1, aS e44 a2_2, aS e44 a2_3, aS e44 a2_4, aS e44 a2_5, aS e44 a2_6], bL 74 [aU ((a1.getD y4.2.toNat e74.d).1), aS e61 ((a1.getD y4.2.toNat e74.d).2)]] [(0, vI a0), (5, vO 0 0 7 0 0), (8, vU y4.1), (10, vO 1 0 2 0 0), (18, vS e74 a1), (19, vI (a1.length : Int)), (20, vI y4.2)] ((0 ≤ y4.2 ∧ y4.2 < (a1.length : Int)) ∧ (True)) 4 [0, 5, 8, 10, 18, 19, 20] ⟨c6, trivial⟩ ?_
       refine thenQ_n ?_
       refine js ?_
       refine jr ?_
       refine jh [(0, vI a0), (5, vO 0 0 7 0 0), (8, vU y4.1), (10, vO 1 0 2 0 0), (18, vS e74 a1), (19, vI (a1.length : Int)), (20, vI y4.2), (24, vI a0), (26, vU ((a1.getD y4.2.toNat e74.d).1))] 3 [0, 5, 8, 10, 18, 19, 20, 24, 26] ?_
       obtain ⟨r7, gr7, h⟩ := bind_some h
       refine jl 27 Tryd.call84 (p84 L _ _ _ _ gr7) ?_
       refine jg [(0, vI a0), (5, vO 0 0 7 0 0), (8, vU y4.1), (10, vO 1 0 2 0 0), (11, vU r7), (18, vS e74 a1), (19, vI (a1.length : Int)), (20, vI y4.2)] 1 [0, 5, 8, 10, 11, 18, 19, 20] ?_
       refine thenQ_n ?_
       obtain ⟨y8, gy8, ky8⟩ := bind_some h
       refine W_cutE (by kernel_rfl) (fun v9 => y8 = .inl v9) (fun v9 => ([bL 35 [aS e44 a2_0, aS e44 a2_1, aS e44 a2_2, aS e44 a2_3, aS e44 a2_4, aS e44 a2_5, aS e44 a2_6], bL 74 [aU ((a1.getD y4.2.toNat e74.d).1), aS e61 ((a1.getD y4.2.toNat e74.d).2)]], [(0, vI a0), (5, vO 0 0 7 0 0), (8, vU y4.1), (11, vU v9), (18, vS e74 a1), (19, vI (a1.length : Int)), (20, vI y4.2)])) ?_ ?_
       · intro v9 hv; subst hv; have h := ky8; clear gy8 ky8; dsimp only at h
         refine jr ?_
         refine jh [(0, vI a0), (5, vO 0 0 7 0 0), (18, vS e74 a1), (19, vI (a1.length : Int)), (20, vI y4.2), (58, vI a0), (59, vU y4.1), (60, vU v9)] 3 [0, 5, 18, 19, 20, 58, 59, 60] ?_
         obtain ⟨r10, gr10, h⟩ := bind_some h
         refine jl 61 Tryd.call84 (p84 L _ _ _ _ gr10) ?_
         refine jg [(0, vI a0), (5, vO 0 0 7 0 0), (8, vU r10), (18, vS e74 a1), (19, vI (a1.length : Int)), (20, vI y4.2)] 1 [0, 5, 8, 18, 19, 20] ?_
         refine blockQ_n ?_
         refine thenQ_n ?_
         refine jr ?_
         obtain ⟨c11, h⟩ := ck_bind h
         refine jG [(0, vI a0), (5, vO 0 0 7 0 0), (8, vU r10), (18, vS e74 a1), (19, vI (a1.length : Int)), (20, vI (y4.2 + (1 : Int)))] ((inR .i64 (y4.2 + (1 : Int))) ∧ (True)) 2 [0, 5, 8, 18, 19, 20] ⟨c11, trivial⟩ ?_
         obtain rfl := si h
         exact round_n _ rfl (jE [.keep [0, 5, 8, 18, 19, 20], .take 1])
       · have h := gy8; clear gy8
         refine js ?_
         refine jr ?_
         refine jg [(0, vI a0), (5, vO 0 0 7 0 0), (8, vU y4.1), (11, vU r7), (18, vS e74 a1), (19, vI (a1.length : Int)), (20, vI y4.2), (29, vS e61 ((a1.getD y4.2.toNat e74.d).2)), (30, vI (((a1.getD y4.2.toNat e74.d).2).length : Int)), (31, vI 0)] 4 [0, 5, 8, 11, 18, 19, 20, 29, 30, 31] ?_
         refine thenQ_n ?_
         refine jb 2 ?_
         obtain ⟨b13, gb13, kb13⟩ := bind_some h
         refine W_loop_at (S := fun (y12 : (Int × Int)) => ([bL 35 [aS e44 a2_0, aS e44 a2_1, aS e44 a2_2, aS e44 a2_3, aS e44 a2_4, aS e44 a2_5, aS e44 a2_6], bL 74 [aU ((a1.getD y4.2.toNat e74.d).1), aS e61 ((a1.getD y4.2.toNat e74.d).2)]], [(0, vI a0), (5, vO 0 0 7 0 0), (8, vU y4.1), (11, vU y12.1), (18, vS e74 a1), (19, vI (a1.length : Int)), (20, vI y4.2), (29, vS e61 ((a1.getD y4.2.toNat e74.d).2)), (30, vI (((a1.getD y4.2.toNat e74.d).2).length : Int)), (31, vI y12.2)])) (step := _) (x0 := (r7, (0 : Int))) (b := b13) (L.ok _ _ _ gb13) (by kernel_rfl) (jE [.keep [0, 5, 8, 11, 18, 19, 20, 29, 30, 31], .take 2]) ?_
         clear gb13 h; intro y12 o h; unfold s94_1 at h
         refine js ?_
         refine jr ?_
         refine jg [(0, vI a0), (5, vO 0 0 7 0 0), (8, vU y4.1), (11, vU y12.1), (18, vS e74 a1), (19, vI (a1.length : Int)), (20, vI y4.2), (29, vS e61 ((a1.getD y4.2.toNat e74.d).2)), (30, vI (((a1.getD y4.2.toNat e74.d).2).length : Int)), (31, vI y12.2), (32, vB (decide (y12.2 < (((a1.getD y4.2.toNat e74.d).2).length : Int))))] 1 [0, 5, 8, 11, 18, 19, 20, 29, 30, 31, 32] ?_
         refine thenQ_n ?_
         refine js ?_
         refine jc (decide (y12.2 < (((a1.getD y4.2.toNat e74.d).2).length : Int))) (fun hb => ?_) (fun hb => ?_)
         · have h := cond_t hb h
           refine jk ?_
           refine thenQ_n ?_
           refine js ?_
           refine jb 3 ?_
           refine js ?_
           refine jr ?_
           obtain ⟨c14, h⟩ := ck_bind h
           refine jF [bL 35 [aS e44 a2_0, aS e44 a2_1, aS e44 a2_2, aS e44 a2_3, aS e44 a2_4, aS e44 a2_5, aS e44 a2_6], bL 74 [aU ((a1.getD y4.2.toNat e74.d).1), aS e61 ((a1.getD y4.2.toNat e74.d).2)], bL 61 [aY ((((a1.getD y4.2.toNat e74.d).2).getD y12.2.toNat e61.d).1), aI ((((a1.getD y4.2.toNat e74.d).2).getD y12.2.toNat e61.d).2)]] [(0, vI a0), (5, vO 0 0 7 0 0), (8, vU y4.1), (11, vU y12.1), (13, vO 2 0 2 0 0), (18, vS e74 a1), (19, vI (a1.length : Int)), (20, vI y4.2), (29, vS e61 ((a1.getD y4.2.toNat e74.d).2)), (30, vI (((a1.getD y4.2.toNat e74.d).2).length : Int)), (31, vI y12.2)] ((0 ≤ y12.2 ∧ y12.2 < (((a1.getD y4.2.toNat e74.d).2).length : Int)) ∧ (True)) 4 [0, 5, 8, 11, 13, 18, 19, 20, 29, 30, 31] ⟨c14, trivial⟩ ?_
           refine thenQ_n ?_
           refine js ?_
           refine jr ?_
           refine jh [(0, vI a0), (5, vO 0 0 7 0 0), (8, vU y4.1), (11, vU y12.1), (13, vO 2 0 2 0 0), (18, vS e74 a1), (19, vI (a1.length : Int)), (20, vI y4.2), (29, vS e61 ((a1.getD y4.2.toNat e74.d).2)), (30, vI (((a1.getD y4.2.toNat e74.d).2).length : Int)), (31, vI y12.2), (36, vY ((((a1.getD y4.2.toNat e74.d).2).getD y12.2.toNat e61.d).1)), (37, .agg [aS e44 a2_0, aS e44 a2_1, aS e44 a2_2, aS e44 a2_3, aS e44 a2_4, aS e44 a2_5, aS e44 a2_6])] 3 [0, 5, 8, 11, 13, 18, 19, 20, 29, 30, 31, 36, 37] ?_
           obtain ⟨r15, gr15, h⟩ := bind_some h
           refine jl 38 Tryd.call124 (p124 L _ _ _ _ _ _ _ _ _ gr15) ?_
           refine jg [(0, vI a0), (5, vO 0 0 7 0 0), (8, vU y4.1), (11, vU y12.1), (13, vO 2 0 2 0 0), (14, vS e44 r15), (18, vS e74 a1), (19, vI (a1.length : Int)), (20, vI y4.2), (29, vS e61 ((a1.getD y4.2.toNat e74.d).2)), (30, vI (((a1.getD y4.2.toNat e74.d).2).length : Int)), (31, vI y12.2)] 1 [0, 5, 8, 11, 13, 14, 18, 19, 20, 29, 30, 31] ?_
           refine thenQ_n ?_
           refine js ?_
           refine js ?_
           refine jr ?_
           refine jh [(0, vI a0), (5, vO 0 0 7 0 0), (8, vU y4.1), (11, vU y12.1), (13, vO 2 0 2 0 0), (14, vS e44 r15), (18, vS e74 a1), (19, vI (a1.length : Int)), (20, vI y4.2), (29, vS e61 ((a1.getD y4.2.toNat e74.d).2)), (30, vI (((a1.getD y4.2.toNat e74.d).2).length : Int)), (31, vI y12.2), (42, vB (decide (((((a1.getD y4.2.toNat e74.d).2).getD y12.2.toNat e61.d).2) < (0 : Int))))] 4 [0, 5, 8, 11, 13, 14, 18, 19, 20, 29, 30, 31, 42] ?_
           obtain ⟨y16, gy16, h⟩ := bind_some h
           refine jj 10 [(0, vI a0), (5, vO 0 0 7 0 0), (8, vU y4.1), (11, vU y12.1), (13, vO 2 0 2 0 0), (14, vS e44 r15), (18, vS e74 a1), (19, vI (a1.length : Int)), (20, vI y4.2), (29, vS e61 ((a1.getD y4.2.toNat e74.d).2)), (30, vI (((a1.getD y4.2.toNat e74.d).2).length : Int)), (31, vI y12.2), (48, vB y16)] ?_ ?_
           · clear gy16
             refine jg [(0, vI a0), (5, vO 0 0 7 0 0), (8, vU y4.1), (11, vU y12.1), (13, vO 2 0 2 0 0), (14, vS e44 r15), (18, vS e74 a1), (19, vI (a1.length : Int)), (20, vI y4.2), (29, vS e61 ((a1.getD y4.2.toNat e74.d).2)), (30, vI (((a1.getD y4.2.toNat e74.d).2).length : Int)), (31, vI y12.2), (48, vB y16)] 0 [0, 5, 8, 11, 13, 14, 18, 19, 20, 29, 30, 31, 48] ?_
             refine thenQ_n ?_
             refine jc y16 (fun hb => ?_) (fun hb => ?_)
             · have h := cond_t hb h
               refine js ?_
               refine jr ?_
               refine jg [(6, vU 0), (7, vI 2)] 2 [6, 7] ?_
               refine thenQ_n ?_
               refine jt ?_
               refine thenQ_r ?_
               refine blockQ_r ?_
               refine thenQ_r ?_
               obtain rfl := si h; refine round_r rfl (fun hb => ?_); subst hb; have h := kb13; dsimp only at h
               refine blockQ_r ?_
               obtain rfl := si h; have h := ky8; dsimp only at h; refine thenQ_r ?_
               refine blockQ_r ?_
               refine thenQ_r ?_
               obtain rfl := si h; refine round_r rfl (fun hb => ?_); subst hb; have h := kb5; dsimp only at h
               refine blockQ_r ?_
               obtain rfl := si h; have h := ky2; dsimp only at h; refine thenQ_r ?_
               obtain rfl := si h
               exact jq [vU 0, vI 2]
             · have h := cond_f hb h
               refine jk ?_
               refine thenQ_n ?_
               refine jr ?_
               obtain ⟨c17, h⟩ := ck_bind h
               refine jH [(0, vI a0), (5, vO 0 0 7 0 0), (8, vU y4.1), (18, vS e74 a1), (19, vI (a1.length : Int)), (20, vI y4.2), (29, vS e61 ((a1.getD y4.2.toNat e74.d).2)), (30, vI (((a1.getD y4.2.toNat e74.d).2).length : Int)), (31, vI y12.2), (49, vI a0), (50, vU y12.1), (55, vU (r15.getD ((((a1.getD y4.2.toNat e74.d).2).getD y12.2.toNat e61.d).2).toNat e44.d))] ((0 ≤ ((((a1.getD y4.2.toNat e74.d).2).getD y12.2.toNat e61.d).2) ∧ ((((a1.getD y4.2.toNat e74.d).2).getD y12.2.toNat e61.d).2) < (r15.length : Int)) ∧ (True)) 7 [0, 5, 8, 18, 19, 20, 29, 30, 31, 49, 50, 55] ⟨c17, trivial⟩ ?_
               obtain ⟨r18, gr18, h⟩ := bind_some h
               refine jl 56 Tryd.call80 (p80 L _ _ _ _ gr18) ?_
               refine jg [(0, vI a0), (5, vO 0 0 7 0 0), (8, vU y4.1), (11, vU r18), (18, vS e74 a1), (19, vI (a1.length : Int)), (20, vI y4.2), (29, vS e61 ((a1.getD y4.2.toNat e74.d).2)), (30, vI (((a1.getD y4.2.toNat e74.d).2).length : Int)), (31, vI y12.2)] 1 [0, 5, 8, 11, 18, 19, 20, 29, 30, 31] ?_
               refine blockQ_n ?_
               refine thenQ_n ?_
               refine jr ?_
               obtain ⟨c19, h⟩ := ck_bind h
               refine jG [(0, vI a0), (5, vO 0 0 7 0 0), (8, vU y4.1), (11, vU r18), (18, vS e74 a1), (19, vI (a1.length : Int)), (20, vI y4.2), (29, vS e61 ((a1.getD y4.2.toNat e74.d).2)), (30, vI (((a1.getD y4.2.toNat e74.d).2).length : Int)), (31, vI (y12.2 + (1 : Int)))] ((inR .i64 (y12.2 + (1 : Int))) ∧ (True)) 2 [0, 5, 8, 11, 18, 19, 20, 29, 30, 31] ⟨c19, trivial⟩ ?_
               obtain rfl := si h
               exact round_n _ rfl (jE [.keep [0, 5, 8, 11, 18, 19, 20, 29, 30, 31], .take 2])
           · intro J
             clear h
             rcases Bool.eq_false_or_eq_true (decide (((((a1.getD y4.2.toNat e74.d).2).getD y12.2.toNat e61.d).2) < (0 : Int))) with hb | hb
             · have h := cond_t hb gy16; clear gy16
               refine jd 42 hb ?_
               obtain rfl := si h
               refine jh [(0, vI a0), (5, vO 0 0 7 0 0), (8, vU y4.1), (11, vU y12.1), (13, vO 2 0 2 0 0), (14, vS e44 r15), (18, vS e74 a1), (19, vI (a1.length : Int)), (20, vI y4.2), (29, vS e61 ((a1.getD y4.2.toNat e74.d).2)), (30, vI (((a1.getD y4.2.toNat e74.d).2).length : Int)), (31, vI y12.2), (48, vB true)] 6 [0, 5, 8, 11, 13, 14, 18, 19, 20, 29, 30, 31, 48] J
             · have h := cond_f hb gy16; clear gy16
               refine jd 42 hb ?_
               refine jh [(0, vI a0), (5, vO 0 0 7 0 0), (8, vU y4.1), (11, vU y12.1), (13, vO 2 0 2 0 0), (14, vS e44 r15), (18, vS e74 a1), (19, vI (a1.length : Int)), (20, vI y4.2), (29, vS e61 ((a1.getD y4.2.toNat e74.d).2)), (30, vI (((a1.getD y4.2.toNat e74.d).2).length : Int)), (31, vI y12.2), (42, vB false), (43, vO 2 0 2 0 1), (44, vI ((((a1.getD y4.2.toNat e74.d).2).getD y12.2.toNat e61.d).2)), (45, vS e44 r15), (46, vI (r15.length : Int)), (47, vB (decide (((((a1.getD y4.2.toNat e74.d).2).getD y12.2.toNat e61.d).2) ≥ (r15.length : Int))))] 5 [0, 5, 8, 11, 13, 14, 18, 19, 20, 29, 30, 31, 42, 43, 44, 45, 46, 47] ?_
               obtain rfl := si h
               refine jh [(0, vI a0), (5, vO 0 0 7 0 0), (8, vU y4.1), (11, vU y12.1), (13, vO 2 0 2 0 0), (14, vS e44 r15), (18, vS e74 a1), (19, vI (a1.length : Int)), (20, vI y4.2), (29, vS e61 ((a1.getD y4.2.toNat e74.d).2)), (30, vI (((a1.getD y4.2.toNat e74.d).2).length : Int)), (31, vI y12.2), (48, vB (decide (((((a1.getD y4.2.toNat e74.d).2).getD y12.2.toNat e61.d).2) ≥ (r15.length : Int))))] 1 [0, 5, 8, 11, 13, 14, 18, 19, 20, 29, 30, 31, 48] J
         · have h := cond_f hb h
           refine je 2 ?_
           refine thenQ_e ?_
           obtain rfl := si h; refine round_e rfl (fun hb => ?_); subst hb; have h := kb13; dsimp only at h
           refine blockQ_hit ?_
           obtain rfl := si h
           exact thenQ_n ⟨_, rfl, jE [.keep [0, 5, 8, 11, 18, 19, 20], .take 2]⟩
     · have h := cond_f hb h
       refine je 0 ?_
       refine thenQ_e ?_
       obtain rfl := si h; refine round_e rfl (fun hb => ?_); subst hb; have h := kb5; dsimp only at h
       refine blockQ_hit ?_
       obtain rfl := si h
       exact thenQ_n ⟨_, rfl, jE [.keep [8], .take 1]⟩

/- not told: system.key -/
def s125 (L : LP) (a0_0 : Int) (a0_1 : Int) (a0_2 : Int) (a0_3 : Int) (a0_4 : (List (List Int))) (a0_5 : (List (Int × (List (Int × (List (Int × Int))))))) (a0_6 : (List ((List (List (Int × Int))) × (List (List (Int × Int)))))) (a0_7 : (List ((List (Int × Int)) × (List (Int × Int)) × Int × Int))) (a1_0 : (List Int)) (a1_1 : (List (List Int))) (a2 : Int) (a3 : (List (Int × Int))) : Option ByteArray := none
theorem p125 (L : LP) (a0_0 : Int) (a0_1 : Int) (a0_2 : Int) (a0_3 : Int) (a0_4 : (List (List Int))) (a0_5 : (List (Int × (List (Int × (List (Int × Int))))))) (a0_6 : (List ((List (List (Int × Int))) × (List (List (Int × Int)))))) (a0_7 : (List ((List (Int × Int)) × (List (Int × Int)) × Int × Int))) (a1_0 : (List Int)) (a1_1 : (List (List Int))) (a2 : Int) (a3 : (List (Int × Int))) (r : ByteArray) (h : s125 L a0_0 a0_1 a0_2 a0_3 a0_4 a0_5 a0_6 a0_7 a1_0 a1_1 a2 a3 = some r) : Pure X 125 [.agg [aI a0_0, aI a0_1, aI a0_2, aI a0_3, aS e28 a0_4, aS e72 a0_5, aS e65 a0_6, aS e77 a0_7], .agg [aS e44 a1_0, aS e28 a1_1], vI a2, vS e61 a3] (.cell (.c (.str r))) := by cases h

/- not told: system.balanced -/
def s95 (L : LP) (a0_0 : Int) (a0_1 : Int) (a0_2 : Int) (a0_3 : Int) (a0_4 : (List (List Int))) (a0_5 : (List (Int × (List (Int × (List (Int × Int))))))) (a0_6 : (List ((List (List (Int × Int))) × (List (List (Int × Int)))))) (a0_7 : (List ((List (Int × Int)) × (List (Int × Int)) × Int × Int))) (a1_0 : (List Int)) (a1_1 : (List (List Int))) (a2_0 : (List (List (Int × Int)))) (a2_1 : (List (List (Int × Int)))) : Option Bool := none
theorem p95 (L : LP) (a0_0 : Int) (a0_1 : Int) (a0_2 : Int) (a0_3 : Int) (a0_4 : (List (List Int))) (a0_5 : (List (Int × (List (Int × (List (Int × Int))))))) (a0_6 : (List ((List (List (Int × Int))) × (List (List (Int × Int)))))) (a0_7 : (List ((List (Int × Int)) × (List (Int × Int)) × Int × Int))) (a1_0 : (List Int)) (a1_1 : (List (List Int))) (a2_0 : (List (List (Int × Int)))) (a2_1 : (List (List (Int × Int)))) (r : Bool) (h : s95 L a0_0 a0_1 a0_2 a0_3 a0_4 a0_5 a0_6 a0_7 a1_0 a1_1 a2_0 a2_1 = some r) : Pure X 95 [.agg [aI a0_0, aI a0_1, aI a0_2, aI a0_3, aS e28 a0_4, aS e72 a0_5, aS e65 a0_6, aS e77 a0_7], .agg [aS e44 a1_0, aS e28 a1_1], .agg [aS e62 a2_0, aS e62 a2_1]] (vB r) := by cases h

/- field.Neg -/
def s137 (L : LP) (a0 : Int) (a1 : Int) : Option Int :=
  (s73 L a0).bind fun r1 =>
  (bif (decide (r1 = (0 : Int))) then some true
  else (ck (0 ≤ a1 ∧ 0 < r1)).bind fun _ =>
  some (decide ((a1 % r1) = (0 : Int)))).bind fun y2 =>
  (bif y2 then
  some (0 : Int)
  else (ck (0 ≤ a1 ∧ 0 < r1)).bind fun _ =>
  (ck (inR .u64 (r1 - (a1 % r1)))).bind fun _ =>
  some (r1 - (a1 % r1)))
theorem p137 (L : LP) (a0 : Int) (a1 : Int) (r : Int) (h : s137 L a0 a1 = some r) : Pure X 137 [vI a0, vU a1] (vU r) := by
 refine Pure_of_W (c := cd Tryd.f137 []) Tryd.func137 (by kernel_rfl) (N := 21) (by kernel_rfl) (Nat.le_of_ble_eq_true (by kernel_rfl)) ?_
 unfold s137 at h
 refine js ?_
 refine jr ?_
 refine jg [(0, vI a0), (1, vU a1)] 1 [0, 1] ?_
 refine thenQ_n ?_
 refine js ?_
 refine jr ?_
 refine jh [(1, vU a1), (6, vI a0)] 1 [1, 6] ?_
 obtain ⟨r1, gr1, h⟩ := bind_some h
 refine jl 7 Tryd.call73 (p73 L _ _ gr1) ?_
 refine jg [(1, vU a1), (5, vU r1)] 1 [1, 5] ?_
 refine thenQ_n ?_
 refine js ?_
 refine js ?_
 refine jr ?_
 refine jh [(1, vU a1), (5, vU r1), (10, vB (decide (r1 = (0 : Int))))] 3 [1, 5, 10] ?_
 obtain ⟨y2, gy2, h⟩ := bind_some h
 refine jj 8 [(1, vU a1), (5, vU r1), (15, vB y2)] ?_ ?_
 · clear gy2
   refine jg [(1, vU a1), (5, vU r1), (15, vB y2)] 0 [1, 5, 15] ?_
   refine thenQ_n ?_
   refine jc y2 (fun hb => ?_) (fun hb => ?_)
   · have h := cond_t hb h
     refine js ?_
     refine jr ?_
     refine jg [(4, vU 0)] 1 [4] ?_
     refine thenQ_n ?_
     refine jt ?_
     refine thenQ_r ?_
     obtain rfl := si h
     exact jq [vU 0]
   · have h := cond_f hb h
     refine jk ?_
     refine thenQ_n ?_
     refine js ?_
     refine jr ?_
     obtain ⟨c3, h⟩ := ck_bind h
     obtain ⟨c4, h⟩ := ck_bind h
     refine jG [(4, vU (r1 - (a1 % r1)))] ((0 ≤ a1 ∧ 0 < r1) ∧ (inR .u64 (r1 - (a1 % r1))) ∧ (True)) 6 [4] ⟨c3, c4, trivial⟩ ?_
     refine thenQ_n ?_
     refine jt ?_
     obtain rfl := si h
     exact jq [vU (r1 - (a1 % r1))]
 · intro J
   clear h
   rcases Bool.eq_false_or_eq_true (decide (r1 = (0 : Int))) with hb | hb
   · have h := cond_t hb gy2; clear gy2
     refine jd 10 hb ?_
     obtain rfl := si h
     refine jh [(1, vU a1), (5, vU r1), (15, vB true)] 5 [1, 5, 15] J
   · have h := cond_f hb gy2; clear gy2
     refine jd 10 hb ?_
     obtain ⟨c5, h⟩ := ck_bind h
     refine jH [(1, vU a1), (5, vU r1), (10, vB false), (14, vB (decide ((a1 % r1) = (0 : Int))))] ((0 ≤ a1 ∧ 0 < r1) ∧ (True)) 4 [1, 5, 10, 14] ⟨c5, trivial⟩ ?_
     obtain rfl := si h
     refine jh [(1, vU a1), (5, vU r1), (15, vB (decide ((a1 % r1) = (0 : Int))))] 1 [1, 5, 15] J

/- field.Sub -/
def s126 (L : LP) (a0 : Int) (a1 : Int) (a2 : Int) : Option Int :=
  (s137 L a0 a2).bind fun r1 =>
  (s84 L a0 a1 r1).bind fun r2 =>
  some r2
theorem p126 (L : LP) (a0 : Int) (a1 : Int) (a2 : Int) (r : Int) (h : s126 L a0 a1 a2 = some r) : Pure X 126 [vI a0, vU a1, vU a2] (vU r) := by
 refine Pure_of_W (c := cd Tryd.f126 []) Tryd.func126 (by kernel_rfl) (N := 13) (by kernel_rfl) (Nat.le_of_ble_eq_true (by kernel_rfl)) ?_
 unfold s126 at h
 refine js ?_
 refine jr ?_
 refine jg [(0, vI a0), (1, vU a1), (2, vU a2)] 1 [0, 1, 2] ?_
 refine thenQ_n ?_
 refine js ?_
 refine jr ?_
 refine jh [(7, vI a0), (8, vU a1), (9, vI a0), (10, vU a2)] 4 [7, 8, 9, 10] ?_
 obtain ⟨r1, gr1, h⟩ := bind_some h
 refine jl 11 Tryd.call137 (p137 L _ _ _ gr1) ?_
 obtain ⟨r2, gr2, h⟩ := bind_some h
 refine jl 12 Tryd.call84 (p84 L _ _ _ _ gr2) ?_
 refine jg [(6, vU r2)] 1 [6] ?_
 refine thenQ_n ?_
 refine jt ?_
 obtain rfl := si h
 exact jq [vU r2]

/- not told: system.counted -/
def s96 (L : LP) (a0_0 : Int) (a0_1 : Int) (a0_2 : Int) (a0_3 : Int) (a0_4 : (List (List Int))) (a0_5 : (List (Int × (List (Int × (List (Int × Int))))))) (a0_6 : (List ((List (List (Int × Int))) × (List (List (Int × Int)))))) (a0_7 : (List ((List (Int × Int)) × (List (Int × Int)) × Int × Int))) (a1_0 : (List Int)) (a1_1 : (List (List Int))) (a2_0 : (List (Int × Int))) (a2_1 : (List (Int × Int))) (a2_2 : Int) (a2_3 : Int) : Option Bool := none
theorem p96 (L : LP) (a0_0 : Int) (a0_1 : Int) (a0_2 : Int) (a0_3 : Int) (a0_4 : (List (List Int))) (a0_5 : (List (Int × (List (Int × (List (Int × Int))))))) (a0_6 : (List ((List (List (Int × Int))) × (List (List (Int × Int)))))) (a0_7 : (List ((List (Int × Int)) × (List (Int × Int)) × Int × Int))) (a1_0 : (List Int)) (a1_1 : (List (List Int))) (a2_0 : (List (Int × Int))) (a2_1 : (List (Int × Int))) (a2_2 : Int) (a2_3 : Int) (r : Bool) (h : s96 L a0_0 a0_1 a0_2 a0_3 a0_4 a0_5 a0_6 a0_7 a1_0 a1_1 a2_0 a2_1 a2_2 a2_3 = some r) : Pure X 96 [.agg [aI a0_0, aI a0_1, aI a0_2, aI a0_3, aS e28 a0_4, aS e72 a0_5, aS e65 a0_6, aS e77 a0_7], .agg [aS e44 a1_0, aS e28 a1_1], .agg [aS e61 a2_0, aS e61 a2_1, aY a2_2, aI a2_3]] (vB r) := by cases h

end Go.Proofs.YtkbpafipbhaknaaDoor
