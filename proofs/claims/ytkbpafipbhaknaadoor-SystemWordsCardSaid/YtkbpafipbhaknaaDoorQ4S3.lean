/- What functions compute. -/
import Derived.Test.YtkbpafipbhaknaaDoorQ4S2
namespace Go.Proofs.YtkbpafipbhaknaaDoor
open Go Go.Av
set_option maxRecDepth 100000
set_option linter.unusedVariables false
/- attestorref12.Same -/
def s57_0 (L : LP) (a0 : (List (Int × (List (Int × Int))))) (a1 : (List (Int × (List (Int × Int))))) (y3 : Int) : Option (Int ⊕ (Bool ⊕ Unit)) :=
  (bif (decide (y3 < (a0.length : Int))) then
  (ck (0 ≤ y3 ∧ y3 < (a0.length : Int))).bind fun _ =>
  (ck (0 ≤ y3 ∧ y3 < (a1.length : Int))).bind fun _ =>
  (bif (!(decide (((a0.getD y3.toNat e74.d).1) = ((a1.getD y3.toNat e74.d).1)))) then some true
  else (ck (0 ≤ y3 ∧ y3 < (a0.length : Int))).bind fun _ =>
  (ck (0 ≤ y3 ∧ y3 < (a1.length : Int))).bind fun _ =>
  (s104 L ((a0.getD y3.toNat e74.d).2) ((a1.getD y3.toNat e74.d).2)).bind fun r11 =>
  some (!r11)).bind fun y7 =>
  (bif y7 then
  some (.inr (.inl false))
  else (ck (inR .i64 (y3 + (1 : Int)))).bind fun _ =>
  some (.inl (y3 + (1 : Int))))
  else some (.inr (.inr ())))
def s57 (L : LP) (a0 : (List (Int × (List (Int × Int))))) (a1 : (List (Int × (List (Int × Int))))) : Option Bool :=
  (bif (!(decide ((a0.length : Int) = (a1.length : Int)))) then
  some false
  else ((L.run (s57_0 L a0 a1) (0 : Int)).bind (fun (b : Bool ⊕ Unit) => (match b with
  | .inl v => some (.inr v)
  | .inr v => some (.inl ())))).bind fun (y1 : Unit ⊕ Bool) => (match y1 with
  | .inl v2 => some true
  | .inr v2 => some v2))
theorem p57 (L : LP) (a0 : (List (Int × (List (Int × Int))))) (a1 : (List (Int × (List (Int × Int))))) (r : Bool) (h : s57 L a0 a1 = some r) : Pure X 57 [vS e74 a0, vS e74 a1] (vB r) := by
 refine Pure_of_W (c := cd Tryd.f57 []) Tryd.func57 (by kernel_rfl) (N := 42) (by kernel_rfl) (Nat.le_of_ble_eq_true (by kernel_rfl)) ?_
 unfold s57 at h
 refine js ?_
 refine jr ?_
 refine jg [(0, vS e74 a0), (1, vS e74 a1)] 1 [0, 1] ?_
 refine thenQ_n ?_
 refine js ?_
 refine js ?_
 refine jr ?_
 refine jg [(0, vS e74 a0), (1, vS e74 a1), (10, vB (!(decide ((a0.length : Int) = (a1.length : Int)))))] 5 [0, 1, 10] ?_
 refine thenQ_n ?_
 refine jc (!(decide ((a0.length : Int) = (a1.length : Int)))) (fun hb => ?_) (fun hb => ?_)
 · have h := cond_t hb h
   refine js ?_
   refine jr ?_
   refine jg [(4, vB false)] 1 [4] ?_
   refine thenQ_n ?_
   refine jt ?_
   refine thenQ_r ?_
   obtain rfl := si h
   exact jq [vB false]
 · have h := cond_f hb h
   refine jk ?_
   refine thenQ_n ?_
   obtain ⟨y1, gy1, ky1⟩ := bind_some h
   refine W_cutE (by kernel_rfl) (fun v2 => y1 = .inl v2) (fun v2 => ([], [])) ?_ ?_
   · intro v2 hv; subst hv; have h := ky1; clear gy1 ky1; dsimp only at h
     refine js ?_
     refine jr ?_
     refine jg [(4, vB true)] 1 [4] ?_
     refine thenQ_n ?_
     refine jt ?_
     obtain rfl := si h
     exact jq [vB true]
   · have h := gy1; clear gy1
     refine js ?_
     refine jr ?_
     refine jg [(0, vS e74 a0), (1, vS e74 a1), (5, vI 0)] 1 [0, 1, 5] ?_
     refine thenQ_n ?_
     refine jb 0 ?_
     obtain ⟨b4, gb4, kb4⟩ := bind_some h
     refine W_loop_at (S := fun (y3 : Int) => ([], [(0, vS e74 a0), (1, vS e74 a1), (5, vI y3)])) (step := _) (x0 := (0 : Int)) (b := b4) (L.ok _ _ _ gb4) (by kernel_rfl) (jE [.keep [0, 1, 5], .take 0]) ?_
     clear gb4 h; intro y3 o h; unfold s57_0 at h
     refine js ?_
     refine js ?_
     refine jr ?_
     refine jg [(0, vS e74 a0), (1, vS e74 a1), (5, vI y3), (14, vB (decide (y3 < (a0.length : Int))))] 4 [0, 1, 5, 14] ?_
     refine thenQ_n ?_
     refine jc (decide (y3 < (a0.length : Int))) (fun hb => ?_) (fun hb => ?_)
     · have h := cond_t hb h
       refine jk ?_
       refine thenQ_n ?_
       refine js ?_
       refine jb 1 ?_
       refine js ?_
       refine jdr 25 mixed ?_
       obtain ⟨c5, h⟩ := ck_bind h
       obtain ⟨c6, h⟩ := ck_bind h
       refine jY 13 [(0, vS e74 a0), (1, vS e74 a1), (5, vI y3), (28, vB (!(decide (((a0.getD y3.toNat e74.d).1) = ((a1.getD y3.toNat e74.d).1)))))] ((0 ≤ y3 ∧ y3 < (a0.length : Int)) ∧ (0 ≤ y3 ∧ y3 < (a1.length : Int)) ∧ (True)) 12 [0, 1, 5, 28] ⟨c5, c6, trivial⟩ ?_
       obtain ⟨y7, gy7, h⟩ := bind_some h
       refine WQ_join 0 25 [(0, vS e74 a0), (1, vS e74 a1), (5, vI y3), (41, vB y7)] ?_ ?_
       · clear gy7
         refine WQ_done ?_
         refine jg [(0, vS e74 a0), (1, vS e74 a1), (5, vI y3), (41, vB y7)] 0 [0, 1, 5, 41] ?_
         refine thenQ_n ?_
         refine jc y7 (fun hb => ?_) (fun hb => ?_)
         · have h := cond_t hb h
           refine js ?_
           refine jr ?_
           refine jg [(4, vB false)] 1 [4] ?_
           refine thenQ_n ?_
           refine jt ?_
           refine blockQ_r ?_
           refine thenQ_r ?_
           obtain rfl := si h; refine round_r rfl (fun hb => ?_); subst hb; have h := kb4; dsimp only at h
           refine blockQ_r ?_
           obtain rfl := si h; have h := ky1; dsimp only at h; refine thenQ_r ?_
           obtain rfl := si h
           exact jq [vB false]
         · have h := cond_f hb h
           refine jk ?_
           refine blockQ_n ?_
           refine thenQ_n ?_
           refine jr ?_
           obtain ⟨c8, h⟩ := ck_bind h
           refine jG [(0, vS e74 a0), (1, vS e74 a1), (5, vI (y3 + (1 : Int)))] ((inR .i64 (y3 + (1 : Int))) ∧ (True)) 3 [0, 1, 5] ⟨c8, trivial⟩ ?_
           obtain rfl := si h
           exact round_n _ rfl (jE [.keep [0, 1, 5], .take 0])
       · intro J
         clear h
         rcases Bool.eq_false_or_eq_true (!(decide (((a0.getD y3.toNat e74.d).1) = ((a1.getD y3.toNat e74.d).1)))) with hb | hb
         · have h := cond_t hb gy7; clear gy7
           refine jD 28 hb ?_
           obtain rfl := si h
           refine jy 0 [(0, vS e74 a0), (1, vS e74 a1), (5, vI y3), (41, vB true)] 13 [0, 1, 5, 41] J
         · have h := cond_f hb gy7; clear gy7
           refine jD 28 hb ?_
           obtain ⟨c9, h⟩ := ck_bind h
           obtain ⟨c10, h⟩ := ck_bind h
           refine jY 3 [(0, vS e74 a0), (1, vS e74 a1), (5, vI y3), (28, vB false), (29, vS e74 a0), (30, vI y3), (31, .cell (.c (ptC e74 a0 y3 0))), (32, .cell (.c (ptC e74 a0 y3 1))), (33, vS e61 ((a0.getD y3.toNat e74.d).2)), (34, vS e74 a1), (35, vI y3), (36, .cell (.c (ptC e74 a1 y3 0))), (37, .cell (.c (ptC e74 a1 y3 1))), (38, vS e61 ((a1.getD y3.toNat e74.d).2))] ((0 ≤ y3 ∧ y3 < (a0.length : Int)) ∧ (0 ≤ y3 ∧ y3 < (a1.length : Int)) ∧ (True)) 10 [0, 1, 5, 28, 29, 30, 31, 32, 33, 34, 35, 36, 37, 38] ⟨c9, c10, trivial⟩ ?_
           obtain ⟨r11, gr11, h⟩ := bind_some h
           refine jL 39 Tryd.call104 (p104 L _ _ _ gr11) ?_
           refine jy 1 [(0, vS e74 a0), (1, vS e74 a1), (5, vI y3), (28, vB false), (29, vS e74 a0), (30, vI y3), (31, .cell (.c (ptC e74 a0 y3 0))), (32, .cell (.c (ptC e74 a0 y3 1))), (33, vS e61 ((a0.getD y3.toNat e74.d).2)), (34, vS e74 a1), (35, vI y3), (36, .cell (.c (ptC e74 a1 y3 0))), (37, .cell (.c (ptC e74 a1 y3 1))), (38, vS e61 ((a1.getD y3.toNat e74.d).2)), (39, vB r11), (40, vB (!r11))] 1 [0, 1, 5, 28, 29, 30, 31, 32, 33, 34, 35, 36, 37, 38, 39, 40] ?_
           obtain rfl := si h
           refine jy 0 [(0, vS e74 a0), (1, vS e74 a1), (5, vI y3), (41, vB (!r11))] 1 [0, 1, 5, 41] J
     · have h := cond_f hb h
       refine je 0 ?_
       refine thenQ_e ?_
       obtain rfl := si h; refine round_e rfl (fun hb => ?_); subst hb; have h := kb4; dsimp only at h
       refine blockQ_hit ?_
       obtain rfl := si h
       exact thenQ_n ⟨_, rfl, jE [.keep [], .take 0]⟩

/- attestorref13.SameVars -/
def s59_0 (L : LP) (a0 : (List (Int × Int))) (a1 : (List (Int × Int))) (y3 : Int) : Option (Int ⊕ (Bool ⊕ Unit)) :=
  (bif (decide (y3 < (a0.length : Int))) then
  (ck (0 ≤ y3 ∧ y3 < (a0.length : Int))).bind fun _ =>
  (ck (0 ≤ y3 ∧ y3 < (a1.length : Int))).bind fun _ =>
  (bif (!(decide ((a0.getD y3.toNat e61.d).1 = (a1.getD y3.toNat e61.d).1) && (decide ((a0.getD y3.toNat e61.d).2 = (a1.getD y3.toNat e61.d).2) && true))) then
  some (.inr (.inl false))
  else (ck (inR .i64 (y3 + (1 : Int)))).bind fun _ =>
  some (.inl (y3 + (1 : Int))))
  else some (.inr (.inr ())))
def s59 (L : LP) (a0 : (List (Int × Int))) (a1 : (List (Int × Int))) : Option Bool :=
  (bif (!(decide ((a0.length : Int) = (a1.length : Int)))) then
  some false
  else ((L.run (s59_0 L a0 a1) (0 : Int)).bind (fun (b : Bool ⊕ Unit) => (match b with
  | .inl v => some (.inr v)
  | .inr v => some (.inl ())))).bind fun (y1 : Unit ⊕ Bool) => (match y1 with
  | .inl v2 => some true
  | .inr v2 => some v2))
theorem p59 (L : LP) (a0 : (List (Int × Int))) (a1 : (List (Int × Int))) (r : Bool) (h : s59 L a0 a1 = some r) : Pure X 59 [vS e61 a0, vS e61 a1] (vB r) := by
 refine Pure_of_W (c := cd Tryd.f59 []) Tryd.func59 (by kernel_rfl) (N := 26) (by kernel_rfl) (Nat.le_of_ble_eq_true (by kernel_rfl)) ?_
 unfold s59 at h
 refine js ?_
 refine jr ?_
 refine jg [(0, vS e61 a0), (1, vS e61 a1)] 1 [0, 1] ?_
 refine thenQ_n ?_
 refine js ?_
 refine js ?_
 refine jr ?_
 refine jg [(0, vS e61 a0), (1, vS e61 a1), (10, vB (!(decide ((a0.length : Int) = (a1.length : Int)))))] 5 [0, 1, 10] ?_
 refine thenQ_n ?_
 refine jc (!(decide ((a0.length : Int) = (a1.length : Int)))) (fun hb => ?_) (fun hb => ?_)
 · have h := cond_t hb h
   refine js ?_
   refine jr ?_
   refine jg [(4, vB false)] 1 [4] ?_
   refine thenQ_n ?_
   refine jt ?_
   refine thenQ_r ?_
   obtain rfl := si h
   exact jq [vB false]
 · have h := cond_f hb h
   refine jk ?_
   refine thenQ_n ?_
   obtain ⟨y1, gy1, ky1⟩ := bind_some h
   refine W_cutE (by kernel_rfl) (fun v2 => y1 = .inl v2) (fun v2 => ([], [])) ?_ ?_
   · intro v2 hv; subst hv; have h := ky1; clear gy1 ky1; dsimp only at h
     refine js ?_
     refine jr ?_
     refine jg [(4, vB true)] 1 [4] ?_
     refine thenQ_n ?_
     refine jt ?_
     obtain rfl := si h
     exact jq [vB true]
   · have h := gy1; clear gy1
     refine js ?_
     refine jr ?_
     refine jg [(0, vS e61 a0), (1, vS e61 a1), (5, vI 0)] 1 [0, 1, 5] ?_
     refine thenQ_n ?_
     refine jb 0 ?_
     obtain ⟨b4, gb4, kb4⟩ := bind_some h
     refine W_loop_at (S := fun (y3 : Int) => ([], [(0, vS e61 a0), (1, vS e61 a1), (5, vI y3)])) (step := _) (x0 := (0 : Int)) (b := b4) (L.ok _ _ _ gb4) (by kernel_rfl) (jE [.keep [0, 1, 5], .take 0]) ?_
     clear gb4 h; intro y3 o h; unfold s59_0 at h
     refine js ?_
     refine js ?_
     refine jr ?_
     refine jg [(0, vS e61 a0), (1, vS e61 a1), (5, vI y3), (14, vB (decide (y3 < (a0.length : Int))))] 4 [0, 1, 5, 14] ?_
     refine thenQ_n ?_
     refine jc (decide (y3 < (a0.length : Int))) (fun hb => ?_) (fun hb => ?_)
     · have h := cond_t hb h
       refine jk ?_
       refine thenQ_n ?_
       refine js ?_
       refine jb 1 ?_
       refine js ?_
       refine jdr 8 mixed ?_
       obtain ⟨c5, h⟩ := ck_bind h
       obtain ⟨c6, h⟩ := ck_bind h
       refine jY 0 [(0, vS e61 a0), (1, vS e61 a1), (5, vI y3), (20, .agg [aY ((a0.getD y3.toNat e61.d).1), aI ((a0.getD y3.toNat e61.d).2)]), (24, .agg [aY ((a1.getD y3.toNat e61.d).1), aI ((a1.getD y3.toNat e61.d).2)])] ((0 ≤ y3 ∧ y3 < (a0.length : Int)) ∧ (0 ≤ y3 ∧ y3 < (a1.length : Int)) ∧ (True)) 8 [0, 1, 5, 20, 24] ⟨c5, c6, trivial⟩ ?_
       refine WQ_done ?_
       refine jg [(0, vS e61 a0), (1, vS e61 a1), (5, vI y3), (25, vB (!(decide ((a0.getD y3.toNat e61.d).1 = (a1.getD y3.toNat e61.d).1) && (decide ((a0.getD y3.toNat e61.d).2 = (a1.getD y3.toNat e61.d).2) && true))))] 1 [0, 1, 5, 25] ?_
       refine thenQ_n ?_
       refine jc (!(decide ((a0.getD y3.toNat e61.d).1 = (a1.getD y3.toNat e61.d).1) && (decide ((a0.getD y3.toNat e61.d).2 = (a1.getD y3.toNat e61.d).2) && true))) (fun hb => ?_) (fun hb => ?_)
       · have h := cond_t hb h
         refine js ?_
         refine jr ?_
         refine jg [(4, vB false)] 1 [4] ?_
         refine thenQ_n ?_
         refine jt ?_
         refine blockQ_r ?_
         refine thenQ_r ?_
         obtain rfl := si h; refine round_r rfl (fun hb => ?_); subst hb; have h := kb4; dsimp only at h
         refine blockQ_r ?_
         obtain rfl := si h; have h := ky1; dsimp only at h; refine thenQ_r ?_
         obtain rfl := si h
         exact jq [vB false]
       · have h := cond_f hb h
         refine jk ?_
         refine blockQ_n ?_
         refine thenQ_n ?_
         refine jr ?_
         obtain ⟨c7, h⟩ := ck_bind h
         refine jG [(0, vS e61 a0), (1, vS e61 a1), (5, vI (y3 + (1 : Int)))] ((inR .i64 (y3 + (1 : Int))) ∧ (True)) 3 [0, 1, 5] ⟨c7, trivial⟩ ?_
         obtain rfl := si h
         exact round_n _ rfl (jE [.keep [0, 1, 5], .take 0])
     · have h := cond_f hb h
       refine je 0 ?_
       refine thenQ_e ?_
       obtain rfl := si h; refine round_e rfl (fun hb => ?_); subst hb; have h := kb4; dsimp only at h
       refine blockQ_hit ?_
       obtain rfl := si h
       exact thenQ_n ⟨_, rfl, jE [.keep [], .take 0]⟩

/- attestorref13.sameTuples -/
def s58_0 (L : LP) (a0 : (List (List (Int × Int)))) (a1 : (List (List (Int × Int)))) (y3 : Int) : Option (Int ⊕ (Bool ⊕ Unit)) :=
  (bif (decide (y3 < (a0.length : Int))) then
  (ck (0 ≤ y3 ∧ y3 < (a0.length : Int))).bind fun _ =>
  (ck (0 ≤ y3 ∧ y3 < (a1.length : Int))).bind fun _ =>
  (s59 L (a0.getD y3.toNat e62.d) (a1.getD y3.toNat e62.d)).bind fun r7 =>
  (bif (!r7) then
  some (.inr (.inl false))
  else (ck (inR .i64 (y3 + (1 : Int)))).bind fun _ =>
  some (.inl (y3 + (1 : Int))))
  else some (.inr (.inr ())))
def s58 (L : LP) (a0 : (List (List (Int × Int)))) (a1 : (List (List (Int × Int)))) : Option Bool :=
  (bif (!(decide ((a0.length : Int) = (a1.length : Int)))) then
  some false
  else ((L.run (s58_0 L a0 a1) (0 : Int)).bind (fun (b : Bool ⊕ Unit) => (match b with
  | .inl v => some (.inr v)
  | .inr v => some (.inl ())))).bind fun (y1 : Unit ⊕ Bool) => (match y1 with
  | .inl v2 => some true
  | .inr v2 => some v2))
theorem p58 (L : LP) (a0 : (List (List (Int × Int)))) (a1 : (List (List (Int × Int)))) (r : Bool) (h : s58 L a0 a1 = some r) : Pure X 58 [vS e62 a0, vS e62 a1] (vB r) := by
 refine Pure_of_W (c := cd Tryd.f58 []) Tryd.func58 (by kernel_rfl) (N := 27) (by kernel_rfl) (Nat.le_of_ble_eq_true (by kernel_rfl)) ?_
 unfold s58 at h
 refine js ?_
 refine jr ?_
 refine jg [(0, vS e62 a0), (1, vS e62 a1)] 1 [0, 1] ?_
 refine thenQ_n ?_
 refine js ?_
 refine js ?_
 refine jr ?_
 refine jg [(0, vS e62 a0), (1, vS e62 a1), (10, vB (!(decide ((a0.length : Int) = (a1.length : Int)))))] 5 [0, 1, 10] ?_
 refine thenQ_n ?_
 refine jc (!(decide ((a0.length : Int) = (a1.length : Int)))) (fun hb => ?_) (fun hb => ?_)
 · have h := cond_t hb h
   refine js ?_
   refine jr ?_
   refine jg [(4, vB false)] 1 [4] ?_
   refine thenQ_n ?_
   refine jt ?_
   refine thenQ_r ?_
   obtain rfl := si h
   exact jq [vB false]
 · have h := cond_f hb h
   refine jk ?_
   refine thenQ_n ?_
   obtain ⟨y1, gy1, ky1⟩ := bind_some h
   refine W_cutE (by kernel_rfl) (fun v2 => y1 = .inl v2) (fun v2 => ([], [])) ?_ ?_
   · intro v2 hv; subst hv; have h := ky1; clear gy1 ky1; dsimp only at h
     refine js ?_
     refine jr ?_
     refine jg [(4, vB true)] 1 [4] ?_
     refine thenQ_n ?_
     refine jt ?_
     obtain rfl := si h
     exact jq [vB true]
   · have h := gy1; clear gy1
     refine js ?_
     refine jr ?_
     refine jg [(0, vS e62 a0), (1, vS e62 a1), (5, vI 0)] 1 [0, 1, 5] ?_
     refine thenQ_n ?_
     refine jb 0 ?_
     obtain ⟨b4, gb4, kb4⟩ := bind_some h
     refine W_loop_at (S := fun (y3 : Int) => ([], [(0, vS e62 a0), (1, vS e62 a1), (5, vI y3)])) (step := _) (x0 := (0 : Int)) (b := b4) (L.ok _ _ _ gb4) (by kernel_rfl) (jE [.keep [0, 1, 5], .take 0]) ?_
     clear gb4 h; intro y3 o h; unfold s58_0 at h
     refine js ?_
     refine js ?_
     refine jr ?_
     refine jg [(0, vS e62 a0), (1, vS e62 a1), (5, vI y3), (14, vB (decide (y3 < (a0.length : Int))))] 4 [0, 1, 5, 14] ?_
     refine thenQ_n ?_
     refine jc (decide (y3 < (a0.length : Int))) (fun hb => ?_) (fun hb => ?_)
     · have h := cond_t hb h
       refine jk ?_
       refine thenQ_n ?_
       refine js ?_
       refine jb 1 ?_
       refine js ?_
       refine jdr 8 mixed ?_
       obtain ⟨c5, h⟩ := ck_bind h
       obtain ⟨c6, h⟩ := ck_bind h
       refine jY 0 [(0, vS e62 a0), (1, vS e62 a1), (5, vI y3), (20, vS e61 (a0.getD y3.toNat e62.d)), (24, vS e61 (a1.getD y3.toNat e62.d))] ((0 ≤ y3 ∧ y3 < (a0.length : Int)) ∧ (0 ≤ y3 ∧ y3 < (a1.length : Int)) ∧ (True)) 8 [0, 1, 5, 20, 24] ⟨c5, c6, trivial⟩ ?_
       refine WQ_done ?_
       obtain ⟨r7, gr7, h⟩ := bind_some h
       refine jl 25 Tryd.call59 (p59 L _ _ _ gr7) ?_
       refine jg [(0, vS e62 a0), (1, vS e62 a1), (5, vI y3), (26, vB (!r7))] 1 [0, 1, 5, 26] ?_
       refine thenQ_n ?_
       refine jc (!r7) (fun hb => ?_) (fun hb => ?_)
       · have h := cond_t hb h
         refine js ?_
         refine jr ?_
         refine jg [(4, vB false)] 1 [4] ?_
         refine thenQ_n ?_
         refine jt ?_
         refine blockQ_r ?_
         refine thenQ_r ?_
         obtain rfl := si h; refine round_r rfl (fun hb => ?_); subst hb; have h := kb4; dsimp only at h
         refine blockQ_r ?_
         obtain rfl := si h; have h := ky1; dsimp only at h; refine thenQ_r ?_
         obtain rfl := si h
         exact jq [vB false]
       · have h := cond_f hb h
         refine jk ?_
         refine blockQ_n ?_
         refine thenQ_n ?_
         refine jr ?_
         obtain ⟨c8, h⟩ := ck_bind h
         refine jG [(0, vS e62 a0), (1, vS e62 a1), (5, vI (y3 + (1 : Int)))] ((inR .i64 (y3 + (1 : Int))) ∧ (True)) 3 [0, 1, 5] ⟨c8, trivial⟩ ?_
         obtain rfl := si h
         exact round_n _ rfl (jE [.keep [0, 1, 5], .take 0])
     · have h := cond_f hb h
       refine je 0 ?_
       refine thenQ_e ?_
       obtain rfl := si h; refine round_e rfl (fun hb => ?_); subst hb; have h := kb4; dsimp only at h
       refine blockQ_hit ?_
       obtain rfl := si h
       exact thenQ_n ⟨_, rfl, jE [.keep [], .take 0]⟩

/- attestorref13.SameShape -/
def s17_0 (L : LP) (a0_7 : (List ((List (Int × Int)) × (List (Int × Int)) × Int × Int))) (a1_7 : (List ((List (Int × Int)) × (List (Int × Int)) × Int × Int))) (y14 : Int) : Option (Int ⊕ (Bool ⊕ Unit)) :=
  (bif (decide (y14 < (a0_7.length : Int))) then
  (ck (0 ≤ y14 ∧ y14 < (a0_7.length : Int))).bind fun _ =>
  (ck (0 ≤ y14 ∧ y14 < (a1_7.length : Int))).bind fun _ =>
  (s59 L ((a0_7.getD y14.toNat e77.d).1) ((a1_7.getD y14.toNat e77.d).1)).bind fun r18 =>
  (bif (!r18) then some true
  else (s59 L ((a0_7.getD y14.toNat e77.d).2.1) ((a1_7.getD y14.toNat e77.d).2.1)).bind fun r22 =>
  some (!r22)).bind fun y19 =>
  (bif y19 then some true
  else some (!(decide ((a0_7.getD y14.toNat e77.d).2.2.1 = (a1_7.getD y14.toNat e77.d).2.2.1) && (decide ((a0_7.getD y14.toNat e77.d).2.2.2 = (a1_7.getD y14.toNat e77.d).2.2.2) && true)))).bind fun y20 =>
  (bif y20 then
  some (.inr (.inl false))
  else (ck (inR .i64 (y14 + (1 : Int)))).bind fun _ =>
  some (.inl (y14 + (1 : Int))))
  else some (.inr (.inr ())))
def s17_1 (L : LP) (a0_6 : (List ((List (List (Int × Int))) × (List (List (Int × Int)))))) (a1_6 : (List ((List (List (Int × Int))) × (List (List (Int × Int)))))) (y23 : Int) : Option (Int ⊕ (Bool ⊕ Unit)) :=
  (bif (decide (y23 < (a0_6.length : Int))) then
  (ck (0 ≤ y23 ∧ y23 < (a0_6.length : Int))).bind fun _ =>
  (ck (0 ≤ y23 ∧ y23 < (a1_6.length : Int))).bind fun _ =>
  (s58 L ((a0_6.getD y23.toNat e65.d).1) ((a1_6.getD y23.toNat e65.d).1)).bind fun r27 =>
  (bif (!r27) then some true
  else (ck (0 ≤ y23 ∧ y23 < (a0_6.length : Int))).bind fun _ =>
  (ck (0 ≤ y23 ∧ y23 < (a1_6.length : Int))).bind fun _ =>
  (s58 L ((a0_6.getD y23.toNat e65.d).2) ((a1_6.getD y23.toNat e65.d).2)).bind fun r32 =>
  some (!r32)).bind fun y28 =>
  (bif y28 then
  some (.inr (.inl false))
  else (ck (inR .i64 (y23 + (1 : Int)))).bind fun _ =>
  some (.inl (y23 + (1 : Int))))
  else some (.inr (.inr ())))
def s17_2 (L : LP) (a0_5 : (List (Int × (List (Int × (List (Int × Int))))))) (a1_5 : (List (Int × (List (Int × (List (Int × Int))))))) (y33 : Int) : Option (Int ⊕ (Bool ⊕ Unit)) :=
  (bif (decide (y33 < (a0_5.length : Int))) then
  (ck (0 ≤ y33 ∧ y33 < (a0_5.length : Int))).bind fun _ =>
  (ck (0 ≤ y33 ∧ y33 < (a1_5.length : Int))).bind fun _ =>
  (bif (!(decide (((a0_5.getD y33.toNat e72.d).1) = ((a1_5.getD y33.toNat e72.d).1)))) then some true
  else (ck (0 ≤ y33 ∧ y33 < (a0_5.length : Int))).bind fun _ =>
  (ck (0 ≤ y33 ∧ y33 < (a1_5.length : Int))).bind fun _ =>
  (s57 L ((a0_5.getD y33.toNat e72.d).2) ((a1_5.getD y33.toNat e72.d).2)).bind fun r41 =>
  some (!r41)).bind fun y37 =>
  (bif y37 then
  some (.inr (.inl false))
  else (ck (inR .i64 (y33 + (1 : Int)))).bind fun _ =>
  some (.inl (y33 + (1 : Int))))
  else some (.inr (.inr ())))
def s17 (L : LP) (a0_0 : Int) (a0_1 : Int) (a0_2 : Int) (a0_3 : Int) (a0_4 : (List (List Int))) (a0_5 : (List (Int × (List (Int × (List (Int × Int))))))) (a0_6 : (List ((List (List (Int × Int))) × (List (List (Int × Int)))))) (a0_7 : (List ((List (Int × Int)) × (List (Int × Int)) × Int × Int))) (a1_0 : Int) (a1_1 : Int) (a1_2 : Int) (a1_3 : Int) (a1_4 : (List (List Int))) (a1_5 : (List (Int × (List (Int × (List (Int × Int))))))) (a1_6 : (List ((List (List (Int × Int))) × (List (List (Int × Int)))))) (a1_7 : (List ((List (Int × Int)) × (List (Int × Int)) × Int × Int))) : Option Bool :=
  (bif (!(decide (a0_0 = a1_0))) then some true
  else some (!(decide (a0_1 = a1_1)))).bind fun y1 =>
  (bif y1 then some true
  else some (!(decide (a0_2 = a1_2)))).bind fun y2 =>
  (bif y2 then some true
  else some (!(decide (a0_3 = a1_3)))).bind fun y3 =>
  (bif y3 then some true
  else some (!(decide ((a0_4.length : Int) = (a1_4.length : Int))))).bind fun y4 =>
  (bif y4 then some true
  else some (!(decide ((a0_5.length : Int) = (a1_5.length : Int))))).bind fun y5 =>
  (bif y5 then some true
  else some (!(decide ((a0_6.length : Int) = (a1_6.length : Int))))).bind fun y6 =>
  (bif y6 then some true
  else some (!(decide ((a0_7.length : Int) = (a1_7.length : Int))))).bind fun y7 =>
  (bif y7 then
  some false
  else ((L.run (s17_2 L a0_5 a1_5) (0 : Int)).bind (fun (b : Bool ⊕ Unit) => (match b with
  | .inl v => some (.inr v)
  | .inr v => some (.inl ())))).bind fun (y8 : Unit ⊕ Bool) => (match y8 with
  | .inl v9 => ((L.run (s17_1 L a0_6 a1_6) (0 : Int)).bind (fun (b : Bool ⊕ Unit) => (match b with
  | .inl v => some (.inr v)
  | .inr v => some (.inl ())))).bind fun (y10 : Unit ⊕ Bool) => (match y10 with
  | .inl v11 => ((L.run (s17_0 L a0_7 a1_7) (0 : Int)).bind (fun (b : Bool ⊕ Unit) => (match b with
  | .inl v => some (.inr v)
  | .inr v => some (.inl ())))).bind fun (y12 : Unit ⊕ Bool) => (match y12 with
  | .inl v13 => some true
  | .inr v13 => some v13)
  | .inr v11 => some v11)
  | .inr v9 => some v9))
theorem p17 (L : LP) (a0_0 : Int) (a0_1 : Int) (a0_2 : Int) (a0_3 : Int) (a0_4 : (List (List Int))) (a0_5 : (List (Int × (List (Int × (List (Int × Int))))))) (a0_6 : (List ((List (List (Int × Int))) × (List (List (Int × Int)))))) (a0_7 : (List ((List (Int × Int)) × (List (Int × Int)) × Int × Int))) (a1_0 : Int) (a1_1 : Int) (a1_2 : Int) (a1_3 : Int) (a1_4 : (List (List Int))) (a1_5 : (List (Int × (List (Int × (List (Int × Int))))))) (a1_6 : (List ((List (List (Int × Int))) × (List (List (Int × Int)))))) (a1_7 : (List ((List (Int × Int)) × (List (Int × Int)) × Int × Int))) (r : Bool) (h : s17 L a0_0 a0_1 a0_2 a0_3 a0_4 a0_5 a0_6 a0_7 a1_0 a1_1 a1_2 a1_3 a1_4 a1_5 a1_6 a1_7 = some r) : Pure X 17 [.agg [aI a0_0, aI a0_1, aI a0_2, aI a0_3, aS e28 a0_4, aS e72 a0_5, aS e65 a0_6, aS e77 a0_7], .agg [aI a1_0, aI a1_1, aI a1_2, aI a1_3, aS e28 a1_4, aS e72 a1_5, aS e65 a1_6, aS e77 a1_7]] (vB r) := by
 refine Pure_of_W (c := cd Tryd.f17 []) Tryd.func17 (by kernel_rfl) (N := 183) (by kernel_rfl) (Nat.le_of_ble_eq_true (by kernel_rfl)) ?_
 unfold s17 at h
 refine js ?_
 refine jr ?_
 refine jf [bL 27 [aI a0_0, aI a0_1, aI a0_2, aI a0_3, aS e28 a0_4, aS e72 a0_5, aS e65 a0_6, aS e77 a0_7], bL 27 [aI a1_0, aI a1_1, aI a1_2, aI a1_3, aS e28 a1_4, aS e72 a1_5, aS e65 a1_6, aS e77 a1_7]] [(2, vO 0 0 8 0 0), (3, vO 1 0 8 0 0)] 3 [2, 3] ?_
 refine thenQ_n ?_
 refine js ?_
 refine js ?_
 refine jr ?_
 refine jh [(2, vO 0 0 8 0 0), (3, vO 1 0 8 0 0), (15, vB (!(decide (a0_0 = a1_0))))] 6 [2, 3, 15] ?_
 obtain ⟨y1, gy1, h⟩ := bind_some h
 refine jj 12 [(2, vO 0 0 8 0 0), (3, vO 1 0 8 0 0), (21, vB y1)] ?_ ?_
 · clear gy1
   refine jh [(2, vO 0 0 8 0 0), (3, vO 1 0 8 0 0), (22, vB y1)] 1 [2, 3, 22] ?_
   obtain ⟨y2, gy2, h⟩ := bind_some h
   refine jj 19 [(2, vO 0 0 8 0 0), (3, vO 1 0 8 0 0), (28, vB y2)] ?_ ?_
   · clear gy2
     refine jh [(2, vO 0 0 8 0 0), (3, vO 1 0 8 0 0), (29, vB y2)] 1 [2, 3, 29] ?_
     obtain ⟨y3, gy3, h⟩ := bind_some h
     refine jj 26 [(2, vO 0 0 8 0 0), (3, vO 1 0 8 0 0), (35, vB y3)] ?_ ?_
     · clear gy3
       refine jh [(2, vO 0 0 8 0 0), (3, vO 1 0 8 0 0), (36, vB y3)] 1 [2, 3, 36] ?_
       obtain ⟨y4, gy4, h⟩ := bind_some h
       refine jj 35 [(2, vO 0 0 8 0 0), (3, vO 1 0 8 0 0), (44, vB y4)] ?_ ?_
       · clear gy4
         refine jh [(2, vO 0 0 8 0 0), (3, vO 1 0 8 0 0), (45, vB y4)] 1 [2, 3, 45] ?_
         obtain ⟨y5, gy5, h⟩ := bind_some h
         refine jj 44 [(2, vO 0 0 8 0 0), (3, vO 1 0 8 0 0), (53, vB y5)] ?_ ?_
         · clear gy5
           refine jh [(2, vO 0 0 8 0 0), (3, vO 1 0 8 0 0), (54, vB y5)] 1 [2, 3, 54] ?_
           obtain ⟨y6, gy6, h⟩ := bind_some h
           refine jj 53 [(2, vO 0 0 8 0 0), (3, vO 1 0 8 0 0), (62, vB y6)] ?_ ?_
           · clear gy6
             refine jh [(2, vO 0 0 8 0 0), (3, vO 1 0 8 0 0), (63, vB y6)] 1 [2, 3, 63] ?_
             obtain ⟨y7, gy7, h⟩ := bind_some h
             refine jj 62 [(2, vO 0 0 8 0 0), (3, vO 1 0 8 0 0), (71, vB y7)] ?_ ?_
             · clear gy7
               refine jg [(2, vO 0 0 8 0 0), (3, vO 1 0 8 0 0), (71, vB y7)] 0 [2, 3, 71] ?_
               refine thenQ_n ?_
               refine jc y7 (fun hb => ?_) (fun hb => ?_)
               · have h := cond_t hb h
                 refine js ?_
                 refine jr ?_
                 refine jg [(4, vB false)] 1 [4] ?_
                 refine thenQ_n ?_
                 refine jt ?_
                 refine thenQ_r ?_
                 obtain rfl := si h
                 exact jq [vB false]
               · have h := cond_f hb h
                 refine jk ?_
                 refine thenQ_n ?_
                 obtain ⟨y8, gy8, ky8⟩ := bind_some h
                 refine W_cutE (by kernel_rfl) (fun v9 => y8 = .inl v9) (fun v9 => ([bL 27 [aI a0_0, aI a0_1, aI a0_2, aI a0_3, aS e28 a0_4, aS e72 a0_5, aS e65 a0_6, aS e77 a0_7], bL 27 [aI a1_0, aI a1_1, aI a1_2, aI a1_3, aS e28 a1_4, aS e72 a1_5, aS e65 a1_6, aS e77 a1_7]], [(2, vO 0 0 8 0 0), (3, vO 1 0 8 0 0)])) ?_ ?_
                 · intro v9 hv; subst hv; have h := ky8; clear gy8 ky8; dsimp only at h
                   obtain ⟨y10, gy10, ky10⟩ := bind_some h
                   refine W_cutE (by kernel_rfl) (fun v11 => y10 = .inl v11) (fun v11 => ([bL 27 [aI a0_0, aI a0_1, aI a0_2, aI a0_3, aS e28 a0_4, aS e72 a0_5, aS e65 a0_6, aS e77 a0_7], bL 27 [aI a1_0, aI a1_1, aI a1_2, aI a1_3, aS e28 a1_4, aS e72 a1_5, aS e65 a1_6, aS e77 a1_7]], [(2, vO 0 0 8 0 0), (3, vO 1 0 8 0 0)])) ?_ ?_
                   · intro v11 hv; subst hv; have h := ky10; clear gy10 ky10; dsimp only at h
                     obtain ⟨y12, gy12, ky12⟩ := bind_some h
                     refine W_cutE (by kernel_rfl) (fun v13 => y12 = .inl v13) (fun v13 => ([bL 27 [aI a0_0, aI a0_1, aI a0_2, aI a0_3, aS e28 a0_4, aS e72 a0_5, aS e65 a0_6, aS e77 a0_7], bL 27 [aI a1_0, aI a1_1, aI a1_2, aI a1_3, aS e28 a1_4, aS e72 a1_5, aS e65 a1_6, aS e77 a1_7]], [])) ?_ ?_
                     · intro v13 hv; subst hv; have h := ky12; clear gy12 ky12; dsimp only at h
                       refine js ?_
                       refine jr ?_
                       refine jg [(4, vB true)] 1 [4] ?_
                       refine thenQ_n ?_
                       refine jt ?_
                       obtain rfl := si h
                       exact jq [vB true]
                     · have h := gy12; clear gy12
                       refine js ?_
                       refine jr ?_
                       refine jg [(2, vO 0 0 8 0 0), (3, vO 1 0 8 0 0), (7, vI 0)] 1 [2, 3, 7] ?_
                       refine thenQ_n ?_
                       refine jb 4 ?_
                       obtain ⟨b15, gb15, kb15⟩ := bind_some h
                       refine W_loop_at (S := fun (y14 : Int) => ([bL 27 [aI a0_0, aI a0_1, aI a0_2, aI a0_3, aS e28 a0_4, aS e72 a0_5, aS e65 a0_6, aS e77 a0_7], bL 27 [aI a1_0, aI a1_1, aI a1_2, aI a1_3, aS e28 a1_4, aS e72 a1_5, aS e65 a1_6, aS e77 a1_7]], [(2, vO 0 0 8 0 0), (3, vO 1 0 8 0 0), (7, vI y14)])) (step := _) (x0 := (0 : Int)) (b := b15) (L.ok _ _ _ gb15) (by kernel_rfl) (jE [.keep [2, 3, 7], .take 2]) ?_
                       clear gb15 h; intro y14 o h; unfold s17_0 at h
                       refine js ?_
                       refine js ?_
                       refine jr ?_
                       refine jg [(2, vO 0 0 8 0 0), (3, vO 1 0 8 0 0), (7, vI y14), (149, vB (decide (y14 < (a0_7.length : Int))))] 5 [2, 3, 7, 149] ?_
                       refine thenQ_n ?_
                       refine jc (decide (y14 < (a0_7.length : Int))) (fun hb => ?_) (fun hb => ?_)
                       · have h := cond_t hb h
                         refine jk ?_
                         refine thenQ_n ?_
                         refine js ?_
                         refine jb 5 ?_
                         refine js ?_
                         refine jda 10 2 1 mixed ?_
                         obtain ⟨c16, h⟩ := ck_bind h
                         obtain ⟨c17, h⟩ := ck_bind h
                         refine jYa 0 [(2, vO 0 0 8 0 0), (3, vO 1 0 8 0 0), (7, vI y14), (156, .agg [aS e61 ((a0_7.getD y14.toNat e77.d).1), aS e61 ((a0_7.getD y14.toNat e77.d).2.1), aY ((a0_7.getD y14.toNat e77.d).2.2.1), aI ((a0_7.getD y14.toNat e77.d).2.2.2)]), (161, .agg [aS e61 ((a1_7.getD y14.toNat e77.d).1), aS e61 ((a1_7.getD y14.toNat e77.d).2.1), aY ((a1_7.getD y14.toNat e77.d).2.2.1), aI ((a1_7.getD y14.toNat e77.d).2.2.2)])] ((0 ≤ y14 ∧ y14 < (a0_7.length : Int)) ∧ (0 ≤ y14 ∧ y14 < (a1_7.length : Int)) ∧ (True)) 10 [2, 3, 7, 156, 161] ⟨c16, c17, trivial⟩ ?_
                         refine jda0 ?_
                         refine jn [bL 27 [aI a0_0, aI a0_1, aI a0_2, aI a0_3, aS e28 a0_4, aS e72 a0_5, aS e65 a0_6, aS e77 a0_7], bL 27 [aI a1_0, aI a1_1, aI a1_2, aI a1_3, aS e28 a1_4, aS e72 a1_5, aS e65 a1_6, aS e77 a1_7], bL 77 [.c (.nsl), .c (.nsl), aY 0, aI 0]] [(8, vO 2 0 4 0 0), (2, vO 0 0 8 0 0), (3, vO 1 0 8 0 0), (7, vI y14), (156, .agg [aS e61 ((a0_7.getD y14.toNat e77.d).1), aS e61 ((a0_7.getD y14.toNat e77.d).2.1), aY ((a0_7.getD y14.toNat e77.d).2.2.1), aI ((a0_7.getD y14.toNat e77.d).2.2.2)]), (161, .agg [aS e61 ((a1_7.getD y14.toNat e77.d).1), aS e61 ((a1_7.getD y14.toNat e77.d).2.1), aY ((a1_7.getD y14.toNat e77.d).2.2.1), aI ((a1_7.getD y14.toNat e77.d).2.2.2)])] 77 [.c (.nsl), .c (.nsl), aY 0, aI 0] (some 8) ?_
                         refine jn [bL 27 [aI a0_0, aI a0_1, aI a0_2, aI a0_3, aS e28 a0_4, aS e72 a0_5, aS e65 a0_6, aS e77 a0_7], bL 27 [aI a1_0, aI a1_1, aI a1_2, aI a1_3, aS e28 a1_4, aS e72 a1_5, aS e65 a1_6, aS e77 a1_7], bL 77 [.c (.nsl), .c (.nsl), aY 0, aI 0], bL 77 [.c (.nsl), .c (.nsl), aY 0, aI 0]] [(9, vO 3 0 4 0 0), (8, vO 2 0 4 0 0), (2, vO 0 0 8 0 0), (3, vO 1 0 8 0 0), (7, vI y14), (156, .agg [aS e61 ((a0_7.getD y14.toNat e77.d).1), aS e61 ((a0_7.getD y14.toNat e77.d).2.1), aY ((a0_7.getD y14.toNat e77.d).2.2.1), aI ((a0_7.getD y14.toNat e77.d).2.2.2)]), (161, .agg [aS e61 ((a1_7.getD y14.toNat e77.d).1), aS e61 ((a1_7.getD y14.toNat e77.d).2.1), aY ((a1_7.getD y14.toNat e77.d).2.2.1), aI ((a1_7.getD y14.toNat e77.d).2.2.2)])] 77 [.c (.nsl), .c (.nsl), aY 0, aI 0] (some 9) ?_
                         refine jn0 ?_
                         refine jst [bL 27 [aI a0_0, aI a0_1, aI a0_2, aI a0_3, aS e28 a0_4, aS e72 a0_5, aS e65 a0_6, aS e77 a0_7], bL 27 [aI a1_0, aI a1_1, aI a1_2, aI a1_3, aS e28 a1_4, aS e72 a1_5, aS e65 a1_6, aS e77 a1_7], bL 77 [aS e61 ((a0_7.getD y14.toNat e77.d).1), aS e61 ((a0_7.getD y14.toNat e77.d).2.1), aY ((a0_7.getD y14.toNat e77.d).2.2.1), aI ((a0_7.getD y14.toNat e77.d).2.2.2)], bL 77 [.c (.nsl), .c (.nsl), aY 0, aI 0]] 0 ?_
                         refine jst0 ?_
                         refine jf [bL 27 [aI a0_0, aI a0_1, aI a0_2, aI a0_3, aS e28 a0_4, aS e72 a0_5, aS e65 a0_6, aS e77 a0_7], bL 27 [aI a1_0, aI a1_1, aI a1_2, aI a1_3, aS e28 a1_4, aS e72 a1_5, aS e65 a1_6, aS e77 a1_7], bL 77 [aS e61 ((a0_7.getD y14.toNat e77.d).1), aS e61 ((a0_7.getD y14.toNat e77.d).2.1), aY ((a0_7.getD y14.toNat e77.d).2.2.1), aI ((a0_7.getD y14.toNat e77.d).2.2.2)], bL 77 [aS e61 ((a1_7.getD y14.toNat e77.d).1), aS e61 ((a1_7.getD y14.toNat e77.d).2.1), aY ((a1_7.getD y14.toNat e77.d).2.2.1), aI ((a1_7.getD y14.toNat e77.d).2.2.2)]] [(2, vO 0 0 8 0 0), (3, vO 1 0 8 0 0), (7, vI y14), (8, vO 2 0 4 0 0), (9, vO 3 0 4 0 0)] 1 [2, 3, 7, 8, 9] ?_
                         refine thenQ_n ?_
                         refine js ?_
                         refine jr ?_
                         refine jh [(2, vO 0 0 8 0 0), (3, vO 1 0 8 0 0), (7, vI y14), (8, vO 2 0 4 0 0), (9, vO 3 0 4 0 0), (163, vS e61 ((a0_7.getD y14.toNat e77.d).1)), (165, vS e61 ((a1_7.getD y14.toNat e77.d).1))] 4 [2, 3, 7, 8, 9, 163, 165] ?_
                         obtain ⟨r18, gr18, h⟩ := bind_some h
                         refine jl 166 Tryd.call59 (p59 L _ _ _ gr18) ?_
                         refine jh [(2, vO 0 0 8 0 0), (3, vO 1 0 8 0 0), (7, vI y14), (8, vO 2 0 4 0 0), (9, vO 3 0 4 0 0), (168, vB (!r18))] 2 [2, 3, 7, 8, 9, 168] ?_
                         obtain ⟨y19, gy19, h⟩ := bind_some h
                         refine jj 14 [(2, vO 0 0 8 0 0), (3, vO 1 0 8 0 0), (7, vI y14), (8, vO 2 0 4 0 0), (9, vO 3 0 4 0 0), (175, vB y19)] ?_ ?_
                         · clear gy19
                           refine jh [(2, vO 0 0 8 0 0), (3, vO 1 0 8 0 0), (7, vI y14), (8, vO 2 0 4 0 0), (9, vO 3 0 4 0 0), (176, vB y19)] 1 [2, 3, 7, 8, 9, 176] ?_
                           obtain ⟨y20, gy20, h⟩ := bind_some h
                           refine jj 21 [(2, vO 0 0 8 0 0), (3, vO 1 0 8 0 0), (7, vI y14), (182, vB y20)] ?_ ?_
                           · clear gy20
                             refine jg [(2, vO 0 0 8 0 0), (3, vO 1 0 8 0 0), (7, vI y14), (182, vB y20)] 0 [2, 3, 7, 182] ?_
                             refine thenQ_n ?_
                             refine jc y20 (fun hb => ?_) (fun hb => ?_)
                             · have h := cond_t hb h
                               refine js ?_
                               refine jr ?_
                               refine jg [(4, vB false)] 1 [4] ?_
                               refine thenQ_n ?_
                               refine jt ?_
                               refine blockQ_r ?_
                               refine thenQ_r ?_
                               obtain rfl := si h; refine round_r rfl (fun hb => ?_); subst hb; have h := kb15; dsimp only at h
                               refine blockQ_r ?_
                               obtain rfl := si h; have h := ky12; dsimp only at h; refine thenQ_r ?_
                               obtain rfl := si h
                               exact jq [vB false]
                             · have h := cond_f hb h
                               refine jk ?_
                               refine blockQ_n ?_
                               refine thenQ_n ?_
                               refine jr ?_
                               obtain ⟨c21, h⟩ := ck_bind h
                               refine jG [(2, vO 0 0 8 0 0), (3, vO 1 0 8 0 0), (7, vI (y14 + (1 : Int)))] ((inR .i64 (y14 + (1 : Int))) ∧ (True)) 3 [2, 3, 7] ⟨c21, trivial⟩ ?_
                               obtain rfl := si h
                               exact round_n _ rfl (jE [.keep [2, 3, 7], .take 2])
                           · intro J
                             clear h
                             rcases Bool.eq_false_or_eq_true y19 with hb | hb
                             · have h := cond_t hb gy20; clear gy20
                               refine jd 176 hb ?_
                               obtain rfl := si h
                               refine jh [(2, vO 0 0 8 0 0), (3, vO 1 0 8 0 0), (7, vI y14), (182, vB true)] 6 [2, 3, 7, 182] J
                             · have h := cond_f hb gy20; clear gy20
                               refine jd 176 hb ?_
                               refine jh [(2, vO 0 0 8 0 0), (3, vO 1 0 8 0 0), (7, vI y14), (176, vB false), (177, vO 2 0 4 0 2), (178, .agg [aY ((a0_7.getD y14.toNat e77.d).2.2.1), aI ((a0_7.getD y14.toNat e77.d).2.2.2)]), (179, vO 3 0 4 0 2), (180, .agg [aY ((a1_7.getD y14.toNat e77.d).2.2.1), aI ((a1_7.getD y14.toNat e77.d).2.2.2)]), (181, vB (!(decide ((a0_7.getD y14.toNat e77.d).2.2.1 = (a1_7.getD y14.toNat e77.d).2.2.1) && (decide ((a0_7.getD y14.toNat e77.d).2.2.2 = (a1_7.getD y14.toNat e77.d).2.2.2) && true))))] 5 [2, 3, 7, 176, 177, 178, 179, 180, 181] ?_
                               obtain rfl := si h
                               refine jh [(2, vO 0 0 8 0 0), (3, vO 1 0 8 0 0), (7, vI y14), (182, vB (!(decide ((a0_7.getD y14.toNat e77.d).2.2.1 = (a1_7.getD y14.toNat e77.d).2.2.1) && (decide ((a0_7.getD y14.toNat e77.d).2.2.2 = (a1_7.getD y14.toNat e77.d).2.2.2) && true))))] 1 [2, 3, 7, 182] J
                         · intro J
                           clear h
                           rcases Bool.eq_false_or_eq_true (!r18) with hb | hb
                           · have h := cond_t hb gy19; clear gy19
                             refine jd 168 hb ?_
                             obtain rfl := si h
                             refine jh [(2, vO 0 0 8 0 0), (3, vO 1 0 8 0 0), (7, vI y14), (8, vO 2 0 4 0 0), (9, vO 3 0 4 0 0), (175, vB true)] 7 [2, 3, 7, 8, 9, 175] J
                           · have h := cond_f hb gy19; clear gy19
                             refine jd 168 hb ?_
                             refine jh [(2, vO 0 0 8 0 0), (3, vO 1 0 8 0 0), (7, vI y14), (8, vO 2 0 4 0 0), (9, vO 3 0 4 0 0), (168, vB false), (169, vO 2 0 4 0 1), (170, vS e61 ((a0_7.getD y14.toNat e77.d).2.1)), (171, vO 3 0 4 0 1), (172, vS e61 ((a1_7.getD y14.toNat e77.d).2.1))] 4 [2, 3, 7, 8, 9, 168, 169, 170, 171, 172] ?_
                             obtain ⟨r22, gr22, h⟩ := bind_some h
                             refine jl 173 Tryd.call59 (p59 L _ _ _ gr22) ?_
                             refine jh [(2, vO 0 0 8 0 0), (3, vO 1 0 8 0 0), (7, vI y14), (8, vO 2 0 4 0 0), (9, vO 3 0 4 0 0), (168, vB false), (169, vO 2 0 4 0 1), (170, vS e61 ((a0_7.getD y14.toNat e77.d).2.1)), (171, vO 3 0 4 0 1), (172, vS e61 ((a1_7.getD y14.toNat e77.d).2.1)), (173, vB r22), (174, vB (!r22))] 1 [2, 3, 7, 8, 9, 168, 169, 170, 171, 172, 173, 174] ?_
                             obtain rfl := si h
                             refine jh [(2, vO 0 0 8 0 0), (3, vO 1 0 8 0 0), (7, vI y14), (8, vO 2 0 4 0 0), (9, vO 3 0 4 0 0), (175, vB (!r22))] 1 [2, 3, 7, 8, 9, 175] J
                       · have h := cond_f hb h
                         refine je 4 ?_
                         refine thenQ_e ?_
                         obtain rfl := si h; refine round_e rfl (fun hb => ?_); subst hb; have h := kb15; dsimp only at h
                         refine blockQ_hit ?_
                         obtain rfl := si h
                         exact thenQ_n ⟨_, rfl, jE [.keep [], .take 2]⟩
                   · have h := gy10; clear gy10
                     refine js ?_
                     refine jr ?_
                     refine jg [(2, vO 0 0 8 0 0), (3, vO 1 0 8 0 0), (6, vI 0)] 1 [2, 3, 6] ?_
                     refine thenQ_n ?_
                     refine jb 2 ?_
                     obtain ⟨b24, gb24, kb24⟩ := bind_some h
                     refine W_loop_at (S := fun (y23 : Int) => ([bL 27 [aI a0_0, aI a0_1, aI a0_2, aI a0_3, aS e28 a0_4, aS e72 a0_5, aS e65 a0_6, aS e77 a0_7], bL 27 [aI a1_0, aI a1_1, aI a1_2, aI a1_3, aS e28 a1_4, aS e72 a1_5, aS e65 a1_6, aS e77 a1_7]], [(2, vO 0 0 8 0 0), (3, vO 1 0 8 0 0), (6, vI y23)])) (step := _) (x0 := (0 : Int)) (b := b24) (L.ok _ _ _ gb24) (by kernel_rfl) (jE [.keep [2, 3, 6], .take 2]) ?_
                     clear gb24 h; intro y23 o h; unfold s17_1 at h
                     refine js ?_
                     refine js ?_
                     refine jr ?_
                     refine jg [(2, vO 0 0 8 0 0), (3, vO 1 0 8 0 0), (6, vI y23), (112, vB (decide (y23 < (a0_6.length : Int))))] 5 [2, 3, 6, 112] ?_
                     refine thenQ_n ?_
                     refine jc (decide (y23 < (a0_6.length : Int))) (fun hb => ?_) (fun hb => ?_)
                     · have h := cond_t hb h
                       refine jk ?_
                       refine thenQ_n ?_
                       refine js ?_
                       refine jb 3 ?_
                       refine js ?_
                       refine jdr 30 mixed ?_
                       obtain ⟨c25, h⟩ := ck_bind h
                       obtain ⟨c26, h⟩ := ck_bind h
                       refine jY 18 [(2, vO 0 0 8 0 0), (3, vO 1 0 8 0 0), (6, vI y23), (120, vS e62 ((a0_6.getD y23.toNat e65.d).1)), (126, vS e62 ((a1_6.getD y23.toNat e65.d).1))] ((0 ≤ y23 ∧ y23 < (a0_6.length : Int)) ∧ (0 ≤ y23 ∧ y23 < (a1_6.length : Int)) ∧ (True)) 12 [2, 3, 6, 120, 126] ⟨c25, c26, trivial⟩ ?_
                       obtain ⟨r27, gr27, h⟩ := bind_some h
                       refine jL 127 Tryd.call58 (p58 L _ _ _ gr27) ?_
                       refine jy 15 [(2, vO 0 0 8 0 0), (3, vO 1 0 8 0 0), (6, vI y23), (129, vB (!r27))] 2 [2, 3, 6, 129] ?_
                       obtain ⟨y28, gy28, h⟩ := bind_some h
                       refine WQ_join 0 30 [(2, vO 0 0 8 0 0), (3, vO 1 0 8 0 0), (6, vI y23), (144, vB y28)] ?_ ?_
                       · clear gy28
                         refine WQ_done ?_
                         refine jg [(2, vO 0 0 8 0 0), (3, vO 1 0 8 0 0), (6, vI y23), (144, vB y28)] 0 [2, 3, 6, 144] ?_
                         refine thenQ_n ?_
                         refine jc y28 (fun hb => ?_) (fun hb => ?_)
                         · have h := cond_t hb h
                           refine js ?_
                           refine jr ?_
                           refine jg [(4, vB false)] 1 [4] ?_
                           refine thenQ_n ?_
                           refine jt ?_
                           refine blockQ_r ?_
                           refine thenQ_r ?_
                           obtain rfl := si h; refine round_r rfl (fun hb => ?_); subst hb; have h := kb24; dsimp only at h
                           refine blockQ_r ?_
                           obtain rfl := si h; have h := ky10; dsimp only at h; refine thenQ_r ?_
                           obtain rfl := si h
                           exact jq [vB false]
                         · have h := cond_f hb h
                           refine jk ?_
                           refine blockQ_n ?_
                           refine thenQ_n ?_
                           refine jr ?_
                           obtain ⟨c29, h⟩ := ck_bind h
                           refine jG [(2, vO 0 0 8 0 0), (3, vO 1 0 8 0 0), (6, vI (y23 + (1 : Int)))] ((inR .i64 (y23 + (1 : Int))) ∧ (True)) 3 [2, 3, 6] ⟨c29, trivial⟩ ?_
                           obtain rfl := si h
                           exact round_n _ rfl (jE [.keep [2, 3, 6], .take 2])
                       · intro J
                         clear h
                         rcases Bool.eq_false_or_eq_true (!r27) with hb | hb
                         · have h := cond_t hb gy28; clear gy28
                           refine jD 129 hb ?_
                           obtain rfl := si h
                           refine jy 0 [(2, vO 0 0 8 0 0), (3, vO 1 0 8 0 0), (6, vI y23), (144, vB true)] 15 [2, 3, 6, 144] J
                         · have h := cond_f hb gy28; clear gy28
                           refine jD 129 hb ?_
                           obtain ⟨c30, h⟩ := ck_bind h
                           obtain ⟨c31, h⟩ := ck_bind h
                           refine jY 3 [(2, vO 0 0 8 0 0), (3, vO 1 0 8 0 0), (6, vI y23), (129, vB false), (130, vO 0 0 8 0 6), (131, vS e65 a0_6), (132, vI y23), (133, .cell (.c (ptC e65 a0_6 y23 0))), (134, .cell (.c (ptC e65 a0_6 y23 1))), (135, vS e62 ((a0_6.getD y23.toNat e65.d).2)), (136, vO 1 0 8 0 6), (137, vS e65 a1_6), (138, vI y23), (139, .cell (.c (ptC e65 a1_6 y23 0))), (140, .cell (.c (ptC e65 a1_6 y23 1))), (141, vS e62 ((a1_6.getD y23.toNat e65.d).2))] ((0 ≤ y23 ∧ y23 < (a0_6.length : Int)) ∧ (0 ≤ y23 ∧ y23 < (a1_6.length : Int)) ∧ (True)) 12 [2, 3, 6, 129, 130, 131, 132, 133, 134, 135, 136, 137, 138, 139, 140, 141] ⟨c30, c31, trivial⟩ ?_
                           obtain ⟨r32, gr32, h⟩ := bind_some h
                           refine jL 142 Tryd.call58 (p58 L _ _ _ gr32) ?_
                           refine jy 1 [(2, vO 0 0 8 0 0), (3, vO 1 0 8 0 0), (6, vI y23), (129, vB false), (130, vO 0 0 8 0 6), (131, vS e65 a0_6), (132, vI y23), (133, .cell (.c (ptC e65 a0_6 y23 0))), (134, .cell (.c (ptC e65 a0_6 y23 1))), (135, vS e62 ((a0_6.getD y23.toNat e65.d).2)), (136, vO 1 0 8 0 6), (137, vS e65 a1_6), (138, vI y23), (139, .cell (.c (ptC e65 a1_6 y23 0))), (140, .cell (.c (ptC e65 a1_6 y23 1))), (141, vS e62 ((a1_6.getD y23.toNat e65.d).2)), (142, vB r32), (143, vB (!r32))] 1 [2, 3, 6, 129, 130, 131, 132, 133, 134, 135, 136, 137, 138, 139, 140, 141, 142, 143] ?_
                           obtain rfl := si h
                           refine jy 0 [(2, vO 0 0 8 0 0), (3, vO 1 0 8 0 0), (6, vI y23), (144, vB (!r32))] 1 [2, 3, 6, 144] J
                     · have h := cond_f hb h
                       refine je 2 ?_
                       refine thenQ_e ?_
                       obtain rfl := si h; refine round_e rfl (fun hb => ?_); subst hb; have h := kb24; dsimp only at h
                       refine blockQ_hit ?_
                       obtain rfl := si h
                       exact thenQ_n ⟨_, rfl, jE [.keep [2, 3], .take 2]⟩
                 · have h := gy8; clear gy8
                   refine js ?_
                   refine jr ?_
                   refine jg [(2, vO 0 0 8 0 0), (3, vO 1 0 8 0 0), (5, vI 0)] 1 [2, 3, 5] ?_
                   refine thenQ_n ?_
                   refine jb 0 ?_
                   obtain ⟨b34, gb34, kb34⟩ := bind_some h
                   refine W_loop_at (S := fun (y33 : Int) => ([bL 27 [aI a0_0, aI a0_1, aI a0_2, aI a0_3, aS e28 a0_4, aS e72 a0_5, aS e65 a0_6, aS e77 a0_7], bL 27 [aI a1_0, aI a1_1, aI a1_2, aI a1_3, aS e28 a1_4, aS e72 a1_5, aS e65 a1_6, aS e77 a1_7]], [(2, vO 0 0 8 0 0), (3, vO 1 0 8 0 0), (5, vI y33)])) (step := _) (x0 := (0 : Int)) (b := b34) (L.ok _ _ _ gb34) (by kernel_rfl) (jE [.keep [2, 3, 5], .take 2]) ?_
                   clear gb34 h; intro y33 o h; unfold s17_2 at h
                   refine js ?_
                   refine js ?_
                   refine jr ?_
                   refine jg [(2, vO 0 0 8 0 0), (3, vO 1 0 8 0 0), (5, vI y33), (76, vB (decide (y33 < (a0_5.length : Int))))] 5 [2, 3, 5, 76] ?_
                   refine thenQ_n ?_
                   refine jc (decide (y33 < (a0_5.length : Int))) (fun hb => ?_) (fun hb => ?_)
                   · have h := cond_t hb h
                     refine jk ?_
                     refine thenQ_n ?_
                     refine js ?_
                     refine jb 1 ?_
                     refine js ?_
                     refine jdr 29 mixed ?_
                     obtain ⟨c35, h⟩ := ck_bind h
                     obtain ⟨c36, h⟩ := ck_bind h
                     refine jY 15 [(2, vO 0 0 8 0 0), (3, vO 1 0 8 0 0), (5, vI y33), (92, vB (!(decide (((a0_5.getD y33.toNat e72.d).1) = ((a1_5.getD y33.toNat e72.d).1)))))] ((0 ≤ y33 ∧ y33 < (a0_5.length : Int)) ∧ (0 ≤ y33 ∧ y33 < (a1_5.length : Int)) ∧ (True)) 14 [2, 3, 5, 92] ⟨c35, c36, trivial⟩ ?_
                     obtain ⟨y37, gy37, h⟩ := bind_some h
                     refine WQ_join 0 29 [(2, vO 0 0 8 0 0), (3, vO 1 0 8 0 0), (5, vI y33), (107, vB y37)] ?_ ?_
                     · clear gy37
                       refine WQ_done ?_
                       refine jg [(2, vO 0 0 8 0 0), (3, vO 1 0 8 0 0), (5, vI y33), (107, vB y37)] 0 [2, 3, 5, 107] ?_
                       refine thenQ_n ?_
                       refine jc y37 (fun hb => ?_) (fun hb => ?_)
                       · have h := cond_t hb h
                         refine js ?_
                         refine jr ?_
                         refine jg [(4, vB false)] 1 [4] ?_
                         refine thenQ_n ?_
                         refine jt ?_
                         refine blockQ_r ?_
                         refine thenQ_r ?_
                         obtain rfl := si h; refine round_r rfl (fun hb => ?_); subst hb; have h := kb34; dsimp only at h
                         refine blockQ_r ?_
                         obtain rfl := si h; have h := ky8; dsimp only at h; refine thenQ_r ?_
                         obtain rfl := si h
                         exact jq [vB false]
                       · have h := cond_f hb h
                         refine jk ?_
                         refine blockQ_n ?_
                         refine thenQ_n ?_
                         refine jr ?_
                         obtain ⟨c38, h⟩ := ck_bind h
                         refine jG [(2, vO 0 0 8 0 0), (3, vO 1 0 8 0 0), (5, vI (y33 + (1 : Int)))] ((inR .i64 (y33 + (1 : Int))) ∧ (True)) 3 [2, 3, 5] ⟨c38, trivial⟩ ?_
                         obtain rfl := si h
                         exact round_n _ rfl (jE [.keep [2, 3, 5], .take 2])
                     · intro J
                       clear h
                       rcases Bool.eq_false_or_eq_true (!(decide (((a0_5.getD y33.toNat e72.d).1) = ((a1_5.getD y33.toNat e72.d).1)))) with hb | hb
                       · have h := cond_t hb gy37; clear gy37
                         refine jD 92 hb ?_
                         obtain rfl := si h
                         refine jy 0 [(2, vO 0 0 8 0 0), (3, vO 1 0 8 0 0), (5, vI y33), (107, vB true)] 15 [2, 3, 5, 107] J
                       · have h := cond_f hb gy37; clear gy37
                         refine jD 92 hb ?_
                         obtain ⟨c39, h⟩ := ck_bind h
                         obtain ⟨c40, h⟩ := ck_bind h
                         refine jY 3 [(2, vO 0 0 8 0 0), (3, vO 1 0 8 0 0), (5, vI y33), (92, vB false), (93, vO 0 0 8 0 5), (94, vS e72 a0_5), (95, vI y33), (96, .cell (.c (ptC e72 a0_5 y33 0))), (97, .cell (.c (ptC e72 a0_5 y33 1))), (98, vS e74 ((a0_5.getD y33.toNat e72.d).2)), (99, vO 1 0 8 0 5), (100, vS e72 a1_5), (101, vI y33), (102, .cell (.c (ptC e72 a1_5 y33 0))), (103, .cell (.c (ptC e72 a1_5 y33 1))), (104, vS e74 ((a1_5.getD y33.toNat e72.d).2))] ((0 ≤ y33 ∧ y33 < (a0_5.length : Int)) ∧ (0 ≤ y33 ∧ y33 < (a1_5.length : Int)) ∧ (True)) 12 [2, 3, 5, 92, 93, 94, 95, 96, 97, 98, 99, 100, 101, 102, 103, 104] ⟨c39, c40, trivial⟩ ?_
                         obtain ⟨r41, gr41, h⟩ := bind_some h
                         refine jL 105 Tryd.call57 (p57 L _ _ _ gr41) ?_
                         refine jy 1 [(2, vO 0 0 8 0 0), (3, vO 1 0 8 0 0), (5, vI y33), (92, vB false), (93, vO 0 0 8 0 5), (94, vS e72 a0_5), (95, vI y33), (96, .cell (.c (ptC e72 a0_5 y33 0))), (97, .cell (.c (ptC e72 a0_5 y33 1))), (98, vS e74 ((a0_5.getD y33.toNat e72.d).2)), (99, vO 1 0 8 0 5), (100, vS e72 a1_5), (101, vI y33), (102, .cell (.c (ptC e72 a1_5 y33 0))), (103, .cell (.c (ptC e72 a1_5 y33 1))), (104, vS e74 ((a1_5.getD y33.toNat e72.d).2)), (105, vB r41), (106, vB (!r41))] 1 [2, 3, 5, 92, 93, 94, 95, 96, 97, 98, 99, 100, 101, 102, 103, 104, 105, 106] ?_
                         obtain rfl := si h
                         refine jy 0 [(2, vO 0 0 8 0 0), (3, vO 1 0 8 0 0), (5, vI y33), (107, vB (!r41))] 1 [2, 3, 5, 107] J
                   · have h := cond_f hb h
                     refine je 0 ?_
                     refine thenQ_e ?_
                     obtain rfl := si h; refine round_e rfl (fun hb => ?_); subst hb; have h := kb34; dsimp only at h
                     refine blockQ_hit ?_
                     obtain rfl := si h
                     exact thenQ_n ⟨_, rfl, jE [.keep [2, 3], .take 2]⟩
             · intro J
               clear h
               rcases Bool.eq_false_or_eq_true y6 with hb | hb
               · have h := cond_t hb gy7; clear gy7
                 refine jd 63 hb ?_
                 obtain rfl := si h
                 refine jh [(2, vO 0 0 8 0 0), (3, vO 1 0 8 0 0), (71, vB true)] 8 [2, 3, 71] J
               · have h := cond_f hb gy7; clear gy7
                 refine jd 63 hb ?_
                 refine jh [(2, vO 0 0 8 0 0), (3, vO 1 0 8 0 0), (63, vB false), (70, vB (!(decide ((a0_7.length : Int) = (a1_7.length : Int)))))] 7 [2, 3, 63, 70] ?_
                 obtain rfl := si h
                 refine jh [(2, vO 0 0 8 0 0), (3, vO 1 0 8 0 0), (71, vB (!(decide ((a0_7.length : Int) = (a1_7.length : Int)))))] 1 [2, 3, 71] J
           · intro J
             clear h
             rcases Bool.eq_false_or_eq_true y5 with hb | hb
             · have h := cond_t hb gy6; clear gy6
               refine jd 54 hb ?_
               obtain rfl := si h
               refine jh [(2, vO 0 0 8 0 0), (3, vO 1 0 8 0 0), (62, vB true)] 8 [2, 3, 62] J
             · have h := cond_f hb gy6; clear gy6
               refine jd 54 hb ?_
               refine jh [(2, vO 0 0 8 0 0), (3, vO 1 0 8 0 0), (54, vB false), (61, vB (!(decide ((a0_6.length : Int) = (a1_6.length : Int)))))] 7 [2, 3, 54, 61] ?_
               obtain rfl := si h
               refine jh [(2, vO 0 0 8 0 0), (3, vO 1 0 8 0 0), (62, vB (!(decide ((a0_6.length : Int) = (a1_6.length : Int)))))] 1 [2, 3, 62] J
         · intro J
           clear h
           rcases Bool.eq_false_or_eq_true y4 with hb | hb
           · have h := cond_t hb gy5; clear gy5
             refine jd 45 hb ?_
             obtain rfl := si h
             refine jh [(2, vO 0 0 8 0 0), (3, vO 1 0 8 0 0), (53, vB true)] 8 [2, 3, 53] J
           · have h := cond_f hb gy5; clear gy5
             refine jd 45 hb ?_
             refine jh [(2, vO 0 0 8 0 0), (3, vO 1 0 8 0 0), (45, vB false), (52, vB (!(decide ((a0_5.length : Int) = (a1_5.length : Int)))))] 7 [2, 3, 45, 52] ?_
             obtain rfl := si h
             refine jh [(2, vO 0 0 8 0 0), (3, vO 1 0 8 0 0), (53, vB (!(decide ((a0_5.length : Int) = (a1_5.length : Int)))))] 1 [2, 3, 53] J
       · intro J
         clear h
         rcases Bool.eq_false_or_eq_true y3 with hb | hb
         · have h := cond_t hb gy4; clear gy4
           refine jd 36 hb ?_
           obtain rfl := si h
           refine jh [(2, vO 0 0 8 0 0), (3, vO 1 0 8 0 0), (44, vB true)] 8 [2, 3, 44] J
         · have h := cond_f hb gy4; clear gy4
           refine jd 36 hb ?_
           refine jh [(2, vO 0 0 8 0 0), (3, vO 1 0 8 0 0), (36, vB false), (43, vB (!(decide ((a0_4.length : Int) = (a1_4.length : Int)))))] 7 [2, 3, 36, 43] ?_
           obtain rfl := si h
           refine jh [(2, vO 0 0 8 0 0), (3, vO 1 0 8 0 0), (44, vB (!(decide ((a0_4.length : Int) = (a1_4.length : Int)))))] 1 [2, 3, 44] J
     · intro J
       clear h
       rcases Bool.eq_false_or_eq_true y2 with hb | hb
       · have h := cond_t hb gy3; clear gy3
         refine jd 29 hb ?_
         obtain rfl := si h
         refine jh [(2, vO 0 0 8 0 0), (3, vO 1 0 8 0 0), (35, vB true)] 6 [2, 3, 35] J
       · have h := cond_f hb gy3; clear gy3
         refine jd 29 hb ?_
         refine jh [(2, vO 0 0 8 0 0), (3, vO 1 0 8 0 0), (29, vB false), (34, vB (!(decide (a0_3 = a1_3))))] 5 [2, 3, 29, 34] ?_
         obtain rfl := si h
         refine jh [(2, vO 0 0 8 0 0), (3, vO 1 0 8 0 0), (35, vB (!(decide (a0_3 = a1_3))))] 1 [2, 3, 35] J
   · intro J
     clear h
     rcases Bool.eq_false_or_eq_true y1 with hb | hb
     · have h := cond_t hb gy2; clear gy2
       refine jd 22 hb ?_
       obtain rfl := si h
       refine jh [(2, vO 0 0 8 0 0), (3, vO 1 0 8 0 0), (28, vB true)] 6 [2, 3, 28] J
     · have h := cond_f hb gy2; clear gy2
       refine jd 22 hb ?_
       refine jh [(2, vO 0 0 8 0 0), (3, vO 1 0 8 0 0), (22, vB false), (27, vB (!(decide (a0_2 = a1_2))))] 5 [2, 3, 22, 27] ?_
       obtain rfl := si h
       refine jh [(2, vO 0 0 8 0 0), (3, vO 1 0 8 0 0), (28, vB (!(decide (a0_2 = a1_2))))] 1 [2, 3, 28] J
 · intro J
   clear h
   rcases Bool.eq_false_or_eq_true (!(decide (a0_0 = a1_0))) with hb | hb
   · have h := cond_t hb gy1; clear gy1
     refine jd 15 hb ?_
     obtain rfl := si h
     refine jh [(2, vO 0 0 8 0 0), (3, vO 1 0 8 0 0), (21, vB true)] 6 [2, 3, 21] J
   · have h := cond_f hb gy1; clear gy1
     refine jd 15 hb ?_
     refine jh [(2, vO 0 0 8 0 0), (3, vO 1 0 8 0 0), (15, vB false), (20, vB (!(decide (a0_1 = a1_1))))] 5 [2, 3, 15, 20] ?_
     obtain rfl := si h
     refine jh [(2, vO 0 0 8 0 0), (3, vO 1 0 8 0 0), (21, vB (!(decide (a0_1 = a1_1))))] 1 [2, 3, 21] J

/- attestorlaw13.SystemWords -/
def s4 (L : LP) (a0_0 : Int) (a0_1 : Int) (a0_2 : Int) (a0_3 : Int) (a0_4 : (List (List Int))) (a0_5 : (List (Int × (List (Int × (List (Int × Int))))))) (a0_6 : (List ((List (List (Int × Int))) × (List (List (Int × Int)))))) (a0_7 : (List ((List (Int × Int)) × (List (Int × Int)) × Int × Int))) (a1_0 : Int) (a1_1 : Int) (a1_2 : Int) (a1_3 : Int) (a1_4 : (List (List Int))) (a1_5 : (List (Int × (List (Int × (List (Int × Int))))))) (a1_6 : (List ((List (List (Int × Int))) × (List (List (Int × Int)))))) (a1_7 : (List ((List (Int × Int)) × (List (Int × Int)) × Int × Int))) : Option Bool :=
  (s9 L a0_0 a0_1 a0_2 a0_3 a0_4 a0_5 a0_6 a0_7).bind fun r1 =>
  (bif (!r1) then some true
  else (s9 L a1_0 a1_1 a1_2 a1_3 a1_4 a1_5 a1_6 a1_7).bind fun r14 =>
  some (!r14)).bind fun y2 =>
  (bif y2 then some true
  else (s15 L a0_0 a0_1 a0_2 a0_3 a0_4 a0_5 a0_6 a0_7).bind fun r13 =>
  some (!r13)).bind fun y3 =>
  (bif y3 then some true
  else (s15 L a1_0 a1_1 a1_2 a1_3 a1_4 a1_5 a1_6 a1_7).bind fun r12 =>
  some (!r12)).bind fun y4 =>
  (bif y4 then
  (s11 L).bind fun r5 =>
  some r5
  else (s16 L a0_0 a0_1 a0_2 a0_3 a0_4 a0_5 a0_6 a0_7).bind fun r6 =>
  (s16 L a1_0 a1_1 a1_2 a1_3 a1_4 a1_5 a1_6 a1_7).bind fun r7 =>
  (s14 L r6 r7).bind fun r8 =>
  (s17 L a0_0 a0_1 a0_2 a0_3 a0_4 a0_5 a0_6 a0_7 a1_0 a1_1 a1_2 a1_3 a1_4 a1_5 a1_6 a1_7).bind fun r9 =>
  (bif (r8 == r9) then (s11 L).bind fun r11 =>
  some r11
  else some false).bind fun y10 =>
  some y10)
theorem p4 (L : LP) (a0_0 : Int) (a0_1 : Int) (a0_2 : Int) (a0_3 : Int) (a0_4 : (List (List Int))) (a0_5 : (List (Int × (List (Int × (List (Int × Int))))))) (a0_6 : (List ((List (List (Int × Int))) × (List (List (Int × Int)))))) (a0_7 : (List ((List (Int × Int)) × (List (Int × Int)) × Int × Int))) (a1_0 : Int) (a1_1 : Int) (a1_2 : Int) (a1_3 : Int) (a1_4 : (List (List Int))) (a1_5 : (List (Int × (List (Int × (List (Int × Int))))))) (a1_6 : (List ((List (List (Int × Int))) × (List (List (Int × Int)))))) (a1_7 : (List ((List (Int × Int)) × (List (Int × Int)) × Int × Int))) (r : Bool) (h : s4 L a0_0 a0_1 a0_2 a0_3 a0_4 a0_5 a0_6 a0_7 a1_0 a1_1 a1_2 a1_3 a1_4 a1_5 a1_6 a1_7 = some r) : Pure X 4 [.agg [aI a0_0, aI a0_1, aI a0_2, aI a0_3, aS e28 a0_4, aS e72 a0_5, aS e65 a0_6, aS e77 a0_7], .agg [aI a1_0, aI a1_1, aI a1_2, aI a1_3, aS e28 a1_4, aS e72 a1_5, aS e65 a1_6, aS e77 a1_7]] (vB r) := by
 refine Pure_of_W (c := cd Tryd.f4 []) Tryd.func4 (by kernel_rfl) (N := 36) (by kernel_rfl) (Nat.le_of_ble_eq_true (by kernel_rfl)) ?_
 unfold s4 at h
 refine js ?_
 refine jr ?_
 refine jf [bL 27 [aI a0_0, aI a0_1, aI a0_2, aI a0_3, aS e28 a0_4, aS e72 a0_5, aS e65 a0_6, aS e77 a0_7], bL 27 [aI a1_0, aI a1_1, aI a1_2, aI a1_3, aS e28 a1_4, aS e72 a1_5, aS e65 a1_6, aS e77 a1_7]] [(2, vO 0 0 8 0 0), (3, vO 1 0 8 0 0)] 3 [2, 3] ?_
 refine thenQ_n ?_
 refine js ?_
 refine js ?_
 refine jr ?_
 refine jh [(2, vO 0 0 8 0 0), (3, vO 1 0 8 0 0), (5, .agg [aI a0_0, aI a0_1, aI a0_2, aI a0_3, aS e28 a0_4, aS e72 a0_5, aS e65 a0_6, aS e77 a0_7])] 1 [2, 3, 5] ?_
 obtain ⟨r1, gr1, h⟩ := bind_some h
 refine jl 6 Tryd.call9 (p9 L _ _ _ _ _ _ _ _ _ gr1) ?_
 refine jh [(2, vO 0 0 8 0 0), (3, vO 1 0 8 0 0), (8, vB (!r1))] 2 [2, 3, 8] ?_
 obtain ⟨y2, gy2, h⟩ := bind_some h
 refine jj 8 [(2, vO 0 0 8 0 0), (3, vO 1 0 8 0 0), (12, vB y2)] ?_ ?_
 · clear gy2
   refine jh [(2, vO 0 0 8 0 0), (3, vO 1 0 8 0 0), (13, vB y2)] 1 [2, 3, 13] ?_
   obtain ⟨y3, gy3, h⟩ := bind_some h
   refine jj 13 [(2, vO 0 0 8 0 0), (3, vO 1 0 8 0 0), (17, vB y3)] ?_ ?_
   · clear gy3
     refine jh [(2, vO 0 0 8 0 0), (3, vO 1 0 8 0 0), (18, vB y3)] 1 [2, 3, 18] ?_
     obtain ⟨y4, gy4, h⟩ := bind_some h
     refine jj 18 [(2, vO 0 0 8 0 0), (3, vO 1 0 8 0 0), (22, vB y4)] ?_ ?_
     · clear gy4
       refine jg [(2, vO 0 0 8 0 0), (3, vO 1 0 8 0 0), (22, vB y4)] 0 [2, 3, 22] ?_
       refine thenQ_n ?_
       refine jc y4 (fun hb => ?_) (fun hb => ?_)
       · have h := cond_t hb h
         refine js ?_
         refine jr ?_
         obtain ⟨r5, gr5, h⟩ := bind_some h
         refine jl 23 Tryd.call11 (p11 L  _ gr5) ?_
         refine jg [(4, vB r5)] 1 [4] ?_
         refine thenQ_n ?_
         refine jt ?_
         refine thenQ_r ?_
         obtain rfl := si h
         exact jq [vB r5]
       · have h := cond_f hb h
         refine jk ?_
         refine thenQ_n ?_
         refine js ?_
         refine jdr 7 mixed ?_
         refine jy 6 [(2, vO 0 0 8 0 0), (3, vO 1 0 8 0 0), (24, .agg [aI a0_0, aI a0_1, aI a0_2, aI a0_3, aS e28 a0_4, aS e72 a0_5, aS e65 a0_6, aS e77 a0_7])] 1 [2, 3, 24] ?_
         obtain ⟨r6, gr6, h⟩ := bind_some h
         refine jL 25 Tryd.call16 (p16 L _ _ _ _ _ _ _ _ _ gr6) ?_
         refine jy 4 [(2, vO 0 0 8 0 0), (3, vO 1 0 8 0 0), (25, vS e44 r6), (26, .agg [aI a1_0, aI a1_1, aI a1_2, aI a1_3, aS e28 a1_4, aS e72 a1_5, aS e65 a1_6, aS e77 a1_7])] 1 [2, 3, 25, 26] ?_
         obtain ⟨r7, gr7, h⟩ := bind_some h
         refine jL 27 Tryd.call16 (p16 L _ _ _ _ _ _ _ _ _ gr7) ?_
         obtain ⟨r8, gr8, h⟩ := bind_some h
         refine jL 28 Tryd.call14 (p14 L _ _ _ gr8) ?_
         refine jy 0 [(28, vB r8), (29, .agg [aI a0_0, aI a0_1, aI a0_2, aI a0_3, aS e28 a0_4, aS e72 a0_5, aS e65 a0_6, aS e77 a0_7]), (30, .agg [aI a1_0, aI a1_1, aI a1_2, aI a1_3, aS e28 a1_4, aS e72 a1_5, aS e65 a1_6, aS e77 a1_7])] 2 [28, 29, 30] ?_
         refine WQ_done ?_
         obtain ⟨r9, gr9, h⟩ := bind_some h
         refine jl 31 Tryd.call17 (p17 L _ _ _ _ _ _ _ _ _ _ _ _ _ _ _ _ _ gr9) ?_
         refine jh [(33, vB (r8 == r9))] 2 [33] ?_
         obtain ⟨y10, gy10, h⟩ := bind_some h
         refine jj 12 [(35, vB y10)] ?_ ?_
         · clear gy10
           refine jg [(4, vB y10)] 1 [4] ?_
           refine thenQ_n ?_
           refine jt ?_
           obtain rfl := si h
           exact jq [vB y10]
         · intro J
           clear h
           rcases Bool.eq_false_or_eq_true (r8 == r9) with hb | hb
           · have h := cond_t hb gy10; clear gy10
             refine jd 33 hb ?_
             obtain ⟨r11, gr11, h⟩ := bind_some h
             refine jl 34 Tryd.call11 (p11 L  _ gr11) ?_
             obtain rfl := si h
             refine jh [(35, vB r11)] 1 [35] J
           · have h := cond_f hb gy10; clear gy10
             refine jd 33 hb ?_
             obtain rfl := si h
             refine jh [(35, vB false)] 2 [35] J
     · intro J
       clear h
       rcases Bool.eq_false_or_eq_true y3 with hb | hb
       · have h := cond_t hb gy4; clear gy4
         refine jd 18 hb ?_
         obtain rfl := si h
         refine jh [(2, vO 0 0 8 0 0), (3, vO 1 0 8 0 0), (22, vB true)] 4 [2, 3, 22] J
       · have h := cond_f hb gy4; clear gy4
         refine jd 18 hb ?_
         refine jh [(2, vO 0 0 8 0 0), (3, vO 1 0 8 0 0), (18, vB false), (19, .agg [aI a1_0, aI a1_1, aI a1_2, aI a1_3, aS e28 a1_4, aS e72 a1_5, aS e65 a1_6, aS e77 a1_7])] 1 [2, 3, 18, 19] ?_
         obtain ⟨r12, gr12, h⟩ := bind_some h
         refine jl 20 Tryd.call15 (p15 L _ _ _ _ _ _ _ _ _ gr12) ?_
         refine jh [(2, vO 0 0 8 0 0), (3, vO 1 0 8 0 0), (18, vB false), (21, vB (!r12))] 1 [2, 3, 18, 21] ?_
         obtain rfl := si h
         refine jh [(2, vO 0 0 8 0 0), (3, vO 1 0 8 0 0), (22, vB (!r12))] 1 [2, 3, 22] J
   · intro J
     clear h
     rcases Bool.eq_false_or_eq_true y2 with hb | hb
     · have h := cond_t hb gy3; clear gy3
       refine jd 13 hb ?_
       obtain rfl := si h
       refine jh [(2, vO 0 0 8 0 0), (3, vO 1 0 8 0 0), (17, vB true)] 4 [2, 3, 17] J
     · have h := cond_f hb gy3; clear gy3
       refine jd 13 hb ?_
       refine jh [(2, vO 0 0 8 0 0), (3, vO 1 0 8 0 0), (13, vB false), (14, .agg [aI a0_0, aI a0_1, aI a0_2, aI a0_3, aS e28 a0_4, aS e72 a0_5, aS e65 a0_6, aS e77 a0_7])] 1 [2, 3, 13, 14] ?_
       obtain ⟨r13, gr13, h⟩ := bind_some h
       refine jl 15 Tryd.call15 (p15 L _ _ _ _ _ _ _ _ _ gr13) ?_
       refine jh [(2, vO 0 0 8 0 0), (3, vO 1 0 8 0 0), (13, vB false), (16, vB (!r13))] 1 [2, 3, 13, 16] ?_
       obtain rfl := si h
       refine jh [(2, vO 0 0 8 0 0), (3, vO 1 0 8 0 0), (17, vB (!r13))] 1 [2, 3, 17] J
 · intro J
   clear h
   rcases Bool.eq_false_or_eq_true (!r1) with hb | hb
   · have h := cond_t hb gy2; clear gy2
     refine jd 8 hb ?_
     obtain rfl := si h
     refine jh [(2, vO 0 0 8 0 0), (3, vO 1 0 8 0 0), (12, vB true)] 4 [2, 3, 12] J
   · have h := cond_f hb gy2; clear gy2
     refine jd 8 hb ?_
     refine jh [(2, vO 0 0 8 0 0), (3, vO 1 0 8 0 0), (8, vB false), (9, .agg [aI a1_0, aI a1_1, aI a1_2, aI a1_3, aS e28 a1_4, aS e72 a1_5, aS e65 a1_6, aS e77 a1_7])] 1 [2, 3, 8, 9] ?_
     obtain ⟨r14, gr14, h⟩ := bind_some h
     refine jl 10 Tryd.call9 (p9 L _ _ _ _ _ _ _ _ _ gr14) ?_
     refine jh [(2, vO 0 0 8 0 0), (3, vO 1 0 8 0 0), (8, vB false), (11, vB (!r14))] 1 [2, 3, 8, 11] ?_
     obtain rfl := si h
     refine jh [(2, vO 0 0 8 0 0), (3, vO 1 0 8 0 0), (12, vB (!r14))] 1 [2, 3, 12] J

/- system.Degree -/
def s19_0 (L : LP) (a0_6 : (List ((List (List (Int × Int))) × (List (List (Int × Int)))))) (y5 : (Int × Int)) : Option ((Int × Int) ⊕ Int) :=
  (bif (decide (y5.2 < (a0_6.length : Int))) then
  (ck (0 ≤ y5.2 ∧ y5.2 < (a0_6.length : Int))).bind fun _ =>
  (ck (inR .i64 ((((a0_6.getD y5.2.toNat e65.d).1).length : Int) + (1 : Int)))).bind fun _ =>
  (ck (inR .i64 (y5.2 + (1 : Int)))).bind fun _ =>
  some (.inl ((if ((((a0_6.getD y5.2.toNat e65.d).1).length : Int) + (1 : Int)) > y5.1 then ((((a0_6.getD y5.2.toNat e65.d).1).length : Int) + (1 : Int)) else y5.1), (y5.2 + (1 : Int))))
  else some (.inr y5.1))
def s19_1 (L : LP) (a0_5 : (List (Int × (List (Int × (List (Int × Int))))))) (y10 : (Int × Int)) : Option ((Int × Int) ⊕ Int) :=
  (bif (decide (y10.2 < (a0_5.length : Int))) then
  (ck (0 ≤ y10.2 ∧ y10.2 < (a0_5.length : Int))).bind fun _ =>
  (s66 L ((a0_5.getD y10.2.toNat e72.d).2)).bind fun r13 =>
  (ck (inR .i64 (y10.2 + (1 : Int)))).bind fun _ =>
  some (.inl ((if r13 > y10.1 then r13 else y10.1), (y10.2 + (1 : Int))))
  else some (.inr y10.1))
def s19 (L : LP) (a0_0 : Int) (a0_1 : Int) (a0_2 : Int) (a0_3 : Int) (a0_4 : (List (List Int))) (a0_5 : (List (Int × (List (Int × (List (Int × Int))))))) (a0_6 : (List ((List (List (Int × Int))) × (List (List (Int × Int)))))) (a0_7 : (List ((List (Int × Int)) × (List (Int × Int)) × Int × Int))) : Option Int :=
  (s18 L a0_0 a0_1 a0_2 a0_3 a0_4 a0_5 a0_6 a0_7).bind fun r1 =>
  (bif (!r1) then
  some (0 : Int)
  else ((L.run (s19_1 L a0_5) ((1 : Int), (0 : Int))).bind (fun (v : Int) => some v)).bind fun (y2 : Int) =>
  ((L.run (s19_0 L a0_6) (y2, (0 : Int))).bind (fun (v : Int) => some v)).bind fun (y3 : Int) =>
  ((bif (decide ((a0_7.length : Int) > (0 : Int))) then
  some (if (3 : Int) > y3 then (3 : Int) else y3)
  else some y3)).bind fun (y4 : Int) =>
  some y4)
theorem p19 (L : LP) (a0_0 : Int) (a0_1 : Int) (a0_2 : Int) (a0_3 : Int) (a0_4 : (List (List Int))) (a0_5 : (List (Int × (List (Int × (List (Int × Int))))))) (a0_6 : (List ((List (List (Int × Int))) × (List (List (Int × Int)))))) (a0_7 : (List ((List (Int × Int)) × (List (Int × Int)) × Int × Int))) (r : Int) (h : s19 L a0_0 a0_1 a0_2 a0_3 a0_4 a0_5 a0_6 a0_7 = some r) : Pure X 19 [.agg [aI a0_0, aI a0_1, aI a0_2, aI a0_3, aS e28 a0_4, aS e72 a0_5, aS e65 a0_6, aS e77 a0_7]] (vI r) := by
 refine Pure_of_W (c := cd Tryd.f19 []) Tryd.func19 (by kernel_rfl) (N := 45) (by kernel_rfl) (Nat.le_of_ble_eq_true (by kernel_rfl)) ?_
 unfold s19 at h
 refine js ?_
 refine jr ?_
 refine jf [bL 27 [aI a0_0, aI a0_1, aI a0_2, aI a0_3, aS e28 a0_4, aS e72 a0_5, aS e65 a0_6, aS e77 a0_7]] [(1, vO 0 0 8 0 0)] 2 [1] ?_
 refine thenQ_n ?_
 refine js ?_
 refine js ?_
 refine jr ?_
 refine jh [(1, vO 0 0 8 0 0), (8, .agg [aI a0_0, aI a0_1, aI a0_2, aI a0_3, aS e28 a0_4, aS e72 a0_5, aS e65 a0_6, aS e77 a0_7])] 1 [1, 8] ?_
 obtain ⟨r1, gr1, h⟩ := bind_some h
 refine jl 9 Tryd.call18 (p18 L _ _ _ _ _ _ _ _ _ gr1) ?_
 refine jg [(1, vO 0 0 8 0 0), (10, vB (!r1))] 1 [1, 10] ?_
 refine thenQ_n ?_
 refine jc (!r1) (fun hb => ?_) (fun hb => ?_)
 · have h := cond_t hb h
   refine js ?_
   refine jr ?_
   refine jg [(2, vI 0)] 1 [2] ?_
   refine thenQ_n ?_
   refine jt ?_
   refine thenQ_r ?_
   obtain rfl := si h
   exact jq [vI 0]
 · have h := cond_f hb h
   refine jk ?_
   refine thenQ_n ?_
   refine js ?_
   refine jr ?_
   refine jg [(1, vO 0 0 8 0 0), (3, vI 1)] 1 [1, 3] ?_
   refine thenQ_n ?_
   obtain ⟨y2, gy2, ky2⟩ := bind_some h
   refine W_cut (by kernel_rfl) [bL 27 [aI a0_0, aI a0_1, aI a0_2, aI a0_3, aS e28 a0_4, aS e72 a0_5, aS e65 a0_6, aS e77 a0_7]] [(1, vO 0 0 8 0 0), (3, vI y2)] ?_ ?_
   · have h := ky2; clear gy2 ky2
     obtain ⟨y3, gy3, ky3⟩ := bind_some h
     refine W_cut (by kernel_rfl) [bL 27 [aI a0_0, aI a0_1, aI a0_2, aI a0_3, aS e28 a0_4, aS e72 a0_5, aS e65 a0_6, aS e77 a0_7]] [(1, vO 0 0 8 0 0), (3, vI y3)] ?_ ?_
     · have h := ky3; clear gy3 ky3
       obtain ⟨y4, gy4, ky4⟩ := bind_some h
       refine W_cut (by kernel_rfl) [bL 27 [aI a0_0, aI a0_1, aI a0_2, aI a0_3, aS e28 a0_4, aS e72 a0_5, aS e65 a0_6, aS e77 a0_7]] [(3, vI y4)] ?_ ?_
       · have h := ky4; clear gy4 ky4
         refine js ?_
         refine jr ?_
         refine jg [(2, vI y4)] 2 [2] ?_
         refine thenQ_n ?_
         refine jt ?_
         obtain rfl := si h
         exact jq [vI y4]
       · have h := gy4; clear gy4 ky4
         refine js ?_
         refine jr ?_
         refine jg [(3, vI y3), (41, vB (decide ((a0_7.length : Int) > (0 : Int))))] 4 [3, 41] ?_
         refine thenQ_n ?_
         refine jc (decide ((a0_7.length : Int) > (0 : Int))) (fun hb => ?_) (fun hb => ?_)
         · have h := cond_t hb h
           refine jr ?_
           refine jg [(3, vI (if (3 : Int) > y3 then (3 : Int) else y3))] 3 [3] ?_
           obtain rfl := si h
           exact thenQ_n (jE [.keep [3], .take 1])
         · have h := cond_f hb h
           refine jk ?_
           obtain rfl := si h
           exact thenQ_n (jE [.keep [3], .take 1])
     · have h := gy3; clear gy3 ky3
       refine js ?_
       refine jr ?_
       refine jg [(1, vO 0 0 8 0 0), (3, vI y2), (25, vS e65 a0_6), (26, vI (a0_6.length : Int)), (27, vI 0)] 4 [1, 3, 25, 26, 27] ?_
       refine thenQ_n ?_
       refine jb 2 ?_
       obtain ⟨b6, gb6, kb6⟩ := bind_some h
       refine W_loop_at (S := fun (y5 : (Int × Int)) => ([bL 27 [aI a0_0, aI a0_1, aI a0_2, aI a0_3, aS e28 a0_4, aS e72 a0_5, aS e65 a0_6, aS e77 a0_7]], [(1, vO 0 0 8 0 0), (3, vI y5.1), (25, vS e65 a0_6), (26, vI (a0_6.length : Int)), (27, vI y5.2)])) (step := _) (x0 := (y2, (0 : Int))) (b := b6) (L.ok _ _ _ gb6) (by kernel_rfl) (jE [.keep [1, 3, 25, 26, 27], .take 1]) ?_
       clear gb6 h; intro y5 o h; unfold s19_0 at h
       refine js ?_
       refine jr ?_
       refine jg [(1, vO 0 0 8 0 0), (3, vI y5.1), (25, vS e65 a0_6), (26, vI (a0_6.length : Int)), (27, vI y5.2), (28, vB (decide (y5.2 < (a0_6.length : Int))))] 1 [1, 3, 25, 26, 27, 28] ?_
       refine thenQ_n ?_
       refine js ?_
       refine jc (decide (y5.2 < (a0_6.length : Int))) (fun hb => ?_) (fun hb => ?_)
       · have h := cond_t hb h
         refine jk ?_
         refine thenQ_n ?_
         refine js ?_
         refine jb 3 ?_
         refine js ?_
         refine jr ?_
         obtain ⟨c7, h⟩ := ck_bind h
         refine jF [bL 27 [aI a0_0, aI a0_1, aI a0_2, aI a0_3, aS e28 a0_4, aS e72 a0_5, aS e65 a0_6, aS e77 a0_7], bL 65 [aS e62 ((a0_6.getD y5.2.toNat e65.d).1), aS e62 ((a0_6.getD y5.2.toNat e65.d).2)]] [(1, vO 0 0 8 0 0), (3, vI y5.1), (7, vO 1 0 2 0 0), (25, vS e65 a0_6), (26, vI (a0_6.length : Int)), (27, vI y5.2)] ((0 ≤ y5.2 ∧ y5.2 < (a0_6.length : Int)) ∧ (True)) 4 [1, 3, 7, 25, 26, 27] ⟨c7, trivial⟩ ?_
         refine thenQ_n ?_
         refine jr ?_
         obtain ⟨c8, h⟩ := ck_bind h
         refine jG [(1, vO 0 0 8 0 0), (3, vI (if ((((a0_6.getD y5.2.toNat e65.d).1).length : Int) + (1 : Int)) > y5.1 then ((((a0_6.getD y5.2.toNat e65.d).1).length : Int) + (1 : Int)) else y5.1)), (25, vS e65 a0_6), (26, vI (a0_6.length : Int)), (27, vI y5.2)] ((inR .i64 ((((a0_6.getD y5.2.toNat e65.d).1).length : Int) + (1 : Int))) ∧ (True)) 7 [1, 3, 25, 26, 27] ⟨c8, trivial⟩ ?_
         refine blockQ_n ?_
         refine thenQ_n ?_
         refine jr ?_
         obtain ⟨c9, h⟩ := ck_bind h
         refine jG [(1, vO 0 0 8 0 0), (3, vI (if ((((a0_6.getD y5.2.toNat e65.d).1).length : Int) + (1 : Int)) > y5.1 then ((((a0_6.getD y5.2.toNat e65.d).1).length : Int) + (1 : Int)) else y5.1)), (25, vS e65 a0_6), (26, vI (a0_6.length : Int)), (27, vI (y5.2 + (1 : Int)))] ((inR .i64 (y5.2 + (1 : Int))) ∧ (True)) 2 [1, 3, 25, 26, 27] ⟨c9, trivial⟩ ?_
         obtain rfl := si h
         exact round_n _ rfl (jE [.keep [1, 3, 25, 26, 27], .take 1])
       · have h := cond_f hb h
         refine je 2 ?_
         refine thenQ_e ?_
         obtain rfl := si h; refine round_e rfl (fun hb => ?_); subst hb; have h := kb6
         refine blockQ_hit ?_
         obtain rfl := si h
         exact thenQ_n (jE [.keep [1, 3], .take 1])
   · have h := gy2; clear gy2 ky2
     refine js ?_
     refine jr ?_
     refine jg [(1, vO 0 0 8 0 0), (3, vI 1), (12, vS e72 a0_5), (13, vI (a0_5.length : Int)), (14, vI 0)] 4 [1, 3, 12, 13, 14] ?_
     refine thenQ_n ?_
     refine jb 0 ?_
     obtain ⟨b11, gb11, kb11⟩ := bind_some h
     refine W_loop_at (S := fun (y10 : (Int × Int)) => ([bL 27 [aI a0_0, aI a0_1, aI a0_2, aI a0_3, aS e28 a0_4, aS e72 a0_5, aS e65 a0_6, aS e77 a0_7]], [(1, vO 0 0 8 0 0), (3, vI y10.1), (12, vS e72 a0_5), (13, vI (a0_5.length : Int)), (14, vI y10.2)])) (step := _) (x0 := ((1 : Int), (0 : Int))) (b := b11) (L.ok _ _ _ gb11) (by kernel_rfl) (jE [.keep [1, 3, 12, 13, 14], .take 1]) ?_
     clear gb11 h; intro y10 o h; unfold s19_1 at h
     refine js ?_
     refine jr ?_
     refine jg [(1, vO 0 0 8 0 0), (3, vI y10.1), (12, vS e72 a0_5), (13, vI (a0_5.length : Int)), (14, vI y10.2), (15, vB (decide (y10.2 < (a0_5.length : Int))))] 1 [1, 3, 12, 13, 14, 15] ?_
     refine thenQ_n ?_
     refine js ?_
     refine jc (decide (y10.2 < (a0_5.length : Int))) (fun hb => ?_) (fun hb => ?_)
     · have h := cond_t hb h
       refine jk ?_
       refine thenQ_n ?_
       refine js ?_
       refine jb 1 ?_
       refine js ?_
       refine jr ?_
       obtain ⟨c12, h⟩ := ck_bind h
       refine jF [bL 27 [aI a0_0, aI a0_1, aI a0_2, aI a0_3, aS e28 a0_4, aS e72 a0_5, aS e65 a0_6, aS e77 a0_7], bL 72 [aY ((a0_5.getD y10.2.toNat e72.d).1), aS e74 ((a0_5.getD y10.2.toNat e72.d).2)]] [(1, vO 0 0 8 0 0), (3, vI y10.1), (5, vO 1 0 2 0 0), (12, vS e72 a0_5), (13, vI (a0_5.length : Int)), (14, vI y10.2)] ((0 ≤ y10.2 ∧ y10.2 < (a0_5.length : Int)) ∧ (True)) 4 [1, 3, 5, 12, 13, 14] ⟨c12, trivial⟩ ?_
       refine thenQ_n ?_
       refine jr ?_
       refine jh [(1, vO 0 0 8 0 0), (12, vS e72 a0_5), (13, vI (a0_5.length : Int)), (14, vI y10.2), (18, vI y10.1), (20, vS e74 ((a0_5.getD y10.2.toNat e72.d).2))] 3 [1, 12, 13, 14, 18, 20] ?_
       obtain ⟨r13, gr13, h⟩ := bind_some h
       refine jl 21 Tryd.call66 (p66 L _ _ gr13) ?_
       refine jg [(1, vO 0 0 8 0 0), (3, vI (if r13 > y10.1 then r13 else y10.1)), (12, vS e72 a0_5), (13, vI (a0_5.length : Int)), (14, vI y10.2)] 2 [1, 3, 12, 13, 14] ?_
       refine blockQ_n ?_
       refine thenQ_n ?_
       refine jr ?_
       obtain ⟨c14, h⟩ := ck_bind h
       refine jG [(1, vO 0 0 8 0 0), (3, vI (if r13 > y10.1 then r13 else y10.1)), (12, vS e72 a0_5), (13, vI (a0_5.length : Int)), (14, vI (y10.2 + (1 : Int)))] ((inR .i64 (y10.2 + (1 : Int))) ∧ (True)) 2 [1, 3, 12, 13, 14] ⟨c14, trivial⟩ ?_
       obtain rfl := si h
       exact round_n _ rfl (jE [.keep [1, 3, 12, 13, 14], .take 1])
     · have h := cond_f hb h
       refine je 0 ?_
       refine thenQ_e ?_
       obtain rfl := si h; refine round_e rfl (fun hb => ?_); subst hb; have h := kb11
       refine blockQ_hit ?_
       obtain rfl := si h
       exact thenQ_n (jE [.keep [1, 3], .take 1])

/- attestorref13.Degree -/
def s20_0 (L : LP) (a0_6 : (List ((List (List (Int × Int))) × (List (List (Int × Int)))))) (y5 : (Int × Int)) : Option ((Int × Int) ⊕ Int) :=
  (bif (decide (y5.2 < (a0_6.length : Int))) then
  (ck (0 ≤ y5.2 ∧ y5.2 < (a0_6.length : Int))).bind fun _ =>
  (ck (inR .i64 ((1 : Int) + (((a0_6.getD y5.2.toNat e65.d).1).length : Int)))).bind fun _ =>
  (ck (inR .i64 (y5.2 + (1 : Int)))).bind fun _ =>
  some (.inl ((if ((1 : Int) + (((a0_6.getD y5.2.toNat e65.d).1).length : Int)) > y5.1 then ((1 : Int) + (((a0_6.getD y5.2.toNat e65.d).1).length : Int)) else y5.1), (y5.2 + (1 : Int))))
  else some (.inr y5.1))
def s20_1 (L : LP) (a0_5 : (List (Int × (List (Int × (List (Int × Int))))))) (y10 : (Int × Int)) : Option ((Int × Int) ⊕ Int) :=
  (bif (decide (y10.2 < (a0_5.length : Int))) then
  (ck (0 ≤ y10.2 ∧ y10.2 < (a0_5.length : Int))).bind fun _ =>
  (s67 L ((a0_5.getD y10.2.toNat e72.d).2)).bind fun r13 =>
  (ck (inR .i64 (y10.2 + (1 : Int)))).bind fun _ =>
  some (.inl ((if r13 > y10.1 then r13 else y10.1), (y10.2 + (1 : Int))))
  else some (.inr y10.1))
def s20 (L : LP) (a0_0 : Int) (a0_1 : Int) (a0_2 : Int) (a0_3 : Int) (a0_4 : (List (List Int))) (a0_5 : (List (Int × (List (Int × (List (Int × Int))))))) (a0_6 : (List ((List (List (Int × Int))) × (List (List (Int × Int)))))) (a0_7 : (List ((List (Int × Int)) × (List (Int × Int)) × Int × Int))) : Option Int :=
  (s15 L a0_0 a0_1 a0_2 a0_3 a0_4 a0_5 a0_6 a0_7).bind fun r1 =>
  (bif (!r1) then
  some (0 : Int)
  else ((L.run (s20_1 L a0_5) ((1 : Int), (0 : Int))).bind (fun (v : Int) => some v)).bind fun (y2 : Int) =>
  ((L.run (s20_0 L a0_6) (y2, (0 : Int))).bind (fun (v : Int) => some v)).bind fun (y3 : Int) =>
  ((bif (decide ((a0_7.length : Int) > (0 : Int))) then
  some (if (3 : Int) > y3 then (3 : Int) else y3)
  else some y3)).bind fun (y4 : Int) =>
  some y4)
theorem p20 (L : LP) (a0_0 : Int) (a0_1 : Int) (a0_2 : Int) (a0_3 : Int) (a0_4 : (List (List Int))) (a0_5 : (List (Int × (List (Int × (List (Int × Int))))))) (a0_6 : (List ((List (List (Int × Int))) × (List (List (Int × Int)))))) (a0_7 : (List ((List (Int × Int)) × (List (Int × Int)) × Int × Int))) (r : Int) (h : s20 L a0_0 a0_1 a0_2 a0_3 a0_4 a0_5 a0_6 a0_7 = some r) : Pure X 20 [.agg [aI a0_0, aI a0_1, aI a0_2, aI a0_3, aS e28 a0_4, aS e72 a0_5, aS e65 a0_6, aS e77 a0_7]] (vI r) := by
 refine Pure_of_W (c := cd Tryd.f20 []) Tryd.func20 (by kernel_rfl) (N := 49) (by kernel_rfl) (Nat.le_of_ble_eq_true (by kernel_rfl)) ?_
 unfold s20 at h
 refine js ?_
 refine jr ?_
 refine jf [bL 27 [aI a0_0, aI a0_1, aI a0_2, aI a0_3, aS e28 a0_4, aS e72 a0_5, aS e65 a0_6, aS e77 a0_7]] [(1, vO 0 0 8 0 0)] 2 [1] ?_
 refine thenQ_n ?_
 refine js ?_
 refine js ?_
 refine jr ?_
 refine jh [(1, vO 0 0 8 0 0), (6, .agg [aI a0_0, aI a0_1, aI a0_2, aI a0_3, aS e28 a0_4, aS e72 a0_5, aS e65 a0_6, aS e77 a0_7])] 1 [1, 6] ?_
 obtain ⟨r1, gr1, h⟩ := bind_some h
 refine jl 7 Tryd.call15 (p15 L _ _ _ _ _ _ _ _ _ gr1) ?_
 refine jg [(1, vO 0 0 8 0 0), (8, vB (!r1))] 1 [1, 8] ?_
 refine thenQ_n ?_
 refine jc (!r1) (fun hb => ?_) (fun hb => ?_)
 · have h := cond_t hb h
   refine js ?_
   refine jr ?_
   refine jg [(2, vI 0)] 1 [2] ?_
   refine thenQ_n ?_
   refine jt ?_
   refine thenQ_r ?_
   obtain rfl := si h
   exact jq [vI 0]
 · have h := cond_f hb h
   refine jk ?_
   refine thenQ_n ?_
   refine js ?_
   refine jr ?_
   refine jg [(1, vO 0 0 8 0 0), (3, vI 1)] 1 [1, 3] ?_
   refine thenQ_n ?_
   obtain ⟨y2, gy2, ky2⟩ := bind_some h
   refine W_cut (by kernel_rfl) [bL 27 [aI a0_0, aI a0_1, aI a0_2, aI a0_3, aS e28 a0_4, aS e72 a0_5, aS e65 a0_6, aS e77 a0_7]] [(1, vO 0 0 8 0 0), (3, vI y2)] ?_ ?_
   · have h := ky2; clear gy2 ky2
     obtain ⟨y3, gy3, ky3⟩ := bind_some h
     refine W_cut (by kernel_rfl) [bL 27 [aI a0_0, aI a0_1, aI a0_2, aI a0_3, aS e28 a0_4, aS e72 a0_5, aS e65 a0_6, aS e77 a0_7]] [(1, vO 0 0 8 0 0), (3, vI y3)] ?_ ?_
     · have h := ky3; clear gy3 ky3
       obtain ⟨y4, gy4, ky4⟩ := bind_some h
       refine W_cut (by kernel_rfl) [bL 27 [aI a0_0, aI a0_1, aI a0_2, aI a0_3, aS e28 a0_4, aS e72 a0_5, aS e65 a0_6, aS e77 a0_7]] [(3, vI y4)] ?_ ?_
       · have h := ky4; clear gy4 ky4
         refine js ?_
         refine jr ?_
         refine jg [(2, vI y4)] 2 [2] ?_
         refine thenQ_n ?_
         refine jt ?_
         obtain rfl := si h
         exact jq [vI y4]
       · have h := gy4; clear gy4 ky4
         refine js ?_
         refine jr ?_
         refine jg [(3, vI y3), (45, vB (decide ((a0_7.length : Int) > (0 : Int))))] 4 [3, 45] ?_
         refine thenQ_n ?_
         refine jc (decide ((a0_7.length : Int) > (0 : Int))) (fun hb => ?_) (fun hb => ?_)
         · have h := cond_t hb h
           refine jr ?_
           refine jg [(3, vI (if (3 : Int) > y3 then (3 : Int) else y3))] 3 [3] ?_
           obtain rfl := si h
           exact thenQ_n (jE [.keep [3], .take 1])
         · have h := cond_f hb h
           refine jk ?_
           obtain rfl := si h
           exact thenQ_n (jE [.keep [3], .take 1])
     · have h := gy3; clear gy3 ky3
       refine js ?_
       refine jr ?_
       refine jg [(1, vO 0 0 8 0 0), (3, vI y2), (5, vI 0)] 1 [1, 3, 5] ?_
       refine thenQ_n ?_
       refine jb 2 ?_
       obtain ⟨b6, gb6, kb6⟩ := bind_some h
       refine W_loop_at (S := fun (y5 : (Int × Int)) => ([bL 27 [aI a0_0, aI a0_1, aI a0_2, aI a0_3, aS e28 a0_4, aS e72 a0_5, aS e65 a0_6, aS e77 a0_7]], [(1, vO 0 0 8 0 0), (3, vI y5.1), (5, vI y5.2)])) (step := _) (x0 := (y2, (0 : Int))) (b := b6) (L.ok _ _ _ gb6) (by kernel_rfl) (jE [.keep [1, 3, 5], .take 1]) ?_
       clear gb6 h; intro y5 o h; unfold s20_0 at h
       refine js ?_
       refine js ?_
       refine jr ?_
       refine jg [(1, vO 0 0 8 0 0), (3, vI y5.1), (5, vI y5.2), (29, vB (decide (y5.2 < (a0_6.length : Int))))] 5 [1, 3, 5, 29] ?_
       refine thenQ_n ?_
       refine jc (decide (y5.2 < (a0_6.length : Int))) (fun hb => ?_) (fun hb => ?_)
       · have h := cond_t hb h
         refine jk ?_
         refine thenQ_n ?_
         refine js ?_
         refine jb 3 ?_
         refine jr ?_
         obtain ⟨c7, h⟩ := ck_bind h
         obtain ⟨c8, h⟩ := ck_bind h
         refine jG [(1, vO 0 0 8 0 0), (3, vI (if ((1 : Int) + (((a0_6.getD y5.2.toNat e65.d).1).length : Int)) > y5.1 then ((1 : Int) + (((a0_6.getD y5.2.toNat e65.d).1).length : Int)) else y5.1)), (5, vI y5.2)] ((0 ≤ y5.2 ∧ y5.2 < (a0_6.length : Int)) ∧ (inR .i64 ((1 : Int) + (((a0_6.getD y5.2.toNat e65.d).1).length : Int))) ∧ (True)) 11 [1, 3, 5] ⟨c7, c8, trivial⟩ ?_
         refine blockQ_n ?_
         refine thenQ_n ?_
         refine jr ?_
         obtain ⟨c9, h⟩ := ck_bind h
         refine jG [(1, vO 0 0 8 0 0), (3, vI (if ((1 : Int) + (((a0_6.getD y5.2.toNat e65.d).1).length : Int)) > y5.1 then ((1 : Int) + (((a0_6.getD y5.2.toNat e65.d).1).length : Int)) else y5.1)), (5, vI (y5.2 + (1 : Int)))] ((inR .i64 (y5.2 + (1 : Int))) ∧ (True)) 3 [1, 3, 5] ⟨c9, trivial⟩ ?_
         obtain rfl := si h
         exact round_n _ rfl (jE [.keep [1, 3, 5], .take 1])
       · have h := cond_f hb h
         refine je 2 ?_
         refine thenQ_e ?_
         obtain rfl := si h; refine round_e rfl (fun hb => ?_); subst hb; have h := kb6
         refine blockQ_hit ?_
         obtain rfl := si h
         exact thenQ_n (jE [.keep [1, 3], .take 1])
   · have h := gy2; clear gy2 ky2
     refine js ?_
     refine jr ?_
     refine jg [(1, vO 0 0 8 0 0), (3, vI 1), (4, vI 0)] 1 [1, 3, 4] ?_
     refine thenQ_n ?_
     refine jb 0 ?_
     obtain ⟨b11, gb11, kb11⟩ := bind_some h
     refine W_loop_at (S := fun (y10 : (Int × Int)) => ([bL 27 [aI a0_0, aI a0_1, aI a0_2, aI a0_3, aS e28 a0_4, aS e72 a0_5, aS e65 a0_6, aS e77 a0_7]], [(1, vO 0 0 8 0 0), (3, vI y10.1), (4, vI y10.2)])) (step := _) (x0 := ((1 : Int), (0 : Int))) (b := b11) (L.ok _ _ _ gb11) (by kernel_rfl) (jE [.keep [1, 3, 4], .take 1]) ?_
     clear gb11 h; intro y10 o h; unfold s20_1 at h
     refine js ?_
     refine js ?_
     refine jr ?_
     refine jg [(1, vO 0 0 8 0 0), (3, vI y10.1), (4, vI y10.2), (13, vB (decide (y10.2 < (a0_5.length : Int))))] 5 [1, 3, 4, 13] ?_
     refine thenQ_n ?_
     refine jc (decide (y10.2 < (a0_5.length : Int))) (fun hb => ?_) (fun hb => ?_)
     · have h := cond_t hb h
       refine jk ?_
       refine thenQ_n ?_
       refine js ?_
       refine jb 1 ?_
       refine jr ?_
       obtain ⟨c12, h⟩ := ck_bind h
       refine jH [(1, vO 0 0 8 0 0), (4, vI y10.2), (16, vI y10.1), (22, vS e74 ((a0_5.getD y10.2.toNat e72.d).2))] ((0 ≤ y10.2 ∧ y10.2 < (a0_5.length : Int)) ∧ (True)) 7 [1, 4, 16, 22] ⟨c12, trivial⟩ ?_
       obtain ⟨r13, gr13, h⟩ := bind_some h
       refine jl 23 Tryd.call67 (p67 L _ _ gr13) ?_
       refine jg [(1, vO 0 0 8 0 0), (3, vI (if r13 > y10.1 then r13 else y10.1)), (4, vI y10.2)] 2 [1, 3, 4] ?_
       refine blockQ_n ?_
       refine thenQ_n ?_
       refine jr ?_
       obtain ⟨c14, h⟩ := ck_bind h
       refine jG [(1, vO 0 0 8 0 0), (3, vI (if r13 > y10.1 then r13 else y10.1)), (4, vI (y10.2 + (1 : Int)))] ((inR .i64 (y10.2 + (1 : Int))) ∧ (True)) 3 [1, 3, 4] ⟨c14, trivial⟩ ?_
       obtain rfl := si h
       exact round_n _ rfl (jE [.keep [1, 3, 4], .take 1])
     · have h := cond_f hb h
       refine je 0 ?_
       refine thenQ_e ?_
       obtain rfl := si h; refine round_e rfl (fun hb => ?_); subst hb; have h := kb11
       refine blockQ_hit ?_
       obtain rfl := si h
       exact thenQ_n (jE [.keep [1, 3], .take 1])

/- attestorref13.vars -/
def s68_0 (L : LP) (a1 : (List (Int × Int))) (y2 : (Int × (List Int))) : Option ((Int × (List Int)) ⊕ (List Int)) :=
  (bif (decide (y2.1 < (a1.length : Int))) then
  (ck (0 ≤ y2.1 ∧ y2.1 < (a1.length : Int))).bind fun _ =>
  (ck (inR .u64 ((a1.getD y2.1.toNat e61.d).1))).bind fun _ =>
  (ck (0 ≤ y2.1 ∧ y2.1 < (a1.length : Int))).bind fun _ =>
  (ck (inR .u64 ((a1.getD y2.1.toNat e61.d).2))).bind fun _ =>
  (ck ((y2.2.length + [(a1.getD y2.1.toNat e61.d).1, (a1.getD y2.1.toNat e61.d).2].length) * 8 ≤ 140737488355328 ∧ y2.2.length + [(a1.getD y2.1.toNat e61.d).1, (a1.getD y2.1.toNat e61.d).2].length ≤ 140737488355328)).bind fun _ =>
  (ck (inR .i64 (y2.1 + (1 : Int)))).bind fun _ =>
  some (.inl ((y2.1 + (1 : Int)), (y2.2 ++ [(a1.getD y2.1.toNat e61.d).1, (a1.getD y2.1.toNat e61.d).2])))
  else some (.inr y2.2))
def s68 (L : LP) (a1 : (List (Int × Int))) (z0 : (List Int)) : Option (List Int) :=
  ((L.run (s68_0 L a1) ((0 : Int), z0)).bind (fun (v : (List Int)) => some v)).bind fun (y1 : (List Int)) =>
  some y1
theorem w68 (L : LP) (a1 : (List (Int × Int))) (z0 : (List Int)) (r : (List Int)) (h : s68 L a1 z0 = some r) : Work X 68 [vW 0 1000 z0.length, vS e61 a1] [some (rwB e44 1000 44 z0)] [some (rwB e44 0 44 r)] (vW 0 0 r.length) := by
 refine Work_of_W (c := cd Tryd.f68 []) Tryd.func68 (by kernel_rfl) (N := 28) (by kernel_rfl) (Nat.le_of_ble_eq_true (by kernel_rfl)) ?_
 unfold s68 at h
 refine js ?_
 refine jr ?_
 refine jg [(0, vW 0 1000 z0.length), (1, vS e61 a1)] 1 [0, 1] ?_
 refine thenQ_n ?_
 obtain ⟨y1, gy1, ky1⟩ := bind_some h
 refine W_cut (by kernel_rfl) [some (rwB e44 0 44 y1)] [(0, vW 0 0 y1.length)] ?_ ?_
 · have h := ky1; clear gy1 ky1
   refine js ?_
   refine jr ?_
   refine jg [(4, vW 0 0 y1.length)] 2 [4] ?_
   refine thenQ_n ?_
   refine jt ?_
   obtain rfl := si h
   exact qwork_r [(4, vW 0 0 y1.length)] [vW 0 0 y1.length] ([]) (jE [.keep [4], .take 1, .ver0 0]) (by kernel_rfl) (by kernel_rfl)
 · have h := gy1; clear gy1 ky1
   refine js ?_
   refine jr ?_
   refine jg [(0, vW 0 1000 z0.length), (1, vS e61 a1), (5, vI 0)] 1 [0, 1, 5] ?_
   refine thenQ_n ?_
   refine jb 0 ?_
   obtain ⟨b3, gb3, kb3⟩ := bind_some h
   refine W_loop_at (S := fun (y2 : (Int × (List Int))) => ([some (rwB e44 0 44 y2.2)], [(0, vW 0 0 y2.2.length), (1, vS e61 a1), (5, vI y2.1)])) (step := _) (x0 := ((0 : Int), z0)) (b := b3) (L.ok _ _ _ gb3) (by kernel_rfl) (jE [.keep [0, 1, 5], .take 1, .ver0 0]) ?_
   clear gb3 h; intro y2 o h; unfold s68_0 at h
   refine js ?_
   refine js ?_
   refine jr ?_
   refine jg [(0, vW 0 0 y2.2.length), (1, vS e61 a1), (5, vI y2.1), (9, vB (decide (y2.1 < (a1.length : Int))))] 4 [0, 1, 5, 9] ?_
   refine thenQ_n ?_
   refine jc (decide (y2.1 < (a1.length : Int))) (fun hb => ?_) (fun hb => ?_)
   · have h := cond_t hb h
     refine jk ?_
     refine thenQ_n ?_
     refine js ?_
     refine jb 1 ?_
     refine jdr 14 mixed ?_
     obtain ⟨c4, h⟩ := ck_bind h
     obtain ⟨c5, h⟩ := ck_bind h
     obtain ⟨c6, h⟩ := ck_bind h
     obtain ⟨c7, h⟩ := ck_bind h
     refine jY 1 [(1, vS e61 a1), (5, vI y2.1), (12, vW 0 0 y2.2.length), (18, vU ((a1.getD y2.1.toNat e61.d).1)), (24, vU ((a1.getD y2.1.toNat e61.d).2))] ((0 ≤ y2.1 ∧ y2.1 < (a1.length : Int)) ∧ (inR .u64 ((a1.getD y2.1.toNat e61.d).1)) ∧ (0 ≤ y2.1 ∧ y2.1 < (a1.length : Int)) ∧ (inR .u64 ((a1.getD y2.1.toNat e61.d).2)) ∧ (True)) 13 [1, 5, 12, 18, 24] ⟨c4, c5, c6, c7, trivial⟩ ?_
     refine WQ_q1 (r := .cell (.c (rawC 2 1 [.int .u64 ((a1.getD y2.1.toNat e61.d).1), .int .u64 ((a1.getD y2.1.toNat e61.d).2)]))) (r' := vS e44 [(a1.getD y2.1.toNat e61.d).1, (a1.getD y2.1.toNat e61.d).2]) (d := some 25) (φ := True) (raw_weak e44 (xs := [(a1.getD y2.1.toNat e61.d).1, (a1.getD y2.1.toNat e61.d).2]) rfl rfl (by kernel_rfl) (by kernel_rfl)) (by kernel_rfl) trivial ?_
     refine WQ_done ?_
     obtain ⟨c8, h⟩ := ck_bind h
     refine WO_app e44 y2.2 [(a1.getD y2.1.toNat e61.d).1, (a1.getD y2.1.toNat e61.d).2] (b := 0) (ver := 0) (e := 44) (d := 26) (row2 := fun i j => (e44.row ([(a1.getD y2.1.toNat e61.d).1, (a1.getD y2.1.toNat e61.d).2].getD i e44.d)).getD j .jk) (Φ := (0 = 0 ∧ (y2.2.length + [(a1.getD y2.1.toNat e61.d).1, (a1.getD y2.1.toNat e61.d).2].length) * 8 ≤ 140737488355328 ∧ y2.2.length + [(a1.getD y2.1.toNat e61.d).1, (a1.getD y2.1.toNat e61.d).2].length ≤ 140737488355328) ∧ True) (σ' := [some (rwB e44 1 44 (y2.2 ++ [(a1.getD y2.1.toNat e61.d).1, (a1.getD y2.1.toNat e61.d).2]))]) (T' := [(26, vW 0 1 ((y2.2 ++ [(a1.getD y2.1.toNat e61.d).1, (a1.getD y2.1.toNat e61.d).2]).length)), (25, vS e44 [(a1.getD y2.1.toNat e61.d).1, (a1.getD y2.1.toNat e61.d).2]), (1, vS e61 a1), (5, vI y2.1), (12, vW 0 0 y2.2.length), (18, vU ((a1.getD y2.1.toNat e61.d).1)), (24, vU ((a1.getD y2.1.toNat e61.d).2))]) (by kernel_rfl) ⟨⟨rfl, c8⟩, trivial⟩ (Nat.le_of_ble_eq_true (by kernel_rfl)) (fun _ _ _ _ => rfl) (by kernel_rfl) (by kernel_rfl) ?_
     refine jg [(0, vW 0 1 ((y2.2 ++ [(a1.getD y2.1.toNat e61.d).1, (a1.getD y2.1.toNat e61.d).2]).length)), (1, vS e61 a1), (5, vI y2.1)] 1 [0, 1, 5] ?_
     refine blockQ_n ?_
     refine thenQ_n ?_
     refine jr ?_
     obtain ⟨c9, h⟩ := ck_bind h
     refine jG [(0, vW 0 1 ((y2.2 ++ [(a1.getD y2.1.toNat e61.d).1, (a1.getD y2.1.toNat e61.d).2]).length)), (1, vS e61 a1), (5, vI (y2.1 + (1 : Int)))] ((inR .i64 (y2.1 + (1 : Int))) ∧ (True)) 3 [0, 1, 5] ⟨c9, trivial⟩ ?_
     obtain rfl := si h
     exact round_n _ rfl (jE [.keep [0, 1, 5], .take 1, .ver0 0])
   · have h := cond_f hb h
     refine je 0 ?_
     refine thenQ_e ?_
     obtain rfl := si h; refine round_e rfl (fun hb => ?_); subst hb; have h := kb3
     refine blockQ_hit ?_
     obtain rfl := si h
     exact thenQ_n (jE [.keep [0], .take 1, .ver0 0])

/- attestorref13.Words -/
def s21_0 (L : LP) (a0_7 : (List ((List (Int × Int)) × (List (Int × Int)) × Int × Int))) (y13 : (Int × (List Int))) : Option ((Int × (List Int)) ⊕ (List Int)) :=
  (bif (decide (y13.1 < (a0_7.length : Int))) then
  (ck (0 ≤ y13.1 ∧ y13.1 < (a0_7.length : Int))).bind fun _ =>
  (ck (inR .u64 (((a0_7.getD y13.1.toNat e77.d).1).length : Int))).bind fun _ =>
  (ck ((y13.2.length + [(((a0_7.getD y13.1.toNat e77.d).1).length : Int)].length) * 8 ≤ 140737488355328 ∧ y13.2.length + [(((a0_7.getD y13.1.toNat e77.d).1).length : Int)].length ≤ 140737488355328)).bind fun _ =>
  (s68 L ((a0_7.getD y13.1.toNat e77.d).1) (y13.2 ++ [(((a0_7.getD y13.1.toNat e77.d).1).length : Int)])).bind fun r18 =>
  (s68 L ((a0_7.getD y13.1.toNat e77.d).2.1) r18).bind fun r19 =>
  (s68 L [((a0_7.getD y13.1.toNat e77.d).2.2.1, (a0_7.getD y13.1.toNat e77.d).2.2.2)] r19).bind fun r20 =>
  (ck (inR .i64 (y13.1 + (1 : Int)))).bind fun _ =>
  some (.inl ((y13.1 + (1 : Int)), r20))
  else some (.inr y13.2))
def s21_2 (L : LP) (a0_6 : (List ((List (List (Int × Int))) × (List (List (Int × Int)))))) (y22 : (Int × (List Int))) (y32 : (Int × (List Int))) : Option ((Int × (List Int)) ⊕ (List Int)) :=
  (bif (decide (y32.1 < (((a0_6.getD y22.1.toNat e65.d).2).length : Int))) then
  (ck (0 ≤ y32.1 ∧ y32.1 < (((a0_6.getD y22.1.toNat e65.d).2).length : Int))).bind fun _ =>
  (s68 L (((a0_6.getD y22.1.toNat e65.d).2).getD y32.1.toNat e62.d) y32.2).bind fun r35 =>
  (ck (inR .i64 (y32.1 + (1 : Int)))).bind fun _ =>
  some (.inl ((y32.1 + (1 : Int)), r35))
  else some (.inr y32.2))
def s21_3 (L : LP) (a0_6 : (List ((List (List (Int × Int))) × (List (List (Int × Int)))))) (y22 : (Int × (List Int))) (y37 : (Int × (List Int))) : Option ((Int × (List Int)) ⊕ (List Int)) :=
  (bif (decide (y37.1 < (((a0_6.getD y22.1.toNat e65.d).1).length : Int))) then
  (ck (0 ≤ y37.1 ∧ y37.1 < (((a0_6.getD y22.1.toNat e65.d).1).length : Int))).bind fun _ =>
  (s68 L (((a0_6.getD y22.1.toNat e65.d).1).getD y37.1.toNat e62.d) y37.2).bind fun r40 =>
  (ck (inR .i64 (y37.1 + (1 : Int)))).bind fun _ =>
  some (.inl ((y37.1 + (1 : Int)), r40))
  else some (.inr y37.2))
def s21_1 (L : LP) (a0_6 : (List ((List (List (Int × Int))) × (List (List (Int × Int)))))) (y22 : (Int × (List Int))) : Option ((Int × (List Int)) ⊕ (List Int)) :=
  (bif (decide (y22.1 < (a0_6.length : Int))) then
  ((ck (0 ≤ y22.1 ∧ y22.1 < (a0_6.length : Int))).bind fun _ =>
  (ck (inR .u64 (((a0_6.getD y22.1.toNat e65.d).1).length : Int))).bind fun _ =>
  (ck (0 ≤ (0 : Int) ∧ (0 : Int) < (((a0_6.getD y22.1.toNat e65.d).1).length : Int))).bind fun _ =>
  (ck (inR .u64 ((((a0_6.getD y22.1.toNat e65.d).1).getD (0 : Int).toNat e62.d).length : Int))).bind fun _ =>
  (ck ((y22.2.length + [(((a0_6.getD y22.1.toNat e65.d).1).length : Int), ((((a0_6.getD y22.1.toNat e65.d).1).getD (0 : Int).toNat e62.d).length : Int)].length) * 8 ≤ 140737488355328 ∧ y22.2.length + [(((a0_6.getD y22.1.toNat e65.d).1).length : Int), ((((a0_6.getD y22.1.toNat e65.d).1).getD (0 : Int).toNat e62.d).length : Int)].length ≤ 140737488355328)).bind fun _ =>
  ((L.run (s21_3 L a0_6 y22) ((0 : Int), (y22.2 ++ [(((a0_6.getD y22.1.toNat e65.d).1).length : Int), ((((a0_6.getD y22.1.toNat e65.d).1).getD (0 : Int).toNat e62.d).length : Int)]))).bind (fun (v : (List Int)) => some v)).bind fun (y31 : (List Int)) =>
  (L.run (s21_2 L a0_6 y22) ((0 : Int), y31)).bind (fun (v : (List Int)) => some v)).bind fun (y24 : (List Int)) =>
  (ck (inR .i64 (y22.1 + (1 : Int)))).bind fun _ =>
  some (.inl ((y22.1 + (1 : Int)), y24))
  else some (.inr y22.2))
def s21_5 (L : LP) (a0_5 : (List (Int × (List (Int × (List (Int × Int))))))) (y42 : (Int × (List Int))) (y50 : (Int × (List Int))) : Option ((Int × (List Int)) ⊕ (List Int)) :=
  (bif (decide (y50.1 < (((a0_5.getD y42.1.toNat e72.d).2).length : Int))) then
  (ck (0 ≤ y50.1 ∧ y50.1 < (((a0_5.getD y42.1.toNat e72.d).2).length : Int))).bind fun _ =>
  (ck (0 ≤ y50.1 ∧ y50.1 < (((a0_5.getD y42.1.toNat e72.d).2).length : Int))).bind fun _ =>
  (ck (inR .u64 (((((a0_5.getD y42.1.toNat e72.d).2).getD y50.1.toNat e74.d).2).length : Int))).bind fun _ =>
  (ck ((y50.2.length + [(((a0_5.getD y42.1.toNat e72.d).2).getD y50.1.toNat e74.d).1, (((((a0_5.getD y42.1.toNat e72.d).2).getD y50.1.toNat e74.d).2).length : Int)].length) * 8 ≤ 140737488355328 ∧ y50.2.length + [(((a0_5.getD y42.1.toNat e72.d).2).getD y50.1.toNat e74.d).1, (((((a0_5.getD y42.1.toNat e72.d).2).getD y50.1.toNat e74.d).2).length : Int)].length ≤ 140737488355328)).bind fun _ =>
  (ck (0 ≤ y50.1 ∧ y50.1 < (((a0_5.getD y42.1.toNat e72.d).2).length : Int))).bind fun _ =>
  (s68 L ((((a0_5.getD y42.1.toNat e72.d).2).getD y50.1.toNat e74.d).2) (y50.2 ++ [(((a0_5.getD y42.1.toNat e72.d).2).getD y50.1.toNat e74.d).1, (((((a0_5.getD y42.1.toNat e72.d).2).getD y50.1.toNat e74.d).2).length : Int)])).bind fun r57 =>
  (ck (inR .i64 (y50.1 + (1 : Int)))).bind fun _ =>
  some (.inl ((y50.1 + (1 : Int)), r57))
  else some (.inr y50.2))
def s21_4 (L : LP) (a0_5 : (List (Int × (List (Int × (List (Int × Int))))))) (y42 : (Int × (List Int))) : Option ((Int × (List Int)) ⊕ (List Int)) :=
  (bif (decide (y42.1 < (a0_5.length : Int))) then
  ((ck (0 ≤ y42.1 ∧ y42.1 < (a0_5.length : Int))).bind fun _ =>
  (ck (inR .u64 ((a0_5.getD y42.1.toNat e72.d).1))).bind fun _ =>
  (ck (inR .u64 (((a0_5.getD y42.1.toNat e72.d).2).length : Int))).bind fun _ =>
  (ck ((y42.2.length + [(a0_5.getD y42.1.toNat e72.d).1, (((a0_5.getD y42.1.toNat e72.d).2).length : Int)].length) * 8 ≤ 140737488355328 ∧ y42.2.length + [(a0_5.getD y42.1.toNat e72.d).1, (((a0_5.getD y42.1.toNat e72.d).2).length : Int)].length ≤ 140737488355328)).bind fun _ =>
  (L.run (s21_5 L a0_5 y42) ((0 : Int), (y42.2 ++ [(a0_5.getD y42.1.toNat e72.d).1, (((a0_5.getD y42.1.toNat e72.d).2).length : Int)]))).bind (fun (v : (List Int)) => some v)).bind fun (y44 : (List Int)) =>
  (ck (inR .i64 (y42.1 + (1 : Int)))).bind fun _ =>
  some (.inl ((y42.1 + (1 : Int)), y44))
  else some (.inr y42.2))
def s21 (L : LP) (a0_0 : Int) (a0_1 : Int) (a0_2 : Int) (a0_3 : Int) (a0_4 : (List (List Int))) (a0_5 : (List (Int × (List (Int × (List (Int × Int))))))) (a0_6 : (List ((List (List (Int × Int))) × (List (List (Int × Int)))))) (a0_7 : (List ((List (Int × Int)) × (List (Int × Int)) × Int × Int))) : Option (List Int) :=
  (s15 L a0_0 a0_1 a0_2 a0_3 a0_4 a0_5 a0_6 a0_7).bind fun r1 =>
  (bif (!r1) then
  some []
  else (ck (inR .u64 a0_0)).bind fun _ =>
  (ck (inR .u64 a0_1)).bind fun _ =>
  (ck (inR .u64 a0_2)).bind fun _ =>
  (ck (inR .u64 a0_3)).bind fun _ =>
  (ck (inR .u64 (a0_4.length : Int))).bind fun _ =>
  (ck (inR .u64 (a0_5.length : Int))).bind fun _ =>
  (ck (inR .u64 (a0_6.length : Int))).bind fun _ =>
  (ck (inR .u64 (a0_7.length : Int))).bind fun _ =>
  ((L.run (s21_4 L a0_5) ((0 : Int), [a0_0, a0_1, a0_2, a0_3, (a0_4.length : Int), (a0_5.length : Int), (a0_6.length : Int), (a0_7.length : Int)])).bind (fun (v : (List Int)) => some v)).bind fun (y10 : (List Int)) =>
  ((L.run (s21_1 L a0_6) ((0 : Int), y10)).bind (fun (v : (List Int)) => some v)).bind fun (y11 : (List Int)) =>
  ((L.run (s21_0 L a0_7) ((0 : Int), y11)).bind (fun (v : (List Int)) => some v)).bind fun (y12 : (List Int)) =>
  some y12)
theorem p21 (L : LP) (a0_0 : Int) (a0_1 : Int) (a0_2 : Int) (a0_3 : Int) (a0_4 : (List (List Int))) (a0_5 : (List (Int × (List (Int × (List (Int × Int))))))) (a0_6 : (List ((List (List (Int × Int))) × (List (List (Int × Int)))))) (a0_7 : (List ((List (Int × Int)) × (List (Int × Int)) × Int × Int))) (r : (List Int)) (h : s21 L a0_0 a0_1 a0_2 a0_3 a0_4 a0_5 a0_6 a0_7 = some r) : Pure X 21 [.agg [aI a0_0, aI a0_1, aI a0_2, aI a0_3, aS e28 a0_4, aS e72 a0_5, aS e65 a0_6, aS e77 a0_7]] (vS e44 r) := by
 refine Pure_of_W (c := cd Tryd.f21 []) Tryd.func21 (by kernel_rfl) (N := 185) (by kernel_rfl) (Nat.le_of_ble_eq_true (by kernel_rfl)) ?_
 unfold s21 at h
 refine js ?_
 refine jr ?_
 refine jf [bL 27 [aI a0_0, aI a0_1, aI a0_2, aI a0_3, aS e28 a0_4, aS e72 a0_5, aS e65 a0_6, aS e77 a0_7]] [(1, vO 0 0 8 0 0)] 2 [1] ?_
 refine thenQ_n ?_
 refine js ?_
 refine js ?_
 refine jr ?_
 refine jh [(1, vO 0 0 8 0 0), (13, .agg [aI a0_0, aI a0_1, aI a0_2, aI a0_3, aS e28 a0_4, aS e72 a0_5, aS e65 a0_6, aS e77 a0_7])] 1 [1, 13] ?_
 obtain ⟨r1, gr1, h⟩ := bind_some h
 refine jl 14 Tryd.call15 (p15 L _ _ _ _ _ _ _ _ _ gr1) ?_
 refine jg [(1, vO 0 0 8 0 0), (15, vB (!r1))] 1 [1, 15] ?_
 refine thenQ_n ?_
 refine jc (!r1) (fun hb => ?_) (fun hb => ?_)
 · have h := cond_t hb h
   refine js ?_
   refine jr ?_
   refine jg [(2, .cell (.c (.nsl)))] 1 [2] ?_
   refine thenQ_n ?_
   refine jt ?_
   refine thenQ_r ?_
   obtain rfl := si h
   exact jQ [.cell (.c (.nsl))] ([.sl 1 (fun i j => (e44.row (([] : List Int).getD i e44.d)).getD j .jk)])
 · have h := cond_f hb h
   refine jk ?_
   refine thenQ_n ?_
   refine js ?_
   refine jr ?_
   obtain ⟨c2, h⟩ := ck_bind h
   obtain ⟨c3, h⟩ := ck_bind h
   obtain ⟨c4, h⟩ := ck_bind h
   obtain ⟨c5, h⟩ := ck_bind h
   obtain ⟨c6, h⟩ := ck_bind h
   obtain ⟨c7, h⟩ := ck_bind h
   obtain ⟨c8, h⟩ := ck_bind h
   obtain ⟨c9, h⟩ := ck_bind h
   refine jH [(1, vO 0 0 8 0 0), (18, vU a0_0), (21, vU a0_1), (24, vU a0_2), (27, vU a0_3), (31, vU (a0_4.length : Int)), (35, vU (a0_5.length : Int)), (39, vU (a0_6.length : Int)), (43, vU (a0_7.length : Int))] ((inR .u64 a0_0) ∧ (inR .u64 a0_1) ∧ (inR .u64 a0_2) ∧ (inR .u64 a0_3) ∧ (inR .u64 (a0_4.length : Int)) ∧ (inR .u64 (a0_5.length : Int)) ∧ (inR .u64 (a0_6.length : Int)) ∧ (inR .u64 (a0_7.length : Int)) ∧ (True)) 28 [1, 18, 21, 24, 27, 31, 35, 39, 43] ⟨c2, c3, c4, c5, c6, c7, c8, c9, trivial⟩ ?_
   refine WO_rowown e44 [a0_0, a0_1, a0_2, a0_3, (a0_4.length : Int), (a0_5.length : Int), (a0_6.length : Int), (a0_7.length : Int)] (cs := [.int .u64 a0_0, .int .u64 a0_1, .int .u64 a0_2, .int .u64 a0_3, .int .u64 (a0_4.length : Int), .int .u64 (a0_5.length : Int), .int .u64 (a0_6.length : Int), .int .u64 (a0_7.length : Int)]) (d := 44) (e := 44) (n := 8) (σ' := [bL 27 [aI a0_0, aI a0_1, aI a0_2, aI a0_3, aS e28 a0_4, aS e72 a0_5, aS e65 a0_6, aS e77 a0_7], some (rwB e44 0 44 [a0_0, a0_1, a0_2, a0_3, (a0_4.length : Int), (a0_5.length : Int), (a0_6.length : Int), (a0_7.length : Int)])]) (T' := [(44, vW 1 0 ([a0_0, a0_1, a0_2, a0_3, (a0_4.length : Int), (a0_5.length : Int), (a0_6.length : Int), (a0_7.length : Int)].length)), (1, vO 0 0 8 0 0), (18, vU a0_0), (21, vU a0_1), (24, vU a0_2), (27, vU a0_3), (31, vU (a0_4.length : Int)), (35, vU (a0_5.length : Int)), (39, vU (a0_6.length : Int)), (43, vU (a0_7.length : Int))]) (by kernel_rfl) rfl (by kernel_rfl) (by kernel_rfl) (by kernel_rfl) ?_
   refine jg [(1, vO 0 0 8 0 0), (3, vW 1 0 ([a0_0, a0_1, a0_2, a0_3, (a0_4.length : Int), (a0_5.length : Int), (a0_6.length : Int), (a0_7.length : Int)].length))] 1 [1, 3] ?_
   refine thenQ_n ?_
   obtain ⟨y10, gy10, ky10⟩ := bind_some h
   refine W_cut (by kernel_rfl) [bL 27 [aI a0_0, aI a0_1, aI a0_2, aI a0_3, aS e28 a0_4, aS e72 a0_5, aS e65 a0_6, aS e77 a0_7], some (rwB e44 0 44 y10)] [(1, vO 0 0 8 0 0), (3, vW 1 0 y10.length)] ?_ ?_
   · have h := ky10; clear gy10 ky10
     obtain ⟨y11, gy11, ky11⟩ := bind_some h
     refine W_cut (by kernel_rfl) [bL 27 [aI a0_0, aI a0_1, aI a0_2, aI a0_3, aS e28 a0_4, aS e72 a0_5, aS e65 a0_6, aS e77 a0_7], some (rwB e44 0 44 y11)] [(1, vO 0 0 8 0 0), (3, vW 1 0 y11.length)] ?_ ?_
     · have h := ky11; clear gy11 ky11
       obtain ⟨y12, gy12, ky12⟩ := bind_some h
       refine W_cut (by kernel_rfl) [bL 27 [aI a0_0, aI a0_1, aI a0_2, aI a0_3, aS e28 a0_4, aS e72 a0_5, aS e65 a0_6, aS e77 a0_7], some (rwB e44 0 44 y12)] [(3, vW 1 0 y12.length)] ?_ ?_
       · have h := ky12; clear gy12 ky12
         refine js ?_
         refine jr ?_
         refine jg [(2, vW 1 0 y12.length)] 2 [2] ?_
         refine thenQ_n ?_
         refine jt ?_
         obtain rfl := si h
         exact jq [vW 1 0 y12.length]
       · have h := gy12; clear gy12 ky12
         refine js ?_
         refine jr ?_
         refine jg [(1, vO 0 0 8 0 0), (3, vW 1 0 y11.length), (11, vI 0)] 1 [1, 3, 11] ?_
         refine thenQ_n ?_
         refine jb 10 ?_
         obtain ⟨b14, gb14, kb14⟩ := bind_some h
         refine W_loop_at (S := fun (y13 : (Int × (List Int))) => ([bL 27 [aI a0_0, aI a0_1, aI a0_2, aI a0_3, aS e28 a0_4, aS e72 a0_5, aS e65 a0_6, aS e77 a0_7], some (rwB e44 0 44 y13.2)], [(1, vO 0 0 8 0 0), (3, vW 1 0 y13.2.length), (11, vI y13.1)])) (step := _) (x0 := ((0 : Int), y11)) (b := b14) (L.ok _ _ _ gb14) (by kernel_rfl) (jE [.keep [1, 3, 11], .take 2, .ver0 1]) ?_
         clear gb14 h; intro y13 o h; unfold s21_0 at h
         refine js ?_
         refine js ?_
         refine jr ?_
         refine jg [(1, vO 0 0 8 0 0), (3, vW 1 0 y13.2.length), (11, vI y13.1), (156, vB (decide (y13.1 < (a0_7.length : Int))))] 5 [1, 3, 11, 156] ?_
         refine thenQ_n ?_
         refine jc (decide (y13.1 < (a0_7.length : Int))) (fun hb => ?_) (fun hb => ?_)
         · have h := cond_t hb h
           refine jk ?_
           refine thenQ_n ?_
           refine js ?_
           refine jb 11 ?_
           refine js ?_
           refine jr ?_
           obtain ⟨c15, h⟩ := ck_bind h
           refine jF [bL 27 [aI a0_0, aI a0_1, aI a0_2, aI a0_3, aS e28 a0_4, aS e72 a0_5, aS e65 a0_6, aS e77 a0_7], some (rwB e44 0 44 y13.2), bL 77 [aS e61 ((a0_7.getD y13.1.toNat e77.d).1), aS e61 ((a0_7.getD y13.1.toNat e77.d).2.1), aY ((a0_7.getD y13.1.toNat e77.d).2.2.1), aI ((a0_7.getD y13.1.toNat e77.d).2.2.2)]] [(1, vO 0 0 8 0 0), (3, vW 1 0 y13.2.length), (11, vI y13.1), (12, vO 2 0 4 0 0)] ((0 ≤ y13.1 ∧ y13.1 < (a0_7.length : Int)) ∧ (True)) 7 [1, 3, 11, 12] ⟨c15, trivial⟩ ?_
           refine thenQ_n ?_
           refine js ?_
           refine jr ?_
           obtain ⟨c16, h⟩ := ck_bind h
           refine jH [(1, vO 0 0 8 0 0), (11, vI y13.1), (12, vO 2 0 4 0 0), (164, vW 1 0 y13.2.length), (168, vU (((a0_7.getD y13.1.toNat e77.d).1).length : Int))] ((inR .u64 (((a0_7.getD y13.1.toNat e77.d).1).length : Int)) ∧ (True)) 5 [1, 11, 12, 164, 168] ⟨c16, trivial⟩ ?_
           refine WO_q1 (r := .cell (.c (rawC 1 1 [.int .u64 (((a0_7.getD y13.1.toNat e77.d).1).length : Int)]))) (r' := vS e44 [(((a0_7.getD y13.1.toNat e77.d).1).length : Int)]) (d := some 169) (φ := True) (raw_weak e44 (xs := [(((a0_7.getD y13.1.toNat e77.d).1).length : Int)]) rfl rfl (by kernel_rfl) (by kernel_rfl)) (by kernel_rfl) trivial ?_
           obtain ⟨c17, h⟩ := ck_bind h
           refine WO_app e44 y13.2 [(((a0_7.getD y13.1.toNat e77.d).1).length : Int)] (b := 1) (ver := 0) (e := 44) (d := 170) (row2 := fun i j => (e44.row ([(((a0_7.getD y13.1.toNat e77.d).1).length : Int)].getD i e44.d)).getD j .jk) (Φ := (0 = 0 ∧ (y13.2.length + [(((a0_7.getD y13.1.toNat e77.d).1).length : Int)].length) * 8 ≤ 140737488355328 ∧ y13.2.length + [(((a0_7.getD y13.1.toNat e77.d).1).length : Int)].length ≤ 140737488355328) ∧ True) (σ' := [bL 27 [aI a0_0, aI a0_1, aI a0_2, aI a0_3, aS e28 a0_4, aS e72 a0_5, aS e65 a0_6, aS e77 a0_7], some (rwB e44 1 44 (y13.2 ++ [(((a0_7.getD y13.1.toNat e77.d).1).length : Int)])), bL 77 [aS e61 ((a0_7.getD y13.1.toNat e77.d).1), aS e61 ((a0_7.getD y13.1.toNat e77.d).2.1), aY ((a0_7.getD y13.1.toNat e77.d).2.2.1), aI ((a0_7.getD y13.1.toNat e77.d).2.2.2)]]) (T' := [(170, vW 1 1 ((y13.2 ++ [(((a0_7.getD y13.1.toNat e77.d).1).length : Int)]).length)), (169, vS e44 [(((a0_7.getD y13.1.toNat e77.d).1).length : Int)]), (1, vO 0 0 8 0 0), (11, vI y13.1), (12, vO 2 0 4 0 0), (164, vW 1 0 y13.2.length), (168, vU (((a0_7.getD y13.1.toNat e77.d).1).length : Int))]) (by kernel_rfl) ⟨⟨rfl, c17⟩, trivial⟩ (Nat.le_of_ble_eq_true (by kernel_rfl)) (fun _ _ _ _ => rfl) (by kernel_rfl) (by kernel_rfl) ?_
           refine jg [(1, vO 0 0 8 0 0), (3, vW 1 1 ((y13.2 ++ [(((a0_7.getD y13.1.toNat e77.d).1).length : Int)]).length)), (11, vI y13.1), (12, vO 2 0 4 0 0)] 1 [1, 3, 11, 12] ?_
           refine thenQ_n ?_
           refine js ?_
           refine jr ?_
           refine jh [(1, vO 0 0 8 0 0), (11, vI y13.1), (12, vO 2 0 4 0 0), (171, vW 1 1 ((y13.2 ++ [(((a0_7.getD y13.1.toNat e77.d).1).length : Int)]).length)), (173, vS e61 ((a0_7.getD y13.1.toNat e77.d).1))] 3 [1, 11, 12, 171, 173] ?_
           obtain ⟨r18, gr18, h⟩ := bind_some h
           refine WO_work [1] [1] [2] [0] [1, 11, 12, 173] (f := 68) (args := [vW 0 1000 ((y13.2 ++ [(((a0_7.getD y13.1.toNat e77.d).1).length : Int)]).length), vS e61 ((a0_7.getD y13.1.toNat e77.d).1)]) (all := [vW 1 1 ((y13.2 ++ [(((a0_7.getD y13.1.toNat e77.d).1).length : Int)]).length), vS e61 ((a0_7.getD y13.1.toNat e77.d).1)]) (d := some 174) (r := vW 0 0 r18.length) (σin := [some (rwB e44 1000 44 (y13.2 ++ [(((a0_7.getD y13.1.toNat e77.d).1).length : Int)]))]) (σo := [some (rwB e44 0 44 r18)]) (n := 1) (T1 := [(1, vO 0 0 8 0 0), (11, vI y13.1), (12, vO 2 0 4 0 0), (173, vS e61 ((a0_7.getD y13.1.toNat e77.d).1))]) (σ' := [bL 27 [aI a0_0, aI a0_1, aI a0_2, aI a0_3, aS e28 a0_4, aS e72 a0_5, aS e65 a0_6, aS e77 a0_7], some (rwB e44 2 44 r18), bL 77 [aS e61 ((a0_7.getD y13.1.toNat e77.d).1), aS e61 ((a0_7.getD y13.1.toNat e77.d).2.1), aY ((a0_7.getD y13.1.toNat e77.d).2.2.1), aI ((a0_7.getD y13.1.toNat e77.d).2.2.2)]]) (T' := [(174, vW 1 2 r18.length), (1, vO 0 0 8 0 0), (11, vI y13.1), (12, vO 2 0 4 0 0), (173, vS e61 ((a0_7.getD y13.1.toNat e77.d).1))]) (by kernel_rfl) Tryd.call68 (w68 L _ _ _ gr18) (by kernel_rfl) (by kernel_rfl) (by kernel_rfl) ⟨by kernel_rfl, by decide, by kernel_rfl, by kernel_rfl, by kernel_rfl, by kernel_rfl, by kernel_rfl, by kernel_rfl, by kernel_rfl, by kernel_rfl, by kernel_rfl, by kernel_rfl⟩ (by kernel_rfl) (by kernel_rfl) (by kernel_rfl) (by kernel_rfl) ?_
           refine jg [(1, vO 0 0 8 0 0), (3, vW 1 2 r18.length), (11, vI y13.1), (12, vO 2 0 4 0 0)] 1 [1, 3, 11, 12] ?_
           refine thenQ_n ?_
           refine js ?_
           refine jr ?_
           refine jh [(1, vO 0 0 8 0 0), (11, vI y13.1), (12, vO 2 0 4 0 0), (175, vW 1 2 r18.length), (177, vS e61 ((a0_7.getD y13.1.toNat e77.d).2.1))] 3 [1, 11, 12, 175, 177] ?_
           obtain ⟨r19, gr19, h⟩ := bind_some h
           refine WO_work [1] [2] [3] [0] [1, 11, 12, 177] (f := 68) (args := [vW 0 1000 r18.length, vS e61 ((a0_7.getD y13.1.toNat e77.d).2.1)]) (all := [vW 1 2 r18.length, vS e61 ((a0_7.getD y13.1.toNat e77.d).2.1)]) (d := some 178) (r := vW 0 0 r19.length) (σin := [some (rwB e44 1000 44 r18)]) (σo := [some (rwB e44 0 44 r19)]) (n := 1) (T1 := [(1, vO 0 0 8 0 0), (11, vI y13.1), (12, vO 2 0 4 0 0), (177, vS e61 ((a0_7.getD y13.1.toNat e77.d).2.1))]) (σ' := [bL 27 [aI a0_0, aI a0_1, aI a0_2, aI a0_3, aS e28 a0_4, aS e72 a0_5, aS e65 a0_6, aS e77 a0_7], some (rwB e44 3 44 r19), bL 77 [aS e61 ((a0_7.getD y13.1.toNat e77.d).1), aS e61 ((a0_7.getD y13.1.toNat e77.d).2.1), aY ((a0_7.getD y13.1.toNat e77.d).2.2.1), aI ((a0_7.getD y13.1.toNat e77.d).2.2.2)]]) (T' := [(178, vW 1 3 r19.length), (1, vO 0 0 8 0 0), (11, vI y13.1), (12, vO 2 0 4 0 0), (177, vS e61 ((a0_7.getD y13.1.toNat e77.d).2.1))]) (by kernel_rfl) Tryd.call68 (w68 L _ _ _ gr19) (by kernel_rfl) (by kernel_rfl) (by kernel_rfl) ⟨by kernel_rfl, by decide, by kernel_rfl, by kernel_rfl, by kernel_rfl, by kernel_rfl, by kernel_rfl, by kernel_rfl, by kernel_rfl, by kernel_rfl, by kernel_rfl, by kernel_rfl⟩ (by kernel_rfl) (by kernel_rfl) (by kernel_rfl) (by kernel_rfl) ?_
           refine jg [(1, vO 0 0 8 0 0), (3, vW 1 3 r19.length), (11, vI y13.1), (12, vO 2 0 4 0 0)] 1 [1, 3, 11, 12] ?_
           refine thenQ_n ?_
           refine jr ?_
           refine jh [(1, vO 0 0 8 0 0), (11, vI y13.1), (179, vW 1 3 r19.length), (181, .agg [aY ((a0_7.getD y13.1.toNat e77.d).2.2.1), aI ((a0_7.getD y13.1.toNat e77.d).2.2.2)])] 3 [1, 11, 179, 181] ?_
           refine WO_q1 (r := .cell (.c (rawC 1 2 [.int .u8 ((a0_7.getD y13.1.toNat e77.d).2.2.1), .int .i64 ((a0_7.getD y13.1.toNat e77.d).2.2.2)]))) (r' := vS e61 [((a0_7.getD y13.1.toNat e77.d).2.2.1, (a0_7.getD y13.1.toNat e77.d).2.2.2)]) (d := some 182) (φ := True) (raw_weak e61 (xs := [((a0_7.getD y13.1.toNat e77.d).2.2.1, (a0_7.getD y13.1.toNat e77.d).2.2.2)]) rfl rfl (by kernel_rfl) (by kernel_rfl)) (by kernel_rfl) trivial ?_
           obtain ⟨r20, gr20, h⟩ := bind_some h
           refine WO_work [1] [3] [4] [0] [182, 1, 11, 181] (f := 68) (args := [vW 0 1000 r19.length, vS e61 [((a0_7.getD y13.1.toNat e77.d).2.2.1, (a0_7.getD y13.1.toNat e77.d).2.2.2)]]) (all := [vW 1 3 r19.length, vS e61 [((a0_7.getD y13.1.toNat e77.d).2.2.1, (a0_7.getD y13.1.toNat e77.d).2.2.2)]]) (d := some 183) (r := vW 0 0 r20.length) (σin := [some (rwB e44 1000 44 r19)]) (σo := [some (rwB e44 0 44 r20)]) (n := 1) (T1 := [(182, vS e61 [((a0_7.getD y13.1.toNat e77.d).2.2.1, (a0_7.getD y13.1.toNat e77.d).2.2.2)]), (1, vO 0 0 8 0 0), (11, vI y13.1), (181, .agg [aY ((a0_7.getD y13.1.toNat e77.d).2.2.1), aI ((a0_7.getD y13.1.toNat e77.d).2.2.2)])]) (σ' := [bL 27 [aI a0_0, aI a0_1, aI a0_2, aI a0_3, aS e28 a0_4, aS e72 a0_5, aS e65 a0_6, aS e77 a0_7], some (rwB e44 4 44 r20), bL 77 [aS e61 ((a0_7.getD y13.1.toNat e77.d).1), aS e61 ((a0_7.getD y13.1.toNat e77.d).2.1), aY ((a0_7.getD y13.1.toNat e77.d).2.2.1), aI ((a0_7.getD y13.1.toNat e77.d).2.2.2)]]) (T' := [(183, vW 1 4 r20.length), (182, vS e61 [((a0_7.getD y13.1.toNat e77.d).2.2.1, (a0_7.getD y13.1.toNat e77.d).2.2.2)]), (1, vO 0 0 8 0 0), (11, vI y13.1), (181, .agg [aY ((a0_7.getD y13.1.toNat e77.d).2.2.1), aI ((a0_7.getD y13.1.toNat e77.d).2.2.2)])]) (by kernel_rfl) Tryd.call68 (w68 L _ _ _ gr20) (by kernel_rfl) (by kernel_rfl) (by kernel_rfl) ⟨by kernel_rfl, by decide, by kernel_rfl, by kernel_rfl, by kernel_rfl, by kernel_rfl, by kernel_rfl, by kernel_rfl, by kernel_rfl, by kernel_rfl, by kernel_rfl, by kernel_rfl⟩ (by kernel_rfl) (by kernel_rfl) (by kernel_rfl) (by kernel_rfl) ?_
           refine jg [(1, vO 0 0 8 0 0), (3, vW 1 4 r20.length), (11, vI y13.1)] 1 [1, 3, 11] ?_
           refine blockQ_n ?_
           refine thenQ_n ?_
           refine jr ?_
           obtain ⟨c21, h⟩ := ck_bind h
           refine jG [(1, vO 0 0 8 0 0), (3, vW 1 4 r20.length), (11, vI (y13.1 + (1 : Int)))] ((inR .i64 (y13.1 + (1 : Int))) ∧ (True)) 3 [1, 3, 11] ⟨c21, trivial⟩ ?_
           obtain rfl := si h
           exact round_n _ rfl (jE [.keep [1, 3, 11], .take 2, .ver0 1])
         · have h := cond_f hb h
           refine je 10 ?_
           refine thenQ_e ?_
           obtain rfl := si h; refine round_e rfl (fun hb => ?_); subst hb; have h := kb14
           refine blockQ_hit ?_
           obtain rfl := si h
           exact thenQ_n (jE [.keep [3], .take 2, .ver0 1])
     · have h := gy11; clear gy11 ky11
       refine js ?_
       refine jr ?_
       refine jg [(1, vO 0 0 8 0 0), (3, vW 1 0 y10.length), (7, vI 0)] 1 [1, 3, 7] ?_
       refine thenQ_n ?_
       refine jb 4 ?_
       obtain ⟨b23, gb23, kb23⟩ := bind_some h
       refine W_loop_at (S := fun (y22 : (Int × (List Int))) => ([bL 27 [aI a0_0, aI a0_1, aI a0_2, aI a0_3, aS e28 a0_4, aS e72 a0_5, aS e65 a0_6, aS e77 a0_7], some (rwB e44 0 44 y22.2)], [(1, vO 0 0 8 0 0), (3, vW 1 0 y22.2.length), (7, vI y22.1)])) (step := _) (x0 := ((0 : Int), y10)) (b := b23) (L.ok _ _ _ gb23) (by kernel_rfl) (jE [.keep [1, 3, 7], .take 2, .ver0 1]) ?_
       clear gb23 h; intro y22 o h; unfold s21_1 at h
       refine js ?_
       refine js ?_
       refine jr ?_
       refine jg [(1, vO 0 0 8 0 0), (3, vW 1 0 y22.2.length), (7, vI y22.1), (103, vB (decide (y22.1 < (a0_6.length : Int))))] 5 [1, 3, 7, 103] ?_
       refine thenQ_n ?_
       refine jc (decide (y22.1 < (a0_6.length : Int))) (fun hb => ?_) (fun hb => ?_)
       · have h := cond_t hb h
         refine jk ?_
         refine thenQ_n ?_
         obtain ⟨y24, gy24, ky24⟩ := bind_some h
         refine W_cut (by kernel_rfl) [bL 27 [aI a0_0, aI a0_1, aI a0_2, aI a0_3, aS e28 a0_4, aS e72 a0_5, aS e65 a0_6, aS e77 a0_7], some (rwB e44 0 44 y24)] [(1, vO 0 0 8 0 0), (3, vW 1 0 y24.length), (7, vI y22.1)] ?_ ?_
         · have h := ky24; clear gy24 ky24
           refine jr ?_
           obtain ⟨c25, h⟩ := ck_bind h
           refine jG [(1, vO 0 0 8 0 0), (3, vW 1 0 y24.length), (7, vI (y22.1 + (1 : Int)))] ((inR .i64 (y22.1 + (1 : Int))) ∧ (True)) 3 [1, 3, 7] ⟨c25, trivial⟩ ?_
           obtain rfl := si h
           exact round_n _ rfl (jE [.keep [1, 3, 7], .take 2, .ver0 1])
         · have h := gy24; clear gy24 ky24
           refine jb 5 ?_
           refine js ?_
           refine jr ?_
           obtain ⟨c26, h⟩ := ck_bind h
           refine jF [bL 27 [aI a0_0, aI a0_1, aI a0_2, aI a0_3, aS e28 a0_4, aS e72 a0_5, aS e65 a0_6, aS e77 a0_7], some (rwB e44 0 44 y22.2), bL 65 [aS e62 ((a0_6.getD y22.1.toNat e65.d).1), aS e62 ((a0_6.getD y22.1.toNat e65.d).2)]] [(1, vO 0 0 8 0 0), (3, vW 1 0 y22.2.length), (7, vI y22.1), (8, vO 2 0 2 0 0)] ((0 ≤ y22.1 ∧ y22.1 < (a0_6.length : Int)) ∧ (True)) 7 [1, 3, 7, 8] ⟨c26, trivial⟩ ?_
           refine thenQ_n ?_
           refine js ?_
           refine jdr 12 mixed ?_
           obtain ⟨c27, h⟩ := ck_bind h
           obtain ⟨c28, h⟩ := ck_bind h
           obtain ⟨c29, h⟩ := ck_bind h
           refine jY 1 [(1, vO 0 0 8 0 0), (7, vI y22.1), (8, vO 2 0 2 0 0), (111, vW 1 0 y22.2.length), (115, vU (((a0_6.getD y22.1.toNat e65.d).1).length : Int)), (121, vU ((((a0_6.getD y22.1.toNat e65.d).1).getD (0 : Int).toNat e62.d).length : Int))] ((inR .u64 (((a0_6.getD y22.1.toNat e65.d).1).length : Int)) ∧ (0 ≤ (0 : Int) ∧ (0 : Int) < (((a0_6.getD y22.1.toNat e65.d).1).length : Int)) ∧ (inR .u64 ((((a0_6.getD y22.1.toNat e65.d).1).getD (0 : Int).toNat e62.d).length : Int)) ∧ (True)) 11 [1, 7, 8, 111, 115, 121] ⟨c27, c28, c29, trivial⟩ ?_
           refine WQ_q1 (r := .cell (.c (rawC 2 1 [.int .u64 (((a0_6.getD y22.1.toNat e65.d).1).length : Int), .int .u64 ((((a0_6.getD y22.1.toNat e65.d).1).getD (0 : Int).toNat e62.d).length : Int)]))) (r' := vS e44 [(((a0_6.getD y22.1.toNat e65.d).1).length : Int), ((((a0_6.getD y22.1.toNat e65.d).1).getD (0 : Int).toNat e62.d).length : Int)]) (d := some 122) (φ := True) (raw_weak e44 (xs := [(((a0_6.getD y22.1.toNat e65.d).1).length : Int), ((((a0_6.getD y22.1.toNat e65.d).1).getD (0 : Int).toNat e62.d).length : Int)]) rfl rfl (by kernel_rfl) (by kernel_rfl)) (by kernel_rfl) trivial ?_
           refine WQ_done ?_
           obtain ⟨c30, h⟩ := ck_bind h
           refine WO_app e44 y22.2 [(((a0_6.getD y22.1.toNat e65.d).1).length : Int), ((((a0_6.getD y22.1.toNat e65.d).1).getD (0 : Int).toNat e62.d).length : Int)] (b := 1) (ver := 0) (e := 44) (d := 123) (row2 := fun i j => (e44.row ([(((a0_6.getD y22.1.toNat e65.d).1).length : Int), ((((a0_6.getD y22.1.toNat e65.d).1).getD (0 : Int).toNat e62.d).length : Int)].getD i e44.d)).getD j .jk) (Φ := (0 = 0 ∧ (y22.2.length + [(((a0_6.getD y22.1.toNat e65.d).1).length : Int), ((((a0_6.getD y22.1.toNat e65.d).1).getD (0 : Int).toNat e62.d).length : Int)].length) * 8 ≤ 140737488355328 ∧ y22.2.length + [(((a0_6.getD y22.1.toNat e65.d).1).length : Int), ((((a0_6.getD y22.1.toNat e65.d).1).getD (0 : Int).toNat e62.d).length : Int)].length ≤ 140737488355328) ∧ True) (σ' := [bL 27 [aI a0_0, aI a0_1, aI a0_2, aI a0_3, aS e28 a0_4, aS e72 a0_5, aS e65 a0_6, aS e77 a0_7], some (rwB e44 1 44 (y22.2 ++ [(((a0_6.getD y22.1.toNat e65.d).1).length : Int), ((((a0_6.getD y22.1.toNat e65.d).1).getD (0 : Int).toNat e62.d).length : Int)])), bL 65 [aS e62 ((a0_6.getD y22.1.toNat e65.d).1), aS e62 ((a0_6.getD y22.1.toNat e65.d).2)]]) (T' := [(123, vW 1 1 ((y22.2 ++ [(((a0_6.getD y22.1.toNat e65.d).1).length : Int), ((((a0_6.getD y22.1.toNat e65.d).1).getD (0 : Int).toNat e62.d).length : Int)]).length)), (122, vS e44 [(((a0_6.getD y22.1.toNat e65.d).1).length : Int), ((((a0_6.getD y22.1.toNat e65.d).1).getD (0 : Int).toNat e62.d).length : Int)]), (1, vO 0 0 8 0 0), (7, vI y22.1), (8, vO 2 0 2 0 0), (111, vW 1 0 y22.2.length), (115, vU (((a0_6.getD y22.1.toNat e65.d).1).length : Int)), (121, vU ((((a0_6.getD y22.1.toNat e65.d).1).getD (0 : Int).toNat e62.d).length : Int))]) (by kernel_rfl) ⟨⟨rfl, c30⟩, trivial⟩ (Nat.le_of_ble_eq_true (by kernel_rfl)) (fun _ _ _ _ => rfl) (by kernel_rfl) (by kernel_rfl) ?_
           refine jg [(1, vO 0 0 8 0 0), (3, vW 1 1 ((y22.2 ++ [(((a0_6.getD y22.1.toNat e65.d).1).length : Int), ((((a0_6.getD y22.1.toNat e65.d).1).getD (0 : Int).toNat e62.d).length : Int)]).length)), (7, vI y22.1), (8, vO 2 0 2 0 0)] 1 [1, 3, 7, 8] ?_
           refine thenQ_n ?_
           obtain ⟨y31, gy31, ky31⟩ := bind_some h
           refine W_cut (by kernel_rfl) [bL 27 [aI a0_0, aI a0_1, aI a0_2, aI a0_3, aS e28 a0_4, aS e72 a0_5, aS e65 a0_6, aS e77 a0_7], some (rwB e44 0 44 y31), bL 65 [aS e62 ((a0_6.getD y22.1.toNat e65.d).1), aS e62 ((a0_6.getD y22.1.toNat e65.d).2)]] [(1, vO 0 0 8 0 0), (3, vW 1 0 y31.length), (7, vI y22.1), (8, vO 2 0 2 0 0)] ?_ ?_
           · have h := ky31; clear gy31 ky31
             refine js ?_
             refine jr ?_
             refine jg [(1, vO 0 0 8 0 0), (3, vW 1 0 y31.length), (7, vI y22.1), (8, vO 2 0 2 0 0), (10, vI 0)] 1 [1, 3, 7, 8, 10] ?_
             refine thenQ_n ?_
             refine jb 8 ?_
             obtain ⟨b33, gb33, kb33⟩ := bind_some h
             refine W_loop_at (S := fun (y32 : (Int × (List Int))) => ([bL 27 [aI a0_0, aI a0_1, aI a0_2, aI a0_3, aS e28 a0_4, aS e72 a0_5, aS e65 a0_6, aS e77 a0_7], some (rwB e44 0 44 y32.2), bL 65 [aS e62 ((a0_6.getD y22.1.toNat e65.d).1), aS e62 ((a0_6.getD y22.1.toNat e65.d).2)]], [(1, vO 0 0 8 0 0), (3, vW 1 0 y32.2.length), (7, vI y22.1), (8, vO 2 0 2 0 0), (10, vI y32.1)])) (step := _) (x0 := ((0 : Int), y31)) (b := b33) (L.ok _ _ _ gb33) (by kernel_rfl) (jE [.keep [1, 3, 7, 8, 10], .take 3, .ver0 1]) ?_
             clear gb33 h; intro y32 o h; unfold s21_2 at h
             refine js ?_
             refine js ?_
             refine jr ?_
             refine jg [(1, vO 0 0 8 0 0), (3, vW 1 0 y32.2.length), (7, vI y22.1), (8, vO 2 0 2 0 0), (10, vI y32.1), (142, vB (decide (y32.1 < (((a0_6.getD y22.1.toNat e65.d).2).length : Int))))] 5 [1, 3, 7, 8, 10, 142] ?_
             refine thenQ_n ?_
             refine jc (decide (y32.1 < (((a0_6.getD y22.1.toNat e65.d).2).length : Int))) (fun hb => ?_) (fun hb => ?_)
             · have h := cond_t hb h
               refine jk ?_
               refine thenQ_n ?_
               refine js ?_
               refine jb 9 ?_
               refine jr ?_
               obtain ⟨c34, h⟩ := ck_bind h
               refine jH [(1, vO 0 0 8 0 0), (7, vI y22.1), (8, vO 2 0 2 0 0), (10, vI y32.1), (145, vW 1 0 y32.2.length), (150, vS e61 (((a0_6.getD y22.1.toNat e65.d).2).getD y32.1.toNat e62.d))] ((0 ≤ y32.1 ∧ y32.1 < (((a0_6.getD y22.1.toNat e65.d).2).length : Int)) ∧ (True)) 6 [1, 7, 8, 10, 145, 150] ⟨c34, trivial⟩ ?_
               obtain ⟨r35, gr35, h⟩ := bind_some h
               refine WO_work [1] [0] [1] [0] [1, 7, 8, 10, 150] (f := 68) (args := [vW 0 1000 y32.2.length, vS e61 (((a0_6.getD y22.1.toNat e65.d).2).getD y32.1.toNat e62.d)]) (all := [vW 1 0 y32.2.length, vS e61 (((a0_6.getD y22.1.toNat e65.d).2).getD y32.1.toNat e62.d)]) (d := some 151) (r := vW 0 0 r35.length) (σin := [some (rwB e44 1000 44 y32.2)]) (σo := [some (rwB e44 0 44 r35)]) (n := 1) (T1 := [(1, vO 0 0 8 0 0), (7, vI y22.1), (8, vO 2 0 2 0 0), (10, vI y32.1), (150, vS e61 (((a0_6.getD y22.1.toNat e65.d).2).getD y32.1.toNat e62.d))]) (σ' := [bL 27 [aI a0_0, aI a0_1, aI a0_2, aI a0_3, aS e28 a0_4, aS e72 a0_5, aS e65 a0_6, aS e77 a0_7], some (rwB e44 1 44 r35), bL 65 [aS e62 ((a0_6.getD y22.1.toNat e65.d).1), aS e62 ((a0_6.getD y22.1.toNat e65.d).2)]]) (T' := [(151, vW 1 1 r35.length), (1, vO 0 0 8 0 0), (7, vI y22.1), (8, vO 2 0 2 0 0), (10, vI y32.1), (150, vS e61 (((a0_6.getD y22.1.toNat e65.d).2).getD y32.1.toNat e62.d))]) (by kernel_rfl) Tryd.call68 (w68 L _ _ _ gr35) (by kernel_rfl) (by kernel_rfl) (by kernel_rfl) ⟨by kernel_rfl, by decide, by kernel_rfl, by kernel_rfl, by kernel_rfl, by kernel_rfl, by kernel_rfl, by kernel_rfl, by kernel_rfl, by kernel_rfl, by kernel_rfl, by kernel_rfl⟩ (by kernel_rfl) (by kernel_rfl) (by kernel_rfl) (by kernel_rfl) ?_
               refine jg [(1, vO 0 0 8 0 0), (3, vW 1 1 r35.length), (7, vI y22.1), (8, vO 2 0 2 0 0), (10, vI y32.1)] 1 [1, 3, 7, 8, 10] ?_
               refine blockQ_n ?_
               refine thenQ_n ?_
               refine jr ?_
               obtain ⟨c36, h⟩ := ck_bind h
               refine jG [(1, vO 0 0 8 0 0), (3, vW 1 1 r35.length), (7, vI y22.1), (8, vO 2 0 2 0 0), (10, vI (y32.1 + (1 : Int)))] ((inR .i64 (y32.1 + (1 : Int))) ∧ (True)) 3 [1, 3, 7, 8, 10] ⟨c36, trivial⟩ ?_
               obtain rfl := si h
               exact round_n _ rfl (jE [.keep [1, 3, 7, 8, 10], .take 3, .ver0 1])
             · have h := cond_f hb h
               refine je 8 ?_
               refine thenQ_e ?_
               obtain rfl := si h; refine round_e rfl (fun hb => ?_); subst hb; have h := kb33
               refine blockQ_hit ?_
               refine blockQ_n ?_
               obtain rfl := si h
               exact thenQ_n (jE [.keep [1, 3, 7], .take 2, .ver0 1])
           · have h := gy31; clear gy31 ky31
             refine js ?_
             refine jr ?_
             refine jg [(1, vO 0 0 8 0 0), (3, vW 1 1 ((y22.2 ++ [(((a0_6.getD y22.1.toNat e65.d).1).length : Int), ((((a0_6.getD y22.1.toNat e65.d).1).getD (0 : Int).toNat e62.d).length : Int)]).length)), (7, vI y22.1), (8, vO 2 0 2 0 0), (9, vI 0)] 1 [1, 3, 7, 8, 9] ?_
             refine thenQ_n ?_
             refine jb 6 ?_
             obtain ⟨b38, gb38, kb38⟩ := bind_some h
             refine W_loop_at (S := fun (y37 : (Int × (List Int))) => ([bL 27 [aI a0_0, aI a0_1, aI a0_2, aI a0_3, aS e28 a0_4, aS e72 a0_5, aS e65 a0_6, aS e77 a0_7], some (rwB e44 0 44 y37.2), bL 65 [aS e62 ((a0_6.getD y22.1.toNat e65.d).1), aS e62 ((a0_6.getD y22.1.toNat e65.d).2)]], [(1, vO 0 0 8 0 0), (3, vW 1 0 y37.2.length), (7, vI y22.1), (8, vO 2 0 2 0 0), (9, vI y37.1)])) (step := _) (x0 := ((0 : Int), (y22.2 ++ [(((a0_6.getD y22.1.toNat e65.d).1).length : Int), ((((a0_6.getD y22.1.toNat e65.d).1).getD (0 : Int).toNat e62.d).length : Int)]))) (b := b38) (L.ok _ _ _ gb38) (by kernel_rfl) (jE [.keep [1, 3, 7, 8, 9], .take 3, .ver0 1]) ?_
             clear gb38 h; intro y37 o h; unfold s21_3 at h
             refine js ?_
             refine js ?_
             refine jr ?_
             refine jg [(1, vO 0 0 8 0 0), (3, vW 1 0 y37.2.length), (7, vI y22.1), (8, vO 2 0 2 0 0), (9, vI y37.1), (128, vB (decide (y37.1 < (((a0_6.getD y22.1.toNat e65.d).1).length : Int))))] 5 [1, 3, 7, 8, 9, 128] ?_
             refine thenQ_n ?_
             refine jc (decide (y37.1 < (((a0_6.getD y22.1.toNat e65.d).1).length : Int))) (fun hb => ?_) (fun hb => ?_)
             · have h := cond_t hb h
               refine jk ?_
               refine thenQ_n ?_
               refine js ?_
               refine jb 7 ?_
               refine jr ?_
               obtain ⟨c39, h⟩ := ck_bind h
               refine jH [(1, vO 0 0 8 0 0), (7, vI y22.1), (8, vO 2 0 2 0 0), (9, vI y37.1), (131, vW 1 0 y37.2.length), (136, vS e61 (((a0_6.getD y22.1.toNat e65.d).1).getD y37.1.toNat e62.d))] ((0 ≤ y37.1 ∧ y37.1 < (((a0_6.getD y22.1.toNat e65.d).1).length : Int)) ∧ (True)) 6 [1, 7, 8, 9, 131, 136] ⟨c39, trivial⟩ ?_
               obtain ⟨r40, gr40, h⟩ := bind_some h
               refine WO_work [1] [0] [1] [0] [1, 7, 8, 9, 136] (f := 68) (args := [vW 0 1000 y37.2.length, vS e61 (((a0_6.getD y22.1.toNat e65.d).1).getD y37.1.toNat e62.d)]) (all := [vW 1 0 y37.2.length, vS e61 (((a0_6.getD y22.1.toNat e65.d).1).getD y37.1.toNat e62.d)]) (d := some 137) (r := vW 0 0 r40.length) (σin := [some (rwB e44 1000 44 y37.2)]) (σo := [some (rwB e44 0 44 r40)]) (n := 1) (T1 := [(1, vO 0 0 8 0 0), (7, vI y22.1), (8, vO 2 0 2 0 0), (9, vI y37.1), (136, vS e61 (((a0_6.getD y22.1.toNat e65.d).1).getD y37.1.toNat e62.d))]) (σ' := [bL 27 [aI a0_0, aI a0_1, aI a0_2, aI a0_3, aS e28 a0_4, aS e72 a0_5, aS e65 a0_6, aS e77 a0_7], some (rwB e44 1 44 r40), bL 65 [aS e62 ((a0_6.getD y22.1.toNat e65.d).1), aS e62 ((a0_6.getD y22.1.toNat e65.d).2)]]) (T' := [(137, vW 1 1 r40.length), (1, vO 0 0 8 0 0), (7, vI y22.1), (8, vO 2 0 2 0 0), (9, vI y37.1), (136, vS e61 (((a0_6.getD y22.1.toNat e65.d).1).getD y37.1.toNat e62.d))]) (by kernel_rfl) Tryd.call68 (w68 L _ _ _ gr40) (by kernel_rfl) (by kernel_rfl) (by kernel_rfl) ⟨by kernel_rfl, by decide, by kernel_rfl, by kernel_rfl, by kernel_rfl, by kernel_rfl, by kernel_rfl, by kernel_rfl, by kernel_rfl, by kernel_rfl, by kernel_rfl, by kernel_rfl⟩ (by kernel_rfl) (by kernel_rfl) (by kernel_rfl) (by kernel_rfl) ?_
               refine jg [(1, vO 0 0 8 0 0), (3, vW 1 1 r40.length), (7, vI y22.1), (8, vO 2 0 2 0 0), (9, vI y37.1)] 1 [1, 3, 7, 8, 9] ?_
               refine blockQ_n ?_
               refine thenQ_n ?_
               refine jr ?_
               obtain ⟨c41, h⟩ := ck_bind h
               refine jG [(1, vO 0 0 8 0 0), (3, vW 1 1 r40.length), (7, vI y22.1), (8, vO 2 0 2 0 0), (9, vI (y37.1 + (1 : Int)))] ((inR .i64 (y37.1 + (1 : Int))) ∧ (True)) 3 [1, 3, 7, 8, 9] ⟨c41, trivial⟩ ?_
               obtain rfl := si h
               exact round_n _ rfl (jE [.keep [1, 3, 7, 8, 9], .take 3, .ver0 1])
             · have h := cond_f hb h
               refine je 6 ?_
               refine thenQ_e ?_
               obtain rfl := si h; refine round_e rfl (fun hb => ?_); subst hb; have h := kb38
               refine blockQ_hit ?_
               obtain rfl := si h
               exact thenQ_n (jE [.keep [1, 3, 7, 8], .take 3, .ver0 1])
       · have h := cond_f hb h
         refine je 4 ?_
         refine thenQ_e ?_
         obtain rfl := si h; refine round_e rfl (fun hb => ?_); subst hb; have h := kb23
         refine blockQ_hit ?_
         obtain rfl := si h
         exact thenQ_n (jE [.keep [1, 3], .take 2, .ver0 1])
   · have h := gy10; clear gy10 ky10
     refine js ?_
     refine jr ?_
     refine jg [(1, vO 0 0 8 0 0), (3, vW 1 0 ([a0_0, a0_1, a0_2, a0_3, (a0_4.length : Int), (a0_5.length : Int), (a0_6.length : Int), (a0_7.length : Int)].length)), (4, vI 0)] 1 [1, 3, 4] ?_
     refine thenQ_n ?_
     refine jb 0 ?_
     obtain ⟨b43, gb43, kb43⟩ := bind_some h
     refine W_loop_at (S := fun (y42 : (Int × (List Int))) => ([bL 27 [aI a0_0, aI a0_1, aI a0_2, aI a0_3, aS e28 a0_4, aS e72 a0_5, aS e65 a0_6, aS e77 a0_7], some (rwB e44 0 44 y42.2)], [(1, vO 0 0 8 0 0), (3, vW 1 0 y42.2.length), (4, vI y42.1)])) (step := _) (x0 := ((0 : Int), [a0_0, a0_1, a0_2, a0_3, (a0_4.length : Int), (a0_5.length : Int), (a0_6.length : Int), (a0_7.length : Int)])) (b := b43) (L.ok _ _ _ gb43) (by kernel_rfl) (jE [.keep [1, 3, 4], .take 2, .ver0 1]) ?_
     clear gb43 h; intro y42 o h; unfold s21_4 at h
     refine js ?_
     refine js ?_
     refine jr ?_
     refine jg [(1, vO 0 0 8 0 0), (3, vW 1 0 y42.2.length), (4, vI y42.1), (49, vB (decide (y42.1 < (a0_5.length : Int))))] 5 [1, 3, 4, 49] ?_
     refine thenQ_n ?_
     refine jc (decide (y42.1 < (a0_5.length : Int))) (fun hb => ?_) (fun hb => ?_)
     · have h := cond_t hb h
       refine jk ?_
       refine thenQ_n ?_
       obtain ⟨y44, gy44, ky44⟩ := bind_some h
       refine W_cut (by kernel_rfl) [bL 27 [aI a0_0, aI a0_1, aI a0_2, aI a0_3, aS e28 a0_4, aS e72 a0_5, aS e65 a0_6, aS e77 a0_7], some (rwB e44 0 44 y44)] [(1, vO 0 0 8 0 0), (3, vW 1 0 y44.length), (4, vI y42.1)] ?_ ?_
       · have h := ky44; clear gy44 ky44
         refine jr ?_
         obtain ⟨c45, h⟩ := ck_bind h
         refine jG [(1, vO 0 0 8 0 0), (3, vW 1 0 y44.length), (4, vI (y42.1 + (1 : Int)))] ((inR .i64 (y42.1 + (1 : Int))) ∧ (True)) 3 [1, 3, 4] ⟨c45, trivial⟩ ?_
         obtain rfl := si h
         exact round_n _ rfl (jE [.keep [1, 3, 4], .take 2, .ver0 1])
       · have h := gy44; clear gy44 ky44
         refine jb 1 ?_
         refine js ?_
         refine jr ?_
         obtain ⟨c46, h⟩ := ck_bind h
         refine jF [bL 27 [aI a0_0, aI a0_1, aI a0_2, aI a0_3, aS e28 a0_4, aS e72 a0_5, aS e65 a0_6, aS e77 a0_7], some (rwB e44 0 44 y42.2), bL 72 [aY ((a0_5.getD y42.1.toNat e72.d).1), aS e74 ((a0_5.getD y42.1.toNat e72.d).2)]] [(1, vO 0 0 8 0 0), (3, vW 1 0 y42.2.length), (4, vI y42.1), (5, vO 2 0 2 0 0)] ((0 ≤ y42.1 ∧ y42.1 < (a0_5.length : Int)) ∧ (True)) 7 [1, 3, 4, 5] ⟨c46, trivial⟩ ?_
         refine thenQ_n ?_
         refine js ?_
         refine jr ?_
         obtain ⟨c47, h⟩ := ck_bind h
         obtain ⟨c48, h⟩ := ck_bind h
         refine jH [(1, vO 0 0 8 0 0), (4, vI y42.1), (5, vO 2 0 2 0 0), (57, vW 1 0 y42.2.length), (60, vU ((a0_5.getD y42.1.toNat e72.d).1)), (64, vU (((a0_5.getD y42.1.toNat e72.d).2).length : Int))] ((inR .u64 ((a0_5.getD y42.1.toNat e72.d).1)) ∧ (inR .u64 (((a0_5.getD y42.1.toNat e72.d).2).length : Int)) ∧ (True)) 8 [1, 4, 5, 57, 60, 64] ⟨c47, c48, trivial⟩ ?_
         refine WO_q1 (r := .cell (.c (rawC 2 1 [.int .u64 ((a0_5.getD y42.1.toNat e72.d).1), .int .u64 (((a0_5.getD y42.1.toNat e72.d).2).length : Int)]))) (r' := vS e44 [(a0_5.getD y42.1.toNat e72.d).1, (((a0_5.getD y42.1.toNat e72.d).2).length : Int)]) (d := some 65) (φ := True) (raw_weak e44 (xs := [(a0_5.getD y42.1.toNat e72.d).1, (((a0_5.getD y42.1.toNat e72.d).2).length : Int)]) rfl rfl (by kernel_rfl) (by kernel_rfl)) (by kernel_rfl) trivial ?_
         obtain ⟨c49, h⟩ := ck_bind h
         refine WO_app e44 y42.2 [(a0_5.getD y42.1.toNat e72.d).1, (((a0_5.getD y42.1.toNat e72.d).2).length : Int)] (b := 1) (ver := 0) (e := 44) (d := 66) (row2 := fun i j => (e44.row ([(a0_5.getD y42.1.toNat e72.d).1, (((a0_5.getD y42.1.toNat e72.d).2).length : Int)].getD i e44.d)).getD j .jk) (Φ := (0 = 0 ∧ (y42.2.length + [(a0_5.getD y42.1.toNat e72.d).1, (((a0_5.getD y42.1.toNat e72.d).2).length : Int)].length) * 8 ≤ 140737488355328 ∧ y42.2.length + [(a0_5.getD y42.1.toNat e72.d).1, (((a0_5.getD y42.1.toNat e72.d).2).length : Int)].length ≤ 140737488355328) ∧ True) (σ' := [bL 27 [aI a0_0, aI a0_1, aI a0_2, aI a0_3, aS e28 a0_4, aS e72 a0_5, aS e65 a0_6, aS e77 a0_7], some (rwB e44 1 44 (y42.2 ++ [(a0_5.getD y42.1.toNat e72.d).1, (((a0_5.getD y42.1.toNat e72.d).2).length : Int)])), bL 72 [aY ((a0_5.getD y42.1.toNat e72.d).1), aS e74 ((a0_5.getD y42.1.toNat e72.d).2)]]) (T' := [(66, vW 1 1 ((y42.2 ++ [(a0_5.getD y42.1.toNat e72.d).1, (((a0_5.getD y42.1.toNat e72.d).2).length : Int)]).length)), (65, vS e44 [(a0_5.getD y42.1.toNat e72.d).1, (((a0_5.getD y42.1.toNat e72.d).2).length : Int)]), (1, vO 0 0 8 0 0), (4, vI y42.1), (5, vO 2 0 2 0 0), (57, vW 1 0 y42.2.length), (60, vU ((a0_5.getD y42.1.toNat e72.d).1)), (64, vU (((a0_5.getD y42.1.toNat e72.d).2).length : Int))]) (by kernel_rfl) ⟨⟨rfl, c49⟩, trivial⟩ (Nat.le_of_ble_eq_true (by kernel_rfl)) (fun _ _ _ _ => rfl) (by kernel_rfl) (by kernel_rfl) ?_
         refine jg [(1, vO 0 0 8 0 0), (3, vW 1 1 ((y42.2 ++ [(a0_5.getD y42.1.toNat e72.d).1, (((a0_5.getD y42.1.toNat e72.d).2).length : Int)]).length)), (4, vI y42.1), (5, vO 2 0 2 0 0)] 1 [1, 3, 4, 5] ?_
         refine thenQ_n ?_
         refine js ?_
         refine jr ?_
         refine jg [(1, vO 0 0 8 0 0), (3, vW 1 1 ((y42.2 ++ [(a0_5.getD y42.1.toNat e72.d).1, (((a0_5.getD y42.1.toNat e72.d).2).length : Int)]).length)), (4, vI y42.1), (5, vO 2 0 2 0 0), (6, vI 0)] 1 [1, 3, 4, 5, 6] ?_
         refine thenQ_n ?_
         refine jb 2 ?_
         obtain ⟨b51, gb51, kb51⟩ := bind_some h
         refine W_loop_at (S := fun (y50 : (Int × (List Int))) => ([bL 27 [aI a0_0, aI a0_1, aI a0_2, aI a0_3, aS e28 a0_4, aS e72 a0_5, aS e65 a0_6, aS e77 a0_7], some (rwB e44 0 44 y50.2), bL 72 [aY ((a0_5.getD y42.1.toNat e72.d).1), aS e74 ((a0_5.getD y42.1.toNat e72.d).2)]], [(1, vO 0 0 8 0 0), (3, vW 1 0 y50.2.length), (4, vI y42.1), (5, vO 2 0 2 0 0), (6, vI y50.1)])) (step := _) (x0 := ((0 : Int), (y42.2 ++ [(a0_5.getD y42.1.toNat e72.d).1, (((a0_5.getD y42.1.toNat e72.d).2).length : Int)]))) (b := b51) (L.ok _ _ _ gb51) (by kernel_rfl) (jE [.keep [1, 3, 4, 5, 6], .take 3, .ver0 1]) ?_
         clear gb51 h; intro y50 o h; unfold s21_5 at h
         refine js ?_
         refine js ?_
         refine jr ?_
         refine jg [(1, vO 0 0 8 0 0), (3, vW 1 0 y50.2.length), (4, vI y42.1), (5, vO 2 0 2 0 0), (6, vI y50.1), (71, vB (decide (y50.1 < (((a0_5.getD y42.1.toNat e72.d).2).length : Int))))] 5 [1, 3, 4, 5, 6, 71] ?_
         refine thenQ_n ?_
         refine jc (decide (y50.1 < (((a0_5.getD y42.1.toNat e72.d).2).length : Int))) (fun hb => ?_) (fun hb => ?_)
         · have h := cond_t hb h
           refine jk ?_
           refine thenQ_n ?_
           refine js ?_
           refine jb 3 ?_
           refine js ?_
           refine jdr 16 mixed ?_
           obtain ⟨c52, h⟩ := ck_bind h
           obtain ⟨c53, h⟩ := ck_bind h
           obtain ⟨c54, h⟩ := ck_bind h
           refine jY 1 [(1, vO 0 0 8 0 0), (4, vI y42.1), (5, vO 2 0 2 0 0), (6, vI y50.1), (74, vW 1 0 y50.2.length), (80, vU ((((a0_5.getD y42.1.toNat e72.d).2).getD y50.1.toNat e74.d).1)), (88, vU (((((a0_5.getD y42.1.toNat e72.d).2).getD y50.1.toNat e74.d).2).length : Int))] ((0 ≤ y50.1 ∧ y50.1 < (((a0_5.getD y42.1.toNat e72.d).2).length : Int)) ∧ (0 ≤ y50.1 ∧ y50.1 < (((a0_5.getD y42.1.toNat e72.d).2).length : Int)) ∧ (inR .u64 (((((a0_5.getD y42.1.toNat e72.d).2).getD y50.1.toNat e74.d).2).length : Int)) ∧ (True)) 15 [1, 4, 5, 6, 74, 80, 88] ⟨c52, c53, c54, trivial⟩ ?_
           refine WQ_q1 (r := .cell (.c (rawC 2 1 [.int .u64 ((((a0_5.getD y42.1.toNat e72.d).2).getD y50.1.toNat e74.d).1), .int .u64 (((((a0_5.getD y42.1.toNat e72.d).2).getD y50.1.toNat e74.d).2).length : Int)]))) (r' := vS e44 [(((a0_5.getD y42.1.toNat e72.d).2).getD y50.1.toNat e74.d).1, (((((a0_5.getD y42.1.toNat e72.d).2).getD y50.1.toNat e74.d).2).length : Int)]) (d := some 89) (φ := True) (raw_weak e44 (xs := [(((a0_5.getD y42.1.toNat e72.d).2).getD y50.1.toNat e74.d).1, (((((a0_5.getD y42.1.toNat e72.d).2).getD y50.1.toNat e74.d).2).length : Int)]) rfl rfl (by kernel_rfl) (by kernel_rfl)) (by kernel_rfl) trivial ?_
           refine WQ_done ?_
           obtain ⟨c55, h⟩ := ck_bind h
           refine WO_app e44 y50.2 [(((a0_5.getD y42.1.toNat e72.d).2).getD y50.1.toNat e74.d).1, (((((a0_5.getD y42.1.toNat e72.d).2).getD y50.1.toNat e74.d).2).length : Int)] (b := 1) (ver := 0) (e := 44) (d := 90) (row2 := fun i j => (e44.row ([(((a0_5.getD y42.1.toNat e72.d).2).getD y50.1.toNat e74.d).1, (((((a0_5.getD y42.1.toNat e72.d).2).getD y50.1.toNat e74.d).2).length : Int)].getD i e44.d)).getD j .jk) (Φ := (0 = 0 ∧ (y50.2.length + [(((a0_5.getD y42.1.toNat e72.d).2).getD y50.1.toNat e74.d).1, (((((a0_5.getD y42.1.toNat e72.d).2).getD y50.1.toNat e74.d).2).length : Int)].length) * 8 ≤ 140737488355328 ∧ y50.2.length + [(((a0_5.getD y42.1.toNat e72.d).2).getD y50.1.toNat e74.d).1, (((((a0_5.getD y42.1.toNat e72.d).2).getD y50.1.toNat e74.d).2).length : Int)].length ≤ 140737488355328) ∧ True) (σ' := [bL 27 [aI a0_0, aI a0_1, aI a0_2, aI a0_3, aS e28 a0_4, aS e72 a0_5, aS e65 a0_6, aS e77 a0_7], some (rwB e44 1 44 (y50.2 ++ [(((a0_5.getD y42.1.toNat e72.d).2).getD y50.1.toNat e74.d).1, (((((a0_5.getD y42.1.toNat e72.d).2).getD y50.1.toNat e74.d).2).length : Int)])), bL 72 [aY ((a0_5.getD y42.1.toNat e72.d).1), aS e74 ((a0_5.getD y42.1.toNat e72.d).2)]]) (T' := [(90, vW 1 1 ((y50.2 ++ [(((a0_5.getD y42.1.toNat e72.d).2).getD y50.1.toNat e74.d).1, (((((a0_5.getD y42.1.toNat e72.d).2).getD y50.1.toNat e74.d).2).length : Int)]).length)), (89, vS e44 [(((a0_5.getD y42.1.toNat e72.d).2).getD y50.1.toNat e74.d).1, (((((a0_5.getD y42.1.toNat e72.d).2).getD y50.1.toNat e74.d).2).length : Int)]), (1, vO 0 0 8 0 0), (4, vI y42.1), (5, vO 2 0 2 0 0), (6, vI y50.1), (74, vW 1 0 y50.2.length), (80, vU ((((a0_5.getD y42.1.toNat e72.d).2).getD y50.1.toNat e74.d).1)), (88, vU (((((a0_5.getD y42.1.toNat e72.d).2).getD y50.1.toNat e74.d).2).length : Int))]) (by kernel_rfl) ⟨⟨rfl, c55⟩, trivial⟩ (Nat.le_of_ble_eq_true (by kernel_rfl)) (fun _ _ _ _ => rfl) (by kernel_rfl) (by kernel_rfl) ?_
           refine jg [(1, vO 0 0 8 0 0), (3, vW 1 1 ((y50.2 ++ [(((a0_5.getD y42.1.toNat e72.d).2).getD y50.1.toNat e74.d).1, (((((a0_5.getD y42.1.toNat e72.d).2).getD y50.1.toNat e74.d).2).length : Int)]).length)), (4, vI y42.1), (5, vO 2 0 2 0 0), (6, vI y50.1)] 1 [1, 3, 4, 5, 6] ?_
           refine thenQ_n ?_
           refine jr ?_
           obtain ⟨c56, h⟩ := ck_bind h
           refine jH [(1, vO 0 0 8 0 0), (4, vI y42.1), (5, vO 2 0 2 0 0), (6, vI y50.1), (91, vW 1 1 ((y50.2 ++ [(((a0_5.getD y42.1.toNat e72.d).2).getD y50.1.toNat e74.d).1, (((((a0_5.getD y42.1.toNat e72.d).2).getD y50.1.toNat e74.d).2).length : Int)]).length)), (97, vS e61 ((((a0_5.getD y42.1.toNat e72.d).2).getD y50.1.toNat e74.d).2))] ((0 ≤ y50.1 ∧ y50.1 < (((a0_5.getD y42.1.toNat e72.d).2).length : Int)) ∧ (True)) 7 [1, 4, 5, 6, 91, 97] ⟨c56, trivial⟩ ?_
           obtain ⟨r57, gr57, h⟩ := bind_some h
           refine WO_work [1] [1] [2] [0] [1, 4, 5, 6, 97] (f := 68) (args := [vW 0 1000 ((y50.2 ++ [(((a0_5.getD y42.1.toNat e72.d).2).getD y50.1.toNat e74.d).1, (((((a0_5.getD y42.1.toNat e72.d).2).getD y50.1.toNat e74.d).2).length : Int)]).length), vS e61 ((((a0_5.getD y42.1.toNat e72.d).2).getD y50.1.toNat e74.d).2)]) (all := [vW 1 1 ((y50.2 ++ [(((a0_5.getD y42.1.toNat e72.d).2).getD y50.1.toNat e74.d).1, (((((a0_5.getD y42.1.toNat e72.d).2).getD y50.1.toNat e74.d).2).length : Int)]).length), vS e61 ((((a0_5.getD y42.1.toNat e72.d).2).getD y50.1.toNat e74.d).2)]) (d := some 98) (r := vW 0 0 r57.length) (σin := [some (rwB e44 1000 44 (y50.2 ++ [(((a0_5.getD y42.1.toNat e72.d).2).getD y50.1.toNat e74.d).1, (((((a0_5.getD y42.1.toNat e72.d).2).getD y50.1.toNat e74.d).2).length : Int)]))]) (σo := [some (rwB e44 0 44 r57)]) (n := 1) (T1 := [(1, vO 0 0 8 0 0), (4, vI y42.1), (5, vO 2 0 2 0 0), (6, vI y50.1), (97, vS e61 ((((a0_5.getD y42.1.toNat e72.d).2).getD y50.1.toNat e74.d).2))]) (σ' := [bL 27 [aI a0_0, aI a0_1, aI a0_2, aI a0_3, aS e28 a0_4, aS e72 a0_5, aS e65 a0_6, aS e77 a0_7], some (rwB e44 2 44 r57), bL 72 [aY ((a0_5.getD y42.1.toNat e72.d).1), aS e74 ((a0_5.getD y42.1.toNat e72.d).2)]]) (T' := [(98, vW 1 2 r57.length), (1, vO 0 0 8 0 0), (4, vI y42.1), (5, vO 2 0 2 0 0), (6, vI y50.1), (97, vS e61 ((((a0_5.getD y42.1.toNat e72.d).2).getD y50.1.toNat e74.d).2))]) (by kernel_rfl) Tryd.call68 (w68 L _ _ _ gr57) (by kernel_rfl) (by kernel_rfl) (by kernel_rfl) ⟨by kernel_rfl, by decide, by kernel_rfl, by kernel_rfl, by kernel_rfl, by kernel_rfl, by kernel_rfl, by kernel_rfl, by kernel_rfl, by kernel_rfl, by kernel_rfl, by kernel_rfl⟩ (by kernel_rfl) (by kernel_rfl) (by kernel_rfl) (by kernel_rfl) ?_
           refine jg [(1, vO 0 0 8 0 0), (3, vW 1 2 r57.length), (4, vI y42.1), (5, vO 2 0 2 0 0), (6, vI y50.1)] 1 [1, 3, 4, 5, 6] ?_
           refine blockQ_n ?_
           refine thenQ_n ?_
           refine jr ?_
           obtain ⟨c58, h⟩ := ck_bind h
           refine jG [(1, vO 0 0 8 0 0), (3, vW 1 2 r57.length), (4, vI y42.1), (5, vO 2 0 2 0 0), (6, vI (y50.1 + (1 : Int)))] ((inR .i64 (y50.1 + (1 : Int))) ∧ (True)) 3 [1, 3, 4, 5, 6] ⟨c58, trivial⟩ ?_
           obtain rfl := si h
           exact round_n _ rfl (jE [.keep [1, 3, 4, 5, 6], .take 3, .ver0 1])
         · have h := cond_f hb h
           refine je 2 ?_
           refine thenQ_e ?_
           obtain rfl := si h; refine round_e rfl (fun hb => ?_); subst hb; have h := kb51
           refine blockQ_hit ?_
           refine blockQ_n ?_
           obtain rfl := si h
           exact thenQ_n (jE [.keep [1, 3, 4], .take 2, .ver0 1])
     · have h := cond_f hb h
       refine je 0 ?_
       refine thenQ_e ?_
       obtain rfl := si h; refine round_e rfl (fun hb => ?_); subst hb; have h := kb43
       refine blockQ_hit ?_
       obtain rfl := si h
       exact thenQ_n (jE [.keep [1, 3], .take 2, .ver0 1])

/- attestorlaw13.SystemValid -/
def s5 (L : LP) (a0_0 : Int) (a0_1 : Int) (a0_2 : Int) (a0_3 : Int) (a0_4 : (List (List Int))) (a0_5 : (List (Int × (List (Int × (List (Int × Int))))))) (a0_6 : (List ((List (List (Int × Int))) × (List (List (Int × Int)))))) (a0_7 : (List ((List (Int × Int)) × (List (Int × Int)) × Int × Int))) : Option Bool :=
  (s9 L a0_0 a0_1 a0_2 a0_3 a0_4 a0_5 a0_6 a0_7).bind fun r1 =>
  (bif (!r1) then
  (s11 L).bind fun r2 =>
  some r2
  else (s18 L a0_0 a0_1 a0_2 a0_3 a0_4 a0_5 a0_6 a0_7).bind fun r3 =>
  (s15 L a0_0 a0_1 a0_2 a0_3 a0_4 a0_5 a0_6 a0_7).bind fun r4 =>
  (bif (r3 == r4) then (s19 L a0_0 a0_1 a0_2 a0_3 a0_4 a0_5 a0_6 a0_7).bind fun r12 =>
  (s20 L a0_0 a0_1 a0_2 a0_3 a0_4 a0_5 a0_6 a0_7).bind fun r13 =>
  some (decide (r12 = r13))
  else some false).bind fun y5 =>
  (bif y5 then (s16 L a0_0 a0_1 a0_2 a0_3 a0_4 a0_5 a0_6 a0_7).bind fun r9 =>
  (s21 L a0_0 a0_1 a0_2 a0_3 a0_4 a0_5 a0_6 a0_7).bind fun r10 =>
  (s14 L r9 r10).bind fun r11 =>
  some r11
  else some false).bind fun y6 =>
  (bif y6 then (s11 L).bind fun r8 =>
  some r8
  else some false).bind fun y7 =>
  some y7)
theorem p5 (L : LP) (a0_0 : Int) (a0_1 : Int) (a0_2 : Int) (a0_3 : Int) (a0_4 : (List (List Int))) (a0_5 : (List (Int × (List (Int × (List (Int × Int))))))) (a0_6 : (List ((List (List (Int × Int))) × (List (List (Int × Int)))))) (a0_7 : (List ((List (Int × Int)) × (List (Int × Int)) × Int × Int))) (r : Bool) (h : s5 L a0_0 a0_1 a0_2 a0_3 a0_4 a0_5 a0_6 a0_7 = some r) : Pure X 5 [.agg [aI a0_0, aI a0_1, aI a0_2, aI a0_3, aS e28 a0_4, aS e72 a0_5, aS e65 a0_6, aS e77 a0_7]] (vB r) := by
 refine Pure_of_W (c := cd Tryd.f5 []) Tryd.func5 (by kernel_rfl) (N := 29) (by kernel_rfl) (Nat.le_of_ble_eq_true (by kernel_rfl)) ?_
 unfold s5 at h
 refine js ?_
 refine jr ?_
 refine jf [bL 27 [aI a0_0, aI a0_1, aI a0_2, aI a0_3, aS e28 a0_4, aS e72 a0_5, aS e65 a0_6, aS e77 a0_7]] [(1, vO 0 0 8 0 0)] 2 [1] ?_
 refine thenQ_n ?_
 refine js ?_
 refine js ?_
 refine jr ?_
 refine jh [(1, vO 0 0 8 0 0), (3, .agg [aI a0_0, aI a0_1, aI a0_2, aI a0_3, aS e28 a0_4, aS e72 a0_5, aS e65 a0_6, aS e77 a0_7])] 1 [1, 3] ?_
 obtain ⟨r1, gr1, h⟩ := bind_some h
 refine jl 4 Tryd.call9 (p9 L _ _ _ _ _ _ _ _ _ gr1) ?_
 refine jg [(1, vO 0 0 8 0 0), (5, vB (!r1))] 1 [1, 5] ?_
 refine thenQ_n ?_
 refine jc (!r1) (fun hb => ?_) (fun hb => ?_)
 · have h := cond_t hb h
   refine js ?_
   refine jr ?_
   obtain ⟨r2, gr2, h⟩ := bind_some h
   refine jl 6 Tryd.call11 (p11 L  _ gr2) ?_
   refine jg [(2, vB r2)] 1 [2] ?_
   refine thenQ_n ?_
   refine jt ?_
   refine thenQ_r ?_
   obtain rfl := si h
   exact jq [vB r2]
 · have h := cond_f hb h
   refine jk ?_
   refine thenQ_n ?_
   refine js ?_
   refine jdr 19 mixed ?_
   refine jy 18 [(1, vO 0 0 8 0 0), (7, .agg [aI a0_0, aI a0_1, aI a0_2, aI a0_3, aS e28 a0_4, aS e72 a0_5, aS e65 a0_6, aS e77 a0_7])] 1 [1, 7] ?_
   obtain ⟨r3, gr3, h⟩ := bind_some h
   refine jL 8 Tryd.call18 (p18 L _ _ _ _ _ _ _ _ _ gr3) ?_
   refine jy 16 [(1, vO 0 0 8 0 0), (8, vB r3), (9, .agg [aI a0_0, aI a0_1, aI a0_2, aI a0_3, aS e28 a0_4, aS e72 a0_5, aS e65 a0_6, aS e77 a0_7])] 1 [1, 8, 9] ?_
   obtain ⟨r4, gr4, h⟩ := bind_some h
   refine jL 10 Tryd.call15 (p15 L _ _ _ _ _ _ _ _ _ gr4) ?_
   refine jy 13 [(1, vO 0 0 8 0 0), (12, vB (r3 == r4))] 2 [1, 12] ?_
   obtain ⟨y5, gy5, h⟩ := bind_some h
   refine WQ_join 7 12 [(1, vO 0 0 8 0 0), (18, vB y5)] ?_ ?_
   · clear gy5
     refine jy 6 [(1, vO 0 0 8 0 0), (19, vB y5)] 1 [1, 19] ?_
     obtain ⟨y6, gy6, h⟩ := bind_some h
     refine WQ_join 0 19 [(25, vB y6)] ?_ ?_
     · clear gy6
       refine WQ_done ?_
       refine jh [(26, vB y6)] 1 [26] ?_
       obtain ⟨y7, gy7, h⟩ := bind_some h
       refine jj 22 [(28, vB y7)] ?_ ?_
       · clear gy7
         refine jg [(2, vB y7)] 1 [2] ?_
         refine thenQ_n ?_
         refine jt ?_
         obtain rfl := si h
         exact jq [vB y7]
       · intro J
         clear h
         rcases Bool.eq_false_or_eq_true y6 with hb | hb
         · have h := cond_t hb gy7; clear gy7
           refine jd 26 hb ?_
           obtain ⟨r8, gr8, h⟩ := bind_some h
           refine jl 27 Tryd.call11 (p11 L  _ gr8) ?_
           obtain rfl := si h
           refine jh [(28, vB r8)] 1 [28] J
         · have h := cond_f hb gy7; clear gy7
           refine jd 26 hb ?_
           obtain rfl := si h
           refine jh [(28, vB false)] 2 [28] J
     · intro J
       clear h
       rcases Bool.eq_false_or_eq_true y5 with hb | hb
       · have h := cond_t hb gy6; clear gy6
         refine jD 19 hb ?_
         refine jy 5 [(1, vO 0 0 8 0 0), (19, vB true), (20, .agg [aI a0_0, aI a0_1, aI a0_2, aI a0_3, aS e28 a0_4, aS e72 a0_5, aS e65 a0_6, aS e77 a0_7])] 1 [1, 19, 20] ?_
         obtain ⟨r9, gr9, h⟩ := bind_some h
         refine jL 21 Tryd.call16 (p16 L _ _ _ _ _ _ _ _ _ gr9) ?_
         refine jy 3 [(19, vB true), (21, vS e44 r9), (22, .agg [aI a0_0, aI a0_1, aI a0_2, aI a0_3, aS e28 a0_4, aS e72 a0_5, aS e65 a0_6, aS e77 a0_7])] 1 [19, 21, 22] ?_
         obtain ⟨r10, gr10, h⟩ := bind_some h
         refine jL 23 Tryd.call21 (p21 L _ _ _ _ _ _ _ _ _ gr10) ?_
         obtain ⟨r11, gr11, h⟩ := bind_some h
         refine jL 24 Tryd.call14 (p14 L _ _ _ gr11) ?_
         obtain rfl := si h
         refine jy 0 [(25, vB r11)] 1 [25] J
       · have h := cond_f hb gy6; clear gy6
         refine jD 19 hb ?_
         obtain rfl := si h
         refine jy 0 [(25, vB false)] 6 [25] J
   · intro J
     clear h
     rcases Bool.eq_false_or_eq_true (r3 == r4) with hb | hb
     · have h := cond_t hb gy5; clear gy5
       refine jD 12 hb ?_
       refine jy 12 [(1, vO 0 0 8 0 0), (12, vB true), (13, .agg [aI a0_0, aI a0_1, aI a0_2, aI a0_3, aS e28 a0_4, aS e72 a0_5, aS e65 a0_6, aS e77 a0_7])] 1 [1, 12, 13] ?_
       obtain ⟨r12, gr12, h⟩ := bind_some h
       refine jL 14 Tryd.call19 (p19 L _ _ _ _ _ _ _ _ _ gr12) ?_
       refine jy 10 [(1, vO 0 0 8 0 0), (12, vB true), (14, vI r12), (15, .agg [aI a0_0, aI a0_1, aI a0_2, aI a0_3, aS e28 a0_4, aS e72 a0_5, aS e65 a0_6, aS e77 a0_7])] 1 [1, 12, 14, 15] ?_
       obtain ⟨r13, gr13, h⟩ := bind_some h
       refine jL 16 Tryd.call20 (p20 L _ _ _ _ _ _ _ _ _ gr13) ?_
       refine jy 8 [(1, vO 0 0 8 0 0), (12, vB true), (17, vB (decide (r12 = r13)))] 1 [1, 12, 17] ?_
       obtain rfl := si h
       refine jy 7 [(1, vO 0 0 8 0 0), (18, vB (decide (r12 = r13)))] 1 [1, 18] J
     · have h := cond_f hb gy5; clear gy5
       refine jD 12 hb ?_
       obtain rfl := si h
       refine jy 7 [(1, vO 0 0 8 0 0), (18, vB false)] 6 [1, 18] J
end Go.Proofs.YtkbpafipbhaknaaDoor
