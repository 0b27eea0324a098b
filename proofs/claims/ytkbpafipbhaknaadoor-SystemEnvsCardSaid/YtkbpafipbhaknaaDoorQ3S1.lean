/- What functions compute. -/
import Derived.Test.YtkbpafipbhaknaaDoorQ3Cx
namespace Go.Proofs.YtkbpafipbhaknaaDoor
open Go Go.Av
set_option maxRecDepth 100000
set_option linter.unusedVariables false
def e61 : En (Int × Int) := ⟨2, fun x => [.int .u8 x.1, .int .i64 x.2], (0, 0)⟩
def e62 : En (List (Int × Int)) := ⟨1, fun x => [slC e61 x], []⟩
def e28 : En (List Int) := ⟨1, fun x => [slC e44 x], []⟩
def e74 : En (Int × (List (Int × Int))) := ⟨2, fun x => [.int .u64 x.1, slC e61 x.2], (0, [])⟩
def e72 : En (Int × (List (Int × (List (Int × Int))))) := ⟨2, fun x => [.int .u8 x.1, slC e74 x.2], (0, [])⟩
def e65 : En ((List (List (Int × Int))) × (List (List (Int × Int)))) := ⟨2, fun x => [slC e62 x.1, slC e62 x.2], ([], [])⟩
def e77 : En ((List (Int × Int)) × (List (Int × Int)) × Int × Int) := ⟨4, fun x => [slC e61 x.1, slC e61 x.2.1, .int .u8 x.2.2.1, .int .i64 x.2.2.2], ([], [], 0, 0)⟩
def e63 : En (List (List (Int × Int))) := ⟨1, fun x => [slC e62 x], []⟩
def e59 : En Int := ⟨1, fun x => [.int .u8 x], 0⟩
def e85 : En (Int × Int) := ⟨2, fun x => [.int .i64 x.1, .int .i64 x.2], (0, 0)⟩
/- attestorlaw13.tuples -/
def s38_0 (L : LP) (a0 : (List (List (Int × Int)))) (y2 : (Int × Int)) : Option ((Int × Int) ⊕ Int) :=
  (bif (decide (y2.2 < (a0.length : Int))) then
  (ck (0 ≤ y2.2 ∧ y2.2 < (a0.length : Int))).bind fun _ =>
  some (.inl ((IntKind.wrap .i64 (y2.1 + ((a0.getD y2.2.toNat e62.d).length : Int))), (IntKind.wrap .i64 (y2.2 + (1 : Int)))))
  else some (.inr y2.1))
def s38 (L : LP) (a0 : (List (List (Int × Int)))) : Option Int :=
  ((L.run (s38_0 L a0) ((a0.length : Int), (0 : Int))).bind (fun (v : Int) => some v)).bind fun (y1 : Int) =>
  some y1
theorem p38 (L : LP) (a0 : (List (List (Int × Int)))) (r : Int) (h : s38 L a0 = some r) : Pure X 38 [.cell (.c (slC e62 a0))] (.cell (.c (.int .i64 r))) := by
  refine Pure_of_W (c := cd Tryd.f38 []) Tryd.func38 (by kernel_rfl) (N := 21) (by kernel_rfl) (Nat.le_of_ble_eq_true (by kernel_rfl)) ?_
  unfold s38 at h
  refine W_seq_at (by kernel_rfl) ?_
  refine W_region_at (by kernel_rfl) ?_
  refine WO_fin (σ' := []) (T' := [(0, .cell (.c (slC e62 a0)))]) (Φ := (True)) 1 [0] (by kernel_rfl) trivial (by kernel_rfl) ?_
  refine thenQ_n ?_
  refine W_seq_at (by kernel_rfl) ?_
  refine W_region_at (by kernel_rfl) ?_
  refine WO_fin (σ' := []) (T' := [(0, .cell (.c (slC e62 a0))), (3, .cell (.c (.int .i64 (a0.length : Int))))]) (Φ := (True)) 3 [0, 3] (by kernel_rfl) trivial (by kernel_rfl) ?_
  refine thenQ_n ?_
  obtain ⟨y1, gy1, ky1⟩ := bind_some h
  refine W_cut (by kernel_rfl) [] [(3, .cell (.c (.int .i64 y1)))] ?_ ?_
  · have h := ky1; clear gy1 ky1
    refine W_seq_at (by kernel_rfl) ?_
    refine W_region_at (by kernel_rfl) ?_
    refine WO_fin (σ' := []) (T' := [(2, .cell (.c (.int .i64 y1)))]) (Φ := (True)) 2 [2] (by kernel_rfl) trivial (by kernel_rfl) ?_
    refine thenQ_n ?_
    refine W_ret_at (by kernel_rfl) ?_
    obtain rfl := Option.some.inj h
    exact qret [.cell (.c (.int .i64 y1))] (by kernel_rfl) (by kernel_rfl) ([]) (by kernel_rfl)
  · have h := gy1; clear gy1 ky1
    refine W_seq_at (by kernel_rfl) ?_
    refine W_region_at (by kernel_rfl) ?_
    refine WO_fin (σ' := []) (T' := [(0, .cell (.c (slC e62 a0))), (3, .cell (.c (.int .i64 (a0.length : Int)))), (4, .cell (.c (.int .i64 (0 : Int))))]) (Φ := (True)) 1 [0, 3, 4] (by kernel_rfl) trivial (by kernel_rfl) ?_
    refine thenQ_n ?_
    refine W_block_at 0 (by kernel_rfl) (by kernel_rfl) ?_
    obtain ⟨b3, gb3, kb3⟩ := bind_some h
    refine W_loop_at (S := fun (y2 : (Int × Int)) => ([], [(0, .cell (.c (slC e62 a0))), (3, .cell (.c (.int .i64 y2.1))), (4, .cell (.c (.int .i64 y2.2)))])) (step := _) (x0 := ((a0.length : Int), (0 : Int))) (b := b3) (L.ok _ _ _ gb3) (by kernel_rfl) (stps_ok [.keep [0, 3, 4], .take 0] (by kernel_rfl)) ?_
    clear gb3 h; intro y2 o h; unfold s38_0 at h
    refine W_seq_at (by kernel_rfl) ?_
    refine W_seq_at (by kernel_rfl) ?_
    refine W_region_at (by kernel_rfl) ?_
    refine WO_fin (σ' := []) (T' := [(0, .cell (.c (slC e62 a0))), (3, .cell (.c (.int .i64 y2.1))), (4, .cell (.c (.int .i64 y2.2))), (10, .cell (.c (.bool (decide (y2.2 < (a0.length : Int))))))]) (Φ := (True)) 4 [0, 3, 4, 10] (by kernel_rfl) trivial (by kernel_rfl) ?_
    refine thenQ_n ?_
    refine W_cond_at (b := (decide (y2.2 < (a0.length : Int)))) (by kernel_rfl) (fun hb => ?_) (fun hb => ?_)
    · have h := cond_t hb h
      refine W_skip_at (by kernel_rfl) ?_
      refine thenQ_n ?_
      refine W_seq_at (by kernel_rfl) ?_
      refine W_block_at 1 (by kernel_rfl) (by kernel_rfl) ?_
      refine W_region_at (by kernel_rfl) ?_
      obtain ⟨c4, h⟩ := ck_bind h
      refine WO_exk (σ' := []) (T' := [(0, .cell (.c (slC e62 a0))), (4, .cell (.c (.int .i64 y2.2))), (13, .cell (.c (.int .i64 y2.1))), (18, .cell (.c (.int .i64 ((a0.getD y2.2.toNat e62.d).length : Int))))]) (Φ := (0 ≤ y2.2 ∧ y2.2 < (a0.length : Int)) ∧ (True)) 6 [0, 4, 13, 18] (by kernel_rfl) ⟨c4, trivial⟩ ?_
      refine WO_wrapadd (d := some 19) (ki := .i64) (a := y2.1) (b := ((a0.getD y2.2.toNat e62.d).length : Int)) (by kernel_rfl) ?_
      refine WO_fin (σ' := []) (T' := [(0, .cell (.c (slC e62 a0))), (3, .cell (.c (.int .i64 (IntKind.wrap .i64 (y2.1 + ((a0.getD y2.2.toNat e62.d).length : Int)))))), (4, .cell (.c (.int .i64 y2.2)))]) (Φ := (True)) 1 [0, 3, 4] (by kernel_rfl) trivial (by kernel_rfl) ?_
      refine blockQ_n ?_
      refine thenQ_n ?_
      refine W_region_at (by kernel_rfl) ?_
      refine WO_exk (σ' := []) (T' := [(0, .cell (.c (slC e62 a0))), (3, .cell (.c (.int .i64 (IntKind.wrap .i64 (y2.1 + ((a0.getD y2.2.toNat e62.d).length : Int)))))), (11, .cell (.c (.int .i64 y2.2)))]) (Φ := (True)) 1 [0, 3, 11] (by kernel_rfl) trivial ?_
      refine WO_wrapadd (d := some 12) (ki := .i64) (a := y2.2) (b := (1 : Int)) (by kernel_rfl) ?_
      refine WO_fin (σ' := []) (T' := [(0, .cell (.c (slC e62 a0))), (3, .cell (.c (.int .i64 (IntKind.wrap .i64 (y2.1 + ((a0.getD y2.2.toNat e62.d).length : Int)))))), (4, .cell (.c (.int .i64 (IntKind.wrap .i64 (y2.2 + (1 : Int))))))]) (Φ := (True)) 1 [0, 3, 4] (by kernel_rfl) trivial (by kernel_rfl) ?_
      obtain rfl := Option.some.inj h
      exact round_n _ rfl (stps_ok [.keep [0, 3, 4], .take 0] (by kernel_rfl))
    · have h := cond_f hb h
      refine W_exit_at 0 (by kernel_rfl) (by kernel_rfl) ?_
      refine thenQ_e ?_
      obtain rfl := Option.some.inj h; refine round_e rfl (fun hb => ?_); subst hb; have h := kb3
      refine blockQ_hit ?_
      obtain rfl := Option.some.inj h
      exact thenQ_n (stps_ok [.keep [3], .take 0] (by kernel_rfl))

/- attestorlaw13.small -/
def s9_0 (L : LP) (a0_7 : (List ((List (Int × Int)) × (List (Int × Int)) × Int × Int))) (y10 : (Int × Int)) : Option ((Int × Int) ⊕ Int) :=
  (bif (decide (y10.2 < (a0_7.length : Int))) then
  (ck (0 ≤ y10.2 ∧ y10.2 < (a0_7.length : Int))).bind fun _ =>
  (ck (0 ≤ y10.2 ∧ y10.2 < (a0_7.length : Int))).bind fun _ =>
  some (.inl ((IntKind.wrap .i64 ((IntKind.wrap .i64 (y10.1 + (((a0_7.getD y10.2.toNat e77.d).1).length : Int))) + (((a0_7.getD y10.2.toNat e77.d).2.1).length : Int))), (IntKind.wrap .i64 (y10.2 + (1 : Int)))))
  else some (.inr y10.1))
def s9_1 (L : LP) (a0_6 : (List ((List (List (Int × Int))) × (List (List (Int × Int)))))) (y14 : (Int × Int)) : Option ((Int × Int) ⊕ Int) :=
  (bif (decide (y14.2 < (a0_6.length : Int))) then
  (ck (0 ≤ y14.2 ∧ y14.2 < (a0_6.length : Int))).bind fun _ =>
  (s38 L ((a0_6.getD y14.2.toNat e65.d).1)).bind fun r17 =>
  (ck (0 ≤ y14.2 ∧ y14.2 < (a0_6.length : Int))).bind fun _ =>
  (s38 L ((a0_6.getD y14.2.toNat e65.d).2)).bind fun r19 =>
  some (.inl ((IntKind.wrap .i64 ((IntKind.wrap .i64 (y14.1 + r17)) + r19)), (IntKind.wrap .i64 (y14.2 + (1 : Int)))))
  else some (.inr y14.1))
def s9_3 (L : LP) (a0_5 : (List (Int × (List (Int × (List (Int × Int))))))) (y20 : (Int × Int)) (y24 : (Int × Int)) : Option ((Int × Int) ⊕ Int) :=
  (ck (0 ≤ y20.2 ∧ y20.2 < (a0_5.length : Int))).bind fun _ =>
  (bif (decide (y24.2 < (((a0_5.getD y20.2.toNat e72.d).2).length : Int))) then
  (ck (0 ≤ y20.2 ∧ y20.2 < (a0_5.length : Int))).bind fun _ =>
  (ck (0 ≤ y24.2 ∧ y24.2 < (((a0_5.getD y20.2.toNat e72.d).2).length : Int))).bind fun _ =>
  some (.inl ((IntKind.wrap .i64 (y24.1 + (((((a0_5.getD y20.2.toNat e72.d).2).getD y24.2.toNat e74.d).2).length : Int))), (IntKind.wrap .i64 (y24.2 + (1 : Int)))))
  else some (.inr y24.1))
def s9_2 (L : LP) (a0_5 : (List (Int × (List (Int × (List (Int × Int))))))) (y20 : (Int × Int)) : Option ((Int × Int) ⊕ Int) :=
  (bif (decide (y20.2 < (a0_5.length : Int))) then
  ((ck (0 ≤ y20.2 ∧ y20.2 < (a0_5.length : Int))).bind fun _ =>
  (L.run (s9_3 L a0_5 y20) ((IntKind.wrap .i64 (y20.1 + (((a0_5.getD y20.2.toNat e72.d).2).length : Int))), (0 : Int))).bind (fun (v : Int) => some v)).bind fun (y22 : Int) =>
  some (.inl (y22, (IntKind.wrap .i64 (y20.2 + (1 : Int)))))
  else some (.inr y20.1))
def s9_4 (L : LP) (a0_4 : (List (List Int))) (y29 : (Int × Int)) : Option ((Int × Int) ⊕ Int) :=
  (bif (decide (y29.2 < (a0_4.length : Int))) then
  (ck (0 ≤ y29.2 ∧ y29.2 < (a0_4.length : Int))).bind fun _ =>
  some (.inl ((IntKind.wrap .i64 (y29.1 + ((a0_4.getD y29.2.toNat e28.d).length : Int))), (IntKind.wrap .i64 (y29.2 + (1 : Int)))))
  else some (.inr y29.1))
def s9 (L : LP) (a0_0 : Int) (a0_1 : Int) (a0_2 : Int) (a0_3 : Int) (a0_4 : (List (List Int))) (a0_5 : (List (Int × (List (Int × (List (Int × Int))))))) (a0_6 : (List ((List (List (Int × Int))) × (List (List (Int × Int)))))) (a0_7 : (List ((List (Int × Int)) × (List (Int × Int)) × Int × Int))) : Option Bool :=
  (bif (decide (a0_1 > (5 : Int))) then some true
  else some (decide (a0_2 > (100 : Int)))).bind fun y1 =>
  (bif y1 then some true
  else some (decide ((a0_4.length : Int) > (70 : Int)))).bind fun y2 =>
  (bif y2 then some true
  else some (decide ((a0_5.length : Int) > (70 : Int)))).bind fun y3 =>
  (bif y3 then some true
  else some (decide ((a0_6.length : Int) > (6 : Int)))).bind fun y4 =>
  (bif y4 then some true
  else some (decide ((a0_7.length : Int) > (10 : Int)))).bind fun y5 =>
  (bif y5 then
  some false
  else ((L.run (s9_4 L a0_4) ((0 : Int), (0 : Int))).bind (fun (v : Int) => some v)).bind fun (y6 : Int) =>
  ((L.run (s9_2 L a0_5) (y6, (0 : Int))).bind (fun (v : Int) => some v)).bind fun (y7 : Int) =>
  ((L.run (s9_1 L a0_6) (y7, (0 : Int))).bind (fun (v : Int) => some v)).bind fun (y8 : Int) =>
  ((L.run (s9_0 L a0_7) (y8, (0 : Int))).bind (fun (v : Int) => some v)).bind fun (y9 : Int) =>
  some (decide (y9 ≤ (3000 : Int))))
theorem p9 (L : LP) (a0_0 : Int) (a0_1 : Int) (a0_2 : Int) (a0_3 : Int) (a0_4 : (List (List Int))) (a0_5 : (List (Int × (List (Int × (List (Int × Int))))))) (a0_6 : (List ((List (List (Int × Int))) × (List (List (Int × Int)))))) (a0_7 : (List ((List (Int × Int)) × (List (Int × Int)) × Int × Int))) (r : Bool) (h : s9 L a0_0 a0_1 a0_2 a0_3 a0_4 a0_5 a0_6 a0_7 = some r) : Pure X 9 [.agg [.c (.int .i64 a0_0), .c (.int .i64 a0_1), .c (.int .i64 a0_2), .c (.int .i64 a0_3), .c (slC e28 a0_4), .c (slC e72 a0_5), .c (slC e65 a0_6), .c (slC e77 a0_7)]] (.cell (.c (.bool r))) := by
  refine Pure_of_W (c := cd Tryd.f9 []) Tryd.func9 (by kernel_rfl) (N := 146) (by kernel_rfl) (Nat.le_of_ble_eq_true (by kernel_rfl)) ?_
  unfold s9 at h
  refine W_seq_at (by kernel_rfl) ?_
  refine W_region_at (by kernel_rfl) ?_
  refine WO_fin (σ' := [some (.lit 0 27 [.c (.int .i64 a0_0), .c (.int .i64 a0_1), .c (.int .i64 a0_2), .c (.int .i64 a0_3), .c (slC e28 a0_4), .c (slC e72 a0_5), .c (slC e65 a0_6), .c (slC e77 a0_7)])]) (T' := [(1, .cell (.op 0 0 8 0 0))]) (Φ := (True)) 2 [1] (by kernel_rfl) trivial (by kernel_rfl) ?_
  refine thenQ_n ?_
  refine W_seq_at (by kernel_rfl) ?_
  refine W_seq_at (by kernel_rfl) ?_
  refine W_region_at (by kernel_rfl) ?_
  refine WO_exk (σ' := [some (.lit 0 27 [.c (.int .i64 a0_0), .c (.int .i64 a0_1), .c (.int .i64 a0_2), .c (.int .i64 a0_3), .c (slC e28 a0_4), .c (slC e72 a0_5), .c (slC e65 a0_6), .c (slC e77 a0_7)])]) (T' := [(1, .cell (.op 0 0 8 0 0)), (12, .cell (.c (.bool (decide (a0_1 > (5 : Int))))))]) (Φ := (True)) 4 [1, 12] (by kernel_rfl) trivial ?_
  obtain ⟨y1, gy1, h⟩ := bind_some h
  refine WO_join 8 [some (.lit 0 27 [.c (.int .i64 a0_0), .c (.int .i64 a0_1), .c (.int .i64 a0_2), .c (.int .i64 a0_3), .c (slC e28 a0_4), .c (slC e72 a0_5), .c (slC e65 a0_6), .c (slC e77 a0_7)])] [(1, .cell (.op 0 0 8 0 0)), (16, .cell (.c (.bool y1)))] ?_ ?_
  · clear gy1
    refine WO_exk (σ' := [some (.lit 0 27 [.c (.int .i64 a0_0), .c (.int .i64 a0_1), .c (.int .i64 a0_2), .c (.int .i64 a0_3), .c (slC e28 a0_4), .c (slC e72 a0_5), .c (slC e65 a0_6), .c (slC e77 a0_7)])]) (T' := [(1, .cell (.op 0 0 8 0 0)), (17, .cell (.c (.bool y1)))]) (Φ := (True)) 1 [1, 17] (by kernel_rfl) trivial ?_
    obtain ⟨y2, gy2, h⟩ := bind_some h
    refine WO_join 14 [some (.lit 0 27 [.c (.int .i64 a0_0), .c (.int .i64 a0_1), .c (.int .i64 a0_2), .c (.int .i64 a0_3), .c (slC e28 a0_4), .c (slC e72 a0_5), .c (slC e65 a0_6), .c (slC e77 a0_7)])] [(1, .cell (.op 0 0 8 0 0)), (22, .cell (.c (.bool y2)))] ?_ ?_
    · clear gy2
      refine WO_exk (σ' := [some (.lit 0 27 [.c (.int .i64 a0_0), .c (.int .i64 a0_1), .c (.int .i64 a0_2), .c (.int .i64 a0_3), .c (slC e28 a0_4), .c (slC e72 a0_5), .c (slC e65 a0_6), .c (slC e77 a0_7)])]) (T' := [(1, .cell (.op 0 0 8 0 0)), (23, .cell (.c (.bool y2)))]) (Φ := (True)) 1 [1, 23] (by kernel_rfl) trivial ?_
      obtain ⟨y3, gy3, h⟩ := bind_some h
      refine WO_join 20 [some (.lit 0 27 [.c (.int .i64 a0_0), .c (.int .i64 a0_1), .c (.int .i64 a0_2), .c (.int .i64 a0_3), .c (slC e28 a0_4), .c (slC e72 a0_5), .c (slC e65 a0_6), .c (slC e77 a0_7)])] [(1, .cell (.op 0 0 8 0 0)), (28, .cell (.c (.bool y3)))] ?_ ?_
      · clear gy3
        refine WO_exk (σ' := [some (.lit 0 27 [.c (.int .i64 a0_0), .c (.int .i64 a0_1), .c (.int .i64 a0_2), .c (.int .i64 a0_3), .c (slC e28 a0_4), .c (slC e72 a0_5), .c (slC e65 a0_6), .c (slC e77 a0_7)])]) (T' := [(1, .cell (.op 0 0 8 0 0)), (29, .cell (.c (.bool y3)))]) (Φ := (True)) 1 [1, 29] (by kernel_rfl) trivial ?_
        obtain ⟨y4, gy4, h⟩ := bind_some h
        refine WO_join 26 [some (.lit 0 27 [.c (.int .i64 a0_0), .c (.int .i64 a0_1), .c (.int .i64 a0_2), .c (.int .i64 a0_3), .c (slC e28 a0_4), .c (slC e72 a0_5), .c (slC e65 a0_6), .c (slC e77 a0_7)])] [(1, .cell (.op 0 0 8 0 0)), (34, .cell (.c (.bool y4)))] ?_ ?_
        · clear gy4
          refine WO_exk (σ' := [some (.lit 0 27 [.c (.int .i64 a0_0), .c (.int .i64 a0_1), .c (.int .i64 a0_2), .c (.int .i64 a0_3), .c (slC e28 a0_4), .c (slC e72 a0_5), .c (slC e65 a0_6), .c (slC e77 a0_7)])]) (T' := [(1, .cell (.op 0 0 8 0 0)), (35, .cell (.c (.bool y4)))]) (Φ := (True)) 1 [1, 35] (by kernel_rfl) trivial ?_
          obtain ⟨y5, gy5, h⟩ := bind_some h
          refine WO_join 32 [some (.lit 0 27 [.c (.int .i64 a0_0), .c (.int .i64 a0_1), .c (.int .i64 a0_2), .c (.int .i64 a0_3), .c (slC e28 a0_4), .c (slC e72 a0_5), .c (slC e65 a0_6), .c (slC e77 a0_7)])] [(1, .cell (.op 0 0 8 0 0)), (40, .cell (.c (.bool y5)))] ?_ ?_
          · clear gy5
            refine WO_fin (σ' := [some (.lit 0 27 [.c (.int .i64 a0_0), .c (.int .i64 a0_1), .c (.int .i64 a0_2), .c (.int .i64 a0_3), .c (slC e28 a0_4), .c (slC e72 a0_5), .c (slC e65 a0_6), .c (slC e77 a0_7)])]) (T' := [(1, .cell (.op 0 0 8 0 0)), (40, .cell (.c (.bool y5)))]) (Φ := True) 0 [1, 40] (by kernel_rfl) trivial (by kernel_rfl) ?_
            refine thenQ_n ?_
            refine W_cond_at (b := y5) (by kernel_rfl) (fun hb => ?_) (fun hb => ?_)
            · have h := cond_t hb h
              refine W_seq_at (by kernel_rfl) ?_
              refine W_region_at (by kernel_rfl) ?_
              refine WO_fin (σ' := [some (.lit 0 27 [.c (.int .i64 a0_0), .c (.int .i64 a0_1), .c (.int .i64 a0_2), .c (.int .i64 a0_3), .c (slC e28 a0_4), .c (slC e72 a0_5), .c (slC e65 a0_6), .c (slC e77 a0_7)])]) (T' := [(2, .cell (.c (.bool false)))]) (Φ := (True)) 1 [2] (by kernel_rfl) trivial (by kernel_rfl) ?_
              refine thenQ_n ?_
              refine W_ret_at (by kernel_rfl) ?_
              refine thenQ_r ?_
              obtain rfl := Option.some.inj h
              exact qret [.cell (.c (.bool false))] (by kernel_rfl) (by kernel_rfl) ([]) (by kernel_rfl)
            · have h := cond_f hb h
              refine W_skip_at (by kernel_rfl) ?_
              refine thenQ_n ?_
              refine W_seq_at (by kernel_rfl) ?_
              refine W_region_at (by kernel_rfl) ?_
              refine WO_fin (σ' := [some (.lit 0 27 [.c (.int .i64 a0_0), .c (.int .i64 a0_1), .c (.int .i64 a0_2), .c (.int .i64 a0_3), .c (slC e28 a0_4), .c (slC e72 a0_5), .c (slC e65 a0_6), .c (slC e77 a0_7)])]) (T' := [(1, .cell (.op 0 0 8 0 0)), (3, .cell (.c (.int .i64 (0 : Int))))]) (Φ := (True)) 1 [1, 3] (by kernel_rfl) trivial (by kernel_rfl) ?_
              refine thenQ_n ?_
              obtain ⟨y6, gy6, ky6⟩ := bind_some h
              refine W_cut (by kernel_rfl) [some (.lit 0 27 [.c (.int .i64 a0_0), .c (.int .i64 a0_1), .c (.int .i64 a0_2), .c (.int .i64 a0_3), .c (slC e28 a0_4), .c (slC e72 a0_5), .c (slC e65 a0_6), .c (slC e77 a0_7)])] [(1, .cell (.op 0 0 8 0 0)), (3, .cell (.c (.int .i64 y6)))] ?_ ?_
              · have h := ky6; clear gy6 ky6
                obtain ⟨y7, gy7, ky7⟩ := bind_some h
                refine W_cut (by kernel_rfl) [some (.lit 0 27 [.c (.int .i64 a0_0), .c (.int .i64 a0_1), .c (.int .i64 a0_2), .c (.int .i64 a0_3), .c (slC e28 a0_4), .c (slC e72 a0_5), .c (slC e65 a0_6), .c (slC e77 a0_7)])] [(1, .cell (.op 0 0 8 0 0)), (3, .cell (.c (.int .i64 y7)))] ?_ ?_
                · have h := ky7; clear gy7 ky7
                  obtain ⟨y8, gy8, ky8⟩ := bind_some h
                  refine W_cut (by kernel_rfl) [some (.lit 0 27 [.c (.int .i64 a0_0), .c (.int .i64 a0_1), .c (.int .i64 a0_2), .c (.int .i64 a0_3), .c (slC e28 a0_4), .c (slC e72 a0_5), .c (slC e65 a0_6), .c (slC e77 a0_7)])] [(1, .cell (.op 0 0 8 0 0)), (3, .cell (.c (.int .i64 y8)))] ?_ ?_
                  · have h := ky8; clear gy8 ky8
                    obtain ⟨y9, gy9, ky9⟩ := bind_some h
                    refine W_cut (by kernel_rfl) [some (.lit 0 27 [.c (.int .i64 a0_0), .c (.int .i64 a0_1), .c (.int .i64 a0_2), .c (.int .i64 a0_3), .c (slC e28 a0_4), .c (slC e72 a0_5), .c (slC e65 a0_6), .c (slC e77 a0_7)])] [(3, .cell (.c (.int .i64 y9)))] ?_ ?_
                    · have h := ky9; clear gy9 ky9
                      refine W_seq_at (by kernel_rfl) ?_
                      refine W_region_at (by kernel_rfl) ?_
                      refine WO_fin (σ' := [some (.lit 0 27 [.c (.int .i64 a0_0), .c (.int .i64 a0_1), .c (.int .i64 a0_2), .c (.int .i64 a0_3), .c (slC e28 a0_4), .c (slC e72 a0_5), .c (slC e65 a0_6), .c (slC e77 a0_7)])]) (T' := [(2, .cell (.c (.bool (decide (y9 ≤ (3000 : Int))))))]) (Φ := (True)) 3 [2] (by kernel_rfl) trivial (by kernel_rfl) ?_
                      refine thenQ_n ?_
                      refine W_ret_at (by kernel_rfl) ?_
                      obtain rfl := Option.some.inj h
                      exact qret [.cell (.c (.bool (decide (y9 ≤ (3000 : Int)))))] (by kernel_rfl) (by kernel_rfl) ([]) (by kernel_rfl)
                    · have h := gy9; clear gy9 ky9
                      refine W_seq_at (by kernel_rfl) ?_
                      refine W_region_at (by kernel_rfl) ?_
                      refine WO_fin (σ' := [some (.lit 0 27 [.c (.int .i64 a0_0), .c (.int .i64 a0_1), .c (.int .i64 a0_2), .c (.int .i64 a0_3), .c (slC e28 a0_4), .c (slC e72 a0_5), .c (slC e65 a0_6), .c (slC e77 a0_7)])]) (T' := [(1, .cell (.op 0 0 8 0 0)), (3, .cell (.c (.int .i64 y8))), (8, .cell (.c (.int .i64 (0 : Int))))]) (Φ := (True)) 1 [1, 3, 8] (by kernel_rfl) trivial (by kernel_rfl) ?_
                      refine thenQ_n ?_
                      refine W_block_at 8 (by kernel_rfl) (by kernel_rfl) ?_
                      obtain ⟨b11, gb11, kb11⟩ := bind_some h
                      refine W_loop_at (S := fun (y10 : (Int × Int)) => ([some (.lit 0 27 [.c (.int .i64 a0_0), .c (.int .i64 a0_1), .c (.int .i64 a0_2), .c (.int .i64 a0_3), .c (slC e28 a0_4), .c (slC e72 a0_5), .c (slC e65 a0_6), .c (slC e77 a0_7)])], [(1, .cell (.op 0 0 8 0 0)), (3, .cell (.c (.int .i64 y10.1))), (8, .cell (.c (.int .i64 y10.2)))])) (step := _) (x0 := (y8, (0 : Int))) (b := b11) (L.ok _ _ _ gb11) (by kernel_rfl) (stps_ok [.keep [1, 3, 8], .take 1] (by kernel_rfl)) ?_
                      clear gb11 h; intro y10 o h; unfold s9_0 at h
                      refine W_seq_at (by kernel_rfl) ?_
                      refine W_seq_at (by kernel_rfl) ?_
                      refine W_region_at (by kernel_rfl) ?_
                      refine WO_fin (σ' := [some (.lit 0 27 [.c (.int .i64 a0_0), .c (.int .i64 a0_1), .c (.int .i64 a0_2), .c (.int .i64 a0_3), .c (slC e28 a0_4), .c (slC e72 a0_5), .c (slC e65 a0_6), .c (slC e77 a0_7)])]) (T' := [(1, .cell (.op 0 0 8 0 0)), (3, .cell (.c (.int .i64 y10.1))), (8, .cell (.c (.int .i64 y10.2))), (124, .cell (.c (.bool (decide (y10.2 < (a0_7.length : Int))))))]) (Φ := (True)) 5 [1, 3, 8, 124] (by kernel_rfl) trivial (by kernel_rfl) ?_
                      refine thenQ_n ?_
                      refine W_cond_at (b := (decide (y10.2 < (a0_7.length : Int)))) (by kernel_rfl) (fun hb => ?_) (fun hb => ?_)
                      · have h := cond_t hb h
                        refine W_skip_at (by kernel_rfl) ?_
                        refine thenQ_n ?_
                        refine W_seq_at (by kernel_rfl) ?_
                        refine W_block_at 9 (by kernel_rfl) (by kernel_rfl) ?_
                        refine W_drawK 16 (by kernel_rfl) mixed (by kernel_rfl) ?_
                        obtain ⟨c12, h⟩ := ck_bind h
                        refine WQ_exk (n' := 8) (T' := [(1, .cell (.op 0 0 8 0 0)), (8, .cell (.c (.int .i64 y10.2))), (127, .cell (.c (.int .i64 y10.1))), (134, .cell (.c (.int .i64 (((a0_7.getD y10.2.toNat e77.d).1).length : Int))))]) (Φ := (0 ≤ y10.2 ∧ y10.2 < (a0_7.length : Int)) ∧ (True)) 8 [1, 8, 127, 134] (by kernel_rfl) ⟨c12, trivial⟩ ?_
                        refine WQ_wrapadd (d := some 135) (ki := .i64) (a := y10.1) (b := (((a0_7.getD y10.2.toNat e77.d).1).length : Int)) (by kernel_rfl) ?_
                        obtain ⟨c13, h⟩ := ck_bind h
                        refine WQ_exk (n' := 0) (T' := [(1, .cell (.op 0 0 8 0 0)), (8, .cell (.c (.int .i64 y10.2))), (135, .cell (.c (.int .i64 (IntKind.wrap .i64 (y10.1 + (((a0_7.getD y10.2.toNat e77.d).1).length : Int)))))), (142, .cell (.c (.int .i64 (((a0_7.getD y10.2.toNat e77.d).2.1).length : Int))))]) (Φ := (0 ≤ y10.2 ∧ y10.2 < (a0_7.length : Int)) ∧ (True)) 7 [1, 8, 135, 142] (by kernel_rfl) ⟨c13, trivial⟩ ?_
                        refine WQ_done ?_
                        refine WO_wrapadd (d := some 143) (ki := .i64) (a := (IntKind.wrap .i64 (y10.1 + (((a0_7.getD y10.2.toNat e77.d).1).length : Int)))) (b := (((a0_7.getD y10.2.toNat e77.d).2.1).length : Int)) (by kernel_rfl) ?_
                        refine WO_fin (σ' := [some (.lit 0 27 [.c (.int .i64 a0_0), .c (.int .i64 a0_1), .c (.int .i64 a0_2), .c (.int .i64 a0_3), .c (slC e28 a0_4), .c (slC e72 a0_5), .c (slC e65 a0_6), .c (slC e77 a0_7)])]) (T' := [(1, .cell (.op 0 0 8 0 0)), (3, .cell (.c (.int .i64 (IntKind.wrap .i64 ((IntKind.wrap .i64 (y10.1 + (((a0_7.getD y10.2.toNat e77.d).1).length : Int))) + (((a0_7.getD y10.2.toNat e77.d).2.1).length : Int)))))), (8, .cell (.c (.int .i64 y10.2)))]) (Φ := (True)) 1 [1, 3, 8] (by kernel_rfl) trivial (by kernel_rfl) ?_
                        refine blockQ_n ?_
                        refine thenQ_n ?_
                        refine W_region_at (by kernel_rfl) ?_
                        refine WO_exk (σ' := [some (.lit 0 27 [.c (.int .i64 a0_0), .c (.int .i64 a0_1), .c (.int .i64 a0_2), .c (.int .i64 a0_3), .c (slC e28 a0_4), .c (slC e72 a0_5), .c (slC e65 a0_6), .c (slC e77 a0_7)])]) (T' := [(1, .cell (.op 0 0 8 0 0)), (3, .cell (.c (.int .i64 (IntKind.wrap .i64 ((IntKind.wrap .i64 (y10.1 + (((a0_7.getD y10.2.toNat e77.d).1).length : Int))) + (((a0_7.getD y10.2.toNat e77.d).2.1).length : Int)))))), (125, .cell (.c (.int .i64 y10.2)))]) (Φ := (True)) 1 [1, 3, 125] (by kernel_rfl) trivial ?_
                        refine WO_wrapadd (d := some 126) (ki := .i64) (a := y10.2) (b := (1 : Int)) (by kernel_rfl) ?_
                        refine WO_fin (σ' := [some (.lit 0 27 [.c (.int .i64 a0_0), .c (.int .i64 a0_1), .c (.int .i64 a0_2), .c (.int .i64 a0_3), .c (slC e28 a0_4), .c (slC e72 a0_5), .c (slC e65 a0_6), .c (slC e77 a0_7)])]) (T' := [(1, .cell (.op 0 0 8 0 0)), (3, .cell (.c (.int .i64 (IntKind.wrap .i64 ((IntKind.wrap .i64 (y10.1 + (((a0_7.getD y10.2.toNat e77.d).1).length : Int))) + (((a0_7.getD y10.2.toNat e77.d).2.1).length : Int)))))), (8, .cell (.c (.int .i64 (IntKind.wrap .i64 (y10.2 + (1 : Int))))))]) (Φ := (True)) 1 [1, 3, 8] (by kernel_rfl) trivial (by kernel_rfl) ?_
                        obtain rfl := Option.some.inj h
                        exact round_n _ rfl (stps_ok [.keep [1, 3, 8], .take 1] (by kernel_rfl))
                      · have h := cond_f hb h
                        refine W_exit_at 8 (by kernel_rfl) (by kernel_rfl) ?_
                        refine thenQ_e ?_
                        obtain rfl := Option.some.inj h; refine round_e rfl (fun hb => ?_); subst hb; have h := kb11
                        refine blockQ_hit ?_
                        obtain rfl := Option.some.inj h
                        exact thenQ_n (stps_ok [.keep [3], .take 1] (by kernel_rfl))
                  · have h := gy8; clear gy8 ky8
                    refine W_seq_at (by kernel_rfl) ?_
                    refine W_region_at (by kernel_rfl) ?_
                    refine WO_fin (σ' := [some (.lit 0 27 [.c (.int .i64 a0_0), .c (.int .i64 a0_1), .c (.int .i64 a0_2), .c (.int .i64 a0_3), .c (slC e28 a0_4), .c (slC e72 a0_5), .c (slC e65 a0_6), .c (slC e77 a0_7)])]) (T' := [(1, .cell (.op 0 0 8 0 0)), (3, .cell (.c (.int .i64 y7))), (7, .cell (.c (.int .i64 (0 : Int))))]) (Φ := (True)) 1 [1, 3, 7] (by kernel_rfl) trivial (by kernel_rfl) ?_
                    refine thenQ_n ?_
                    refine W_block_at 6 (by kernel_rfl) (by kernel_rfl) ?_
                    obtain ⟨b15, gb15, kb15⟩ := bind_some h
                    refine W_loop_at (S := fun (y14 : (Int × Int)) => ([some (.lit 0 27 [.c (.int .i64 a0_0), .c (.int .i64 a0_1), .c (.int .i64 a0_2), .c (.int .i64 a0_3), .c (slC e28 a0_4), .c (slC e72 a0_5), .c (slC e65 a0_6), .c (slC e77 a0_7)])], [(1, .cell (.op 0 0 8 0 0)), (3, .cell (.c (.int .i64 y14.1))), (7, .cell (.c (.int .i64 y14.2)))])) (step := _) (x0 := (y7, (0 : Int))) (b := b15) (L.ok _ _ _ gb15) (by kernel_rfl) (stps_ok [.keep [1, 3, 7], .take 1] (by kernel_rfl)) ?_
                    clear gb15 h; intro y14 o h; unfold s9_1 at h
                    refine W_seq_at (by kernel_rfl) ?_
                    refine W_seq_at (by kernel_rfl) ?_
                    refine W_region_at (by kernel_rfl) ?_
                    refine WO_fin (σ' := [some (.lit 0 27 [.c (.int .i64 a0_0), .c (.int .i64 a0_1), .c (.int .i64 a0_2), .c (.int .i64 a0_3), .c (slC e28 a0_4), .c (slC e72 a0_5), .c (slC e65 a0_6), .c (slC e77 a0_7)])]) (T' := [(1, .cell (.op 0 0 8 0 0)), (3, .cell (.c (.int .i64 y14.1))), (7, .cell (.c (.int .i64 y14.2))), (100, .cell (.c (.bool (decide (y14.2 < (a0_6.length : Int))))))]) (Φ := (True)) 5 [1, 3, 7, 100] (by kernel_rfl) trivial (by kernel_rfl) ?_
                    refine thenQ_n ?_
                    refine W_cond_at (b := (decide (y14.2 < (a0_6.length : Int)))) (by kernel_rfl) (fun hb => ?_) (fun hb => ?_)
                    · have h := cond_t hb h
                      refine W_skip_at (by kernel_rfl) ?_
                      refine thenQ_n ?_
                      refine W_seq_at (by kernel_rfl) ?_
                      refine W_block_at 7 (by kernel_rfl) (by kernel_rfl) ?_
                      refine W_drawK 16 (by kernel_rfl) mixed (by kernel_rfl) ?_
                      obtain ⟨c16, h⟩ := ck_bind h
                      refine WQ_exk (n' := 9) (T' := [(1, .cell (.op 0 0 8 0 0)), (7, .cell (.c (.int .i64 y14.2))), (103, .cell (.c (.int .i64 y14.1))), (109, .cell (.c (slC e62 ((a0_6.getD y14.2.toNat e65.d).1))))]) (Φ := (0 ≤ y14.2 ∧ y14.2 < (a0_6.length : Int)) ∧ (True)) 7 [1, 7, 103, 109] (by kernel_rfl) ⟨c16, trivial⟩ ?_
                      obtain ⟨r17, gr17, h⟩ := bind_some h
                      refine WQ_call (f := 38) (all := [.cell (.c (slC e62 ((a0_6.getD y14.2.toNat e65.d).1)))]) (d := some 110) (r := .cell (.c (.int .i64 r17))) (by kernel_rfl) (by kernel_rfl) (by kernel_rfl) Tryd.call38 (p38 L _ _ gr17) ?_
                      refine WQ_wrapadd (d := some 111) (ki := .i64) (a := y14.1) (b := r17) (by kernel_rfl) ?_
                      obtain ⟨c18, h⟩ := ck_bind h
                      refine WQ_exk (n' := 1) (T' := [(1, .cell (.op 0 0 8 0 0)), (7, .cell (.c (.int .i64 y14.2))), (111, .cell (.c (.int .i64 (IntKind.wrap .i64 (y14.1 + r17))))), (117, .cell (.c (slC e62 ((a0_6.getD y14.2.toNat e65.d).2))))]) (Φ := (0 ≤ y14.2 ∧ y14.2 < (a0_6.length : Int)) ∧ (True)) 6 [1, 7, 111, 117] (by kernel_rfl) ⟨c18, trivial⟩ ?_
                      obtain ⟨r19, gr19, h⟩ := bind_some h
                      refine WQ_call (f := 38) (all := [.cell (.c (slC e62 ((a0_6.getD y14.2.toNat e65.d).2)))]) (d := some 118) (r := .cell (.c (.int .i64 r19))) (by kernel_rfl) (by kernel_rfl) (by kernel_rfl) Tryd.call38 (p38 L _ _ gr19) ?_
                      refine WQ_done ?_
                      refine WO_wrapadd (d := some 119) (ki := .i64) (a := (IntKind.wrap .i64 (y14.1 + r17))) (b := r19) (by kernel_rfl) ?_
                      refine WO_fin (σ' := [some (.lit 0 27 [.c (.int .i64 a0_0), .c (.int .i64 a0_1), .c (.int .i64 a0_2), .c (.int .i64 a0_3), .c (slC e28 a0_4), .c (slC e72 a0_5), .c (slC e65 a0_6), .c (slC e77 a0_7)])]) (T' := [(1, .cell (.op 0 0 8 0 0)), (3, .cell (.c (.int .i64 (IntKind.wrap .i64 ((IntKind.wrap .i64 (y14.1 + r17)) + r19))))), (7, .cell (.c (.int .i64 y14.2)))]) (Φ := (True)) 1 [1, 3, 7] (by kernel_rfl) trivial (by kernel_rfl) ?_
                      refine blockQ_n ?_
                      refine thenQ_n ?_
                      refine W_region_at (by kernel_rfl) ?_
                      refine WO_exk (σ' := [some (.lit 0 27 [.c (.int .i64 a0_0), .c (.int .i64 a0_1), .c (.int .i64 a0_2), .c (.int .i64 a0_3), .c (slC e28 a0_4), .c (slC e72 a0_5), .c (slC e65 a0_6), .c (slC e77 a0_7)])]) (T' := [(1, .cell (.op 0 0 8 0 0)), (3, .cell (.c (.int .i64 (IntKind.wrap .i64 ((IntKind.wrap .i64 (y14.1 + r17)) + r19))))), (101, .cell (.c (.int .i64 y14.2)))]) (Φ := (True)) 1 [1, 3, 101] (by kernel_rfl) trivial ?_
                      refine WO_wrapadd (d := some 102) (ki := .i64) (a := y14.2) (b := (1 : Int)) (by kernel_rfl) ?_
                      refine WO_fin (σ' := [some (.lit 0 27 [.c (.int .i64 a0_0), .c (.int .i64 a0_1), .c (.int .i64 a0_2), .c (.int .i64 a0_3), .c (slC e28 a0_4), .c (slC e72 a0_5), .c (slC e65 a0_6), .c (slC e77 a0_7)])]) (T' := [(1, .cell (.op 0 0 8 0 0)), (3, .cell (.c (.int .i64 (IntKind.wrap .i64 ((IntKind.wrap .i64 (y14.1 + r17)) + r19))))), (7, .cell (.c (.int .i64 (IntKind.wrap .i64 (y14.2 + (1 : Int))))))]) (Φ := (True)) 1 [1, 3, 7] (by kernel_rfl) trivial (by kernel_rfl) ?_
                      obtain rfl := Option.some.inj h
                      exact round_n _ rfl (stps_ok [.keep [1, 3, 7], .take 1] (by kernel_rfl))
                    · have h := cond_f hb h
                      refine W_exit_at 6 (by kernel_rfl) (by kernel_rfl) ?_
                      refine thenQ_e ?_
                      obtain rfl := Option.some.inj h; refine round_e rfl (fun hb => ?_); subst hb; have h := kb15
                      refine blockQ_hit ?_
                      obtain rfl := Option.some.inj h
                      exact thenQ_n (stps_ok [.keep [1, 3], .take 1] (by kernel_rfl))
                · have h := gy7; clear gy7 ky7
                  refine W_seq_at (by kernel_rfl) ?_
                  refine W_region_at (by kernel_rfl) ?_
                  refine WO_fin (σ' := [some (.lit 0 27 [.c (.int .i64 a0_0), .c (.int .i64 a0_1), .c (.int .i64 a0_2), .c (.int .i64 a0_3), .c (slC e28 a0_4), .c (slC e72 a0_5), .c (slC e65 a0_6), .c (slC e77 a0_7)])]) (T' := [(1, .cell (.op 0 0 8 0 0)), (3, .cell (.c (.int .i64 y6))), (5, .cell (.c (.int .i64 (0 : Int))))]) (Φ := (True)) 1 [1, 3, 5] (by kernel_rfl) trivial (by kernel_rfl) ?_
                  refine thenQ_n ?_
                  refine W_block_at 2 (by kernel_rfl) (by kernel_rfl) ?_
                  obtain ⟨b21, gb21, kb21⟩ := bind_some h
                  refine W_loop_at (S := fun (y20 : (Int × Int)) => ([some (.lit 0 27 [.c (.int .i64 a0_0), .c (.int .i64 a0_1), .c (.int .i64 a0_2), .c (.int .i64 a0_3), .c (slC e28 a0_4), .c (slC e72 a0_5), .c (slC e65 a0_6), .c (slC e77 a0_7)])], [(1, .cell (.op 0 0 8 0 0)), (3, .cell (.c (.int .i64 y20.1))), (5, .cell (.c (.int .i64 y20.2)))])) (step := _) (x0 := (y6, (0 : Int))) (b := b21) (L.ok _ _ _ gb21) (by kernel_rfl) (stps_ok [.keep [1, 3, 5], .take 1] (by kernel_rfl)) ?_
                  clear gb21 h; intro y20 o h; unfold s9_2 at h
                  refine W_seq_at (by kernel_rfl) ?_
                  refine W_seq_at (by kernel_rfl) ?_
                  refine W_region_at (by kernel_rfl) ?_
                  refine WO_fin (σ' := [some (.lit 0 27 [.c (.int .i64 a0_0), .c (.int .i64 a0_1), .c (.int .i64 a0_2), .c (.int .i64 a0_3), .c (slC e28 a0_4), .c (slC e72 a0_5), .c (slC e65 a0_6), .c (slC e77 a0_7)])]) (T' := [(1, .cell (.op 0 0 8 0 0)), (3, .cell (.c (.int .i64 y20.1))), (5, .cell (.c (.int .i64 y20.2))), (60, .cell (.c (.bool (decide (y20.2 < (a0_5.length : Int))))))]) (Φ := (True)) 5 [1, 3, 5, 60] (by kernel_rfl) trivial (by kernel_rfl) ?_
                  refine thenQ_n ?_
                  refine W_cond_at (b := (decide (y20.2 < (a0_5.length : Int)))) (by kernel_rfl) (fun hb => ?_) (fun hb => ?_)
                  · have h := cond_t hb h
                    refine W_skip_at (by kernel_rfl) ?_
                    refine thenQ_n ?_
                    obtain ⟨y22, gy22, ky22⟩ := bind_some h
                    refine W_cut (by kernel_rfl) [some (.lit 0 27 [.c (.int .i64 a0_0), .c (.int .i64 a0_1), .c (.int .i64 a0_2), .c (.int .i64 a0_3), .c (slC e28 a0_4), .c (slC e72 a0_5), .c (slC e65 a0_6), .c (slC e77 a0_7)])] [(1, .cell (.op 0 0 8 0 0)), (3, .cell (.c (.int .i64 y22))), (5, .cell (.c (.int .i64 y20.2)))] ?_ ?_
                    · have h := ky22; clear gy22 ky22
                      refine W_region_at (by kernel_rfl) ?_
                      refine WO_exk (σ' := [some (.lit 0 27 [.c (.int .i64 a0_0), .c (.int .i64 a0_1), .c (.int .i64 a0_2), .c (.int .i64 a0_3), .c (slC e28 a0_4), .c (slC e72 a0_5), .c (slC e65 a0_6), .c (slC e77 a0_7)])]) (T' := [(1, .cell (.op 0 0 8 0 0)), (3, .cell (.c (.int .i64 y22))), (61, .cell (.c (.int .i64 y20.2)))]) (Φ := (True)) 1 [1, 3, 61] (by kernel_rfl) trivial ?_
                      refine WO_wrapadd (d := some 62) (ki := .i64) (a := y20.2) (b := (1 : Int)) (by kernel_rfl) ?_
                      refine WO_fin (σ' := [some (.lit 0 27 [.c (.int .i64 a0_0), .c (.int .i64 a0_1), .c (.int .i64 a0_2), .c (.int .i64 a0_3), .c (slC e28 a0_4), .c (slC e72 a0_5), .c (slC e65 a0_6), .c (slC e77 a0_7)])]) (T' := [(1, .cell (.op 0 0 8 0 0)), (3, .cell (.c (.int .i64 y22))), (5, .cell (.c (.int .i64 (IntKind.wrap .i64 (y20.2 + (1 : Int))))))]) (Φ := (True)) 1 [1, 3, 5] (by kernel_rfl) trivial (by kernel_rfl) ?_
                      obtain rfl := Option.some.inj h
                      exact round_n _ rfl (stps_ok [.keep [1, 3, 5], .take 1] (by kernel_rfl))
                    · have h := gy22; clear gy22 ky22
                      refine W_block_at 3 (by kernel_rfl) (by kernel_rfl) ?_
                      refine W_seq_at (by kernel_rfl) ?_
                      refine W_region_at (by kernel_rfl) ?_
                      obtain ⟨c23, h⟩ := ck_bind h
                      refine WO_exk (σ' := [some (.lit 0 27 [.c (.int .i64 a0_0), .c (.int .i64 a0_1), .c (.int .i64 a0_2), .c (.int .i64 a0_3), .c (slC e28 a0_4), .c (slC e72 a0_5), .c (slC e65 a0_6), .c (slC e77 a0_7)])]) (T' := [(1, .cell (.op 0 0 8 0 0)), (5, .cell (.c (.int .i64 y20.2))), (63, .cell (.c (.int .i64 y20.1))), (70, .cell (.c (.int .i64 (((a0_5.getD y20.2.toNat e72.d).2).length : Int))))]) (Φ := (0 ≤ y20.2 ∧ y20.2 < (a0_5.length : Int)) ∧ (True)) 8 [1, 5, 63, 70] (by kernel_rfl) ⟨c23, trivial⟩ ?_
                      refine WO_wrapadd (d := some 71) (ki := .i64) (a := y20.1) (b := (((a0_5.getD y20.2.toNat e72.d).2).length : Int)) (by kernel_rfl) ?_
                      refine WO_fin (σ' := [some (.lit 0 27 [.c (.int .i64 a0_0), .c (.int .i64 a0_1), .c (.int .i64 a0_2), .c (.int .i64 a0_3), .c (slC e28 a0_4), .c (slC e72 a0_5), .c (slC e65 a0_6), .c (slC e77 a0_7)])]) (T' := [(1, .cell (.op 0 0 8 0 0)), (3, .cell (.c (.int .i64 (IntKind.wrap .i64 (y20.1 + (((a0_5.getD y20.2.toNat e72.d).2).length : Int)))))), (5, .cell (.c (.int .i64 y20.2)))]) (Φ := (True)) 1 [1, 3, 5] (by kernel_rfl) trivial (by kernel_rfl) ?_
                      refine thenQ_n ?_
                      refine W_seq_at (by kernel_rfl) ?_
                      refine W_region_at (by kernel_rfl) ?_
                      refine WO_fin (σ' := [some (.lit 0 27 [.c (.int .i64 a0_0), .c (.int .i64 a0_1), .c (.int .i64 a0_2), .c (.int .i64 a0_3), .c (slC e28 a0_4), .c (slC e72 a0_5), .c (slC e65 a0_6), .c (slC e77 a0_7)])]) (T' := [(1, .cell (.op 0 0 8 0 0)), (3, .cell (.c (.int .i64 (IntKind.wrap .i64 (y20.1 + (((a0_5.getD y20.2.toNat e72.d).2).length : Int)))))), (5, .cell (.c (.int .i64 y20.2))), (6, .cell (.c (.int .i64 (0 : Int))))]) (Φ := (True)) 1 [1, 3, 5, 6] (by kernel_rfl) trivial (by kernel_rfl) ?_
                      refine thenQ_n ?_
                      refine W_block_at 4 (by kernel_rfl) (by kernel_rfl) ?_
                      obtain ⟨b25, gb25, kb25⟩ := bind_some h
                      refine W_loop_at (S := fun (y24 : (Int × Int)) => ([some (.lit 0 27 [.c (.int .i64 a0_0), .c (.int .i64 a0_1), .c (.int .i64 a0_2), .c (.int .i64 a0_3), .c (slC e28 a0_4), .c (slC e72 a0_5), .c (slC e65 a0_6), .c (slC e77 a0_7)])], [(1, .cell (.op 0 0 8 0 0)), (3, .cell (.c (.int .i64 y24.1))), (5, .cell (.c (.int .i64 y20.2))), (6, .cell (.c (.int .i64 y24.2)))])) (step := _) (x0 := ((IntKind.wrap .i64 (y20.1 + (((a0_5.getD y20.2.toNat e72.d).2).length : Int))), (0 : Int))) (b := b25) (L.ok _ _ _ gb25) (by kernel_rfl) (stps_ok [.keep [1, 3, 5, 6], .take 1] (by kernel_rfl)) ?_
                      clear gb25 h; intro y24 o h; unfold s9_3 at h
                      refine W_seq_at (by kernel_rfl) ?_
                      refine W_seq_at (by kernel_rfl) ?_
                      refine W_region_at (by kernel_rfl) ?_
                      obtain ⟨c26, h⟩ := ck_bind h
                      refine WO_fin (σ' := [some (.lit 0 27 [.c (.int .i64 a0_0), .c (.int .i64 a0_1), .c (.int .i64 a0_2), .c (.int .i64 a0_3), .c (slC e28 a0_4), .c (slC e72 a0_5), .c (slC e65 a0_6), .c (slC e77 a0_7)])]) (T' := [(1, .cell (.op 0 0 8 0 0)), (3, .cell (.c (.int .i64 y24.1))), (5, .cell (.c (.int .i64 y20.2))), (6, .cell (.c (.int .i64 y24.2))), (80, .cell (.c (.bool (decide (y24.2 < (((a0_5.getD y20.2.toNat e72.d).2).length : Int))))))]) (Φ := (0 ≤ y20.2 ∧ y20.2 < (a0_5.length : Int)) ∧ (True)) 9 [1, 3, 5, 6, 80] (by kernel_rfl) ⟨c26, trivial⟩ (by kernel_rfl) ?_
                      refine thenQ_n ?_
                      refine W_cond_at (b := (decide (y24.2 < (((a0_5.getD y20.2.toNat e72.d).2).length : Int)))) (by kernel_rfl) (fun hb => ?_) (fun hb => ?_)
                      · have h := cond_t hb h
                        refine W_skip_at (by kernel_rfl) ?_
                        refine thenQ_n ?_
                        refine W_seq_at (by kernel_rfl) ?_
                        refine W_block_at 5 (by kernel_rfl) (by kernel_rfl) ?_
                        refine W_region_at (by kernel_rfl) ?_
                        obtain ⟨c27, h⟩ := ck_bind h
                        obtain ⟨c28, h⟩ := ck_bind h
                        refine WO_exk (σ' := [some (.lit 0 27 [.c (.int .i64 a0_0), .c (.int .i64 a0_1), .c (.int .i64 a0_2), .c (.int .i64 a0_3), .c (slC e28 a0_4), .c (slC e72 a0_5), .c (slC e65 a0_6), .c (slC e77 a0_7)])]) (T' := [(1, .cell (.op 0 0 8 0 0)), (5, .cell (.c (.int .i64 y20.2))), (6, .cell (.c (.int .i64 y24.2))), (83, .cell (.c (.int .i64 y24.1))), (94, .cell (.c (.int .i64 (((((a0_5.getD y20.2.toNat e72.d).2).getD y24.2.toNat e74.d).2).length : Int))))]) (Φ := (0 ≤ y20.2 ∧ y20.2 < (a0_5.length : Int)) ∧ (0 ≤ y24.2 ∧ y24.2 < (((a0_5.getD y20.2.toNat e72.d).2).length : Int)) ∧ (True)) 12 [1, 5, 6, 83, 94] (by kernel_rfl) ⟨c27, c28, trivial⟩ ?_
                        refine WO_wrapadd (d := some 95) (ki := .i64) (a := y24.1) (b := (((((a0_5.getD y20.2.toNat e72.d).2).getD y24.2.toNat e74.d).2).length : Int)) (by kernel_rfl) ?_
                        refine WO_fin (σ' := [some (.lit 0 27 [.c (.int .i64 a0_0), .c (.int .i64 a0_1), .c (.int .i64 a0_2), .c (.int .i64 a0_3), .c (slC e28 a0_4), .c (slC e72 a0_5), .c (slC e65 a0_6), .c (slC e77 a0_7)])]) (T' := [(1, .cell (.op 0 0 8 0 0)), (3, .cell (.c (.int .i64 (IntKind.wrap .i64 (y24.1 + (((((a0_5.getD y20.2.toNat e72.d).2).getD y24.2.toNat e74.d).2).length : Int)))))), (5, .cell (.c (.int .i64 y20.2))), (6, .cell (.c (.int .i64 y24.2)))]) (Φ := (True)) 1 [1, 3, 5, 6] (by kernel_rfl) trivial (by kernel_rfl) ?_
                        refine blockQ_n ?_
                        refine thenQ_n ?_
                        refine W_region_at (by kernel_rfl) ?_
                        refine WO_exk (σ' := [some (.lit 0 27 [.c (.int .i64 a0_0), .c (.int .i64 a0_1), .c (.int .i64 a0_2), .c (.int .i64 a0_3), .c (slC e28 a0_4), .c (slC e72 a0_5), .c (slC e65 a0_6), .c (slC e77 a0_7)])]) (T' := [(1, .cell (.op 0 0 8 0 0)), (3, .cell (.c (.int .i64 (IntKind.wrap .i64 (y24.1 + (((((a0_5.getD y20.2.toNat e72.d).2).getD y24.2.toNat e74.d).2).length : Int)))))), (5, .cell (.c (.int .i64 y20.2))), (81, .cell (.c (.int .i64 y24.2)))]) (Φ := (True)) 1 [1, 3, 5, 81] (by kernel_rfl) trivial ?_
                        refine WO_wrapadd (d := some 82) (ki := .i64) (a := y24.2) (b := (1 : Int)) (by kernel_rfl) ?_
                        refine WO_fin (σ' := [some (.lit 0 27 [.c (.int .i64 a0_0), .c (.int .i64 a0_1), .c (.int .i64 a0_2), .c (.int .i64 a0_3), .c (slC e28 a0_4), .c (slC e72 a0_5), .c (slC e65 a0_6), .c (slC e77 a0_7)])]) (T' := [(1, .cell (.op 0 0 8 0 0)), (3, .cell (.c (.int .i64 (IntKind.wrap .i64 (y24.1 + (((((a0_5.getD y20.2.toNat e72.d).2).getD y24.2.toNat e74.d).2).length : Int)))))), (5, .cell (.c (.int .i64 y20.2))), (6, .cell (.c (.int .i64 (IntKind.wrap .i64 (y24.2 + (1 : Int))))))]) (Φ := (True)) 1 [1, 3, 5, 6] (by kernel_rfl) trivial (by kernel_rfl) ?_
                        obtain rfl := Option.some.inj h
                        exact round_n _ rfl (stps_ok [.keep [1, 3, 5, 6], .take 1] (by kernel_rfl))
                      · have h := cond_f hb h
                        refine W_exit_at 4 (by kernel_rfl) (by kernel_rfl) ?_
                        refine thenQ_e ?_
                        obtain rfl := Option.some.inj h; refine round_e rfl (fun hb => ?_); subst hb; have h := kb25
                        refine blockQ_hit ?_
                        refine blockQ_n ?_
                        obtain rfl := Option.some.inj h
                        exact thenQ_n (stps_ok [.keep [1, 3, 5], .take 1] (by kernel_rfl))
                  · have h := cond_f hb h
                    refine W_exit_at 2 (by kernel_rfl) (by kernel_rfl) ?_
                    refine thenQ_e ?_
                    obtain rfl := Option.some.inj h; refine round_e rfl (fun hb => ?_); subst hb; have h := kb21
                    refine blockQ_hit ?_
                    obtain rfl := Option.some.inj h
                    exact thenQ_n (stps_ok [.keep [1, 3], .take 1] (by kernel_rfl))
              · have h := gy6; clear gy6 ky6
                refine W_seq_at (by kernel_rfl) ?_
                refine W_region_at (by kernel_rfl) ?_
                refine WO_fin (σ' := [some (.lit 0 27 [.c (.int .i64 a0_0), .c (.int .i64 a0_1), .c (.int .i64 a0_2), .c (.int .i64 a0_3), .c (slC e28 a0_4), .c (slC e72 a0_5), .c (slC e65 a0_6), .c (slC e77 a0_7)])]) (T' := [(1, .cell (.op 0 0 8 0 0)), (3, .cell (.c (.int .i64 (0 : Int)))), (4, .cell (.c (.int .i64 (0 : Int))))]) (Φ := (True)) 1 [1, 3, 4] (by kernel_rfl) trivial (by kernel_rfl) ?_
                refine thenQ_n ?_
                refine W_block_at 0 (by kernel_rfl) (by kernel_rfl) ?_
                obtain ⟨b30, gb30, kb30⟩ := bind_some h
                refine W_loop_at (S := fun (y29 : (Int × Int)) => ([some (.lit 0 27 [.c (.int .i64 a0_0), .c (.int .i64 a0_1), .c (.int .i64 a0_2), .c (.int .i64 a0_3), .c (slC e28 a0_4), .c (slC e72 a0_5), .c (slC e65 a0_6), .c (slC e77 a0_7)])], [(1, .cell (.op 0 0 8 0 0)), (3, .cell (.c (.int .i64 y29.1))), (4, .cell (.c (.int .i64 y29.2)))])) (step := _) (x0 := ((0 : Int), (0 : Int))) (b := b30) (L.ok _ _ _ gb30) (by kernel_rfl) (stps_ok [.keep [1, 3, 4], .take 1] (by kernel_rfl)) ?_
                clear gb30 h; intro y29 o h; unfold s9_4 at h
                refine W_seq_at (by kernel_rfl) ?_
                refine W_seq_at (by kernel_rfl) ?_
                refine W_region_at (by kernel_rfl) ?_
                refine WO_fin (σ' := [some (.lit 0 27 [.c (.int .i64 a0_0), .c (.int .i64 a0_1), .c (.int .i64 a0_2), .c (.int .i64 a0_3), .c (slC e28 a0_4), .c (slC e72 a0_5), .c (slC e65 a0_6), .c (slC e77 a0_7)])]) (T' := [(1, .cell (.op 0 0 8 0 0)), (3, .cell (.c (.int .i64 y29.1))), (4, .cell (.c (.int .i64 y29.2))), (45, .cell (.c (.bool (decide (y29.2 < (a0_4.length : Int))))))]) (Φ := (True)) 5 [1, 3, 4, 45] (by kernel_rfl) trivial (by kernel_rfl) ?_
                refine thenQ_n ?_
                refine W_cond_at (b := (decide (y29.2 < (a0_4.length : Int)))) (by kernel_rfl) (fun hb => ?_) (fun hb => ?_)
                · have h := cond_t hb h
                  refine W_skip_at (by kernel_rfl) ?_
                  refine thenQ_n ?_
                  refine W_seq_at (by kernel_rfl) ?_
                  refine W_block_at 1 (by kernel_rfl) (by kernel_rfl) ?_
                  refine W_region_at (by kernel_rfl) ?_
                  obtain ⟨c31, h⟩ := ck_bind h
                  refine WO_exk (σ' := [some (.lit 0 27 [.c (.int .i64 a0_0), .c (.int .i64 a0_1), .c (.int .i64 a0_2), .c (.int .i64 a0_3), .c (slC e28 a0_4), .c (slC e72 a0_5), .c (slC e65 a0_6), .c (slC e77 a0_7)])]) (T' := [(1, .cell (.op 0 0 8 0 0)), (4, .cell (.c (.int .i64 y29.2))), (48, .cell (.c (.int .i64 y29.1))), (54, .cell (.c (.int .i64 ((a0_4.getD y29.2.toNat e28.d).length : Int))))]) (Φ := (0 ≤ y29.2 ∧ y29.2 < (a0_4.length : Int)) ∧ (True)) 7 [1, 4, 48, 54] (by kernel_rfl) ⟨c31, trivial⟩ ?_
                  refine WO_wrapadd (d := some 55) (ki := .i64) (a := y29.1) (b := ((a0_4.getD y29.2.toNat e28.d).length : Int)) (by kernel_rfl) ?_
                  refine WO_fin (σ' := [some (.lit 0 27 [.c (.int .i64 a0_0), .c (.int .i64 a0_1), .c (.int .i64 a0_2), .c (.int .i64 a0_3), .c (slC e28 a0_4), .c (slC e72 a0_5), .c (slC e65 a0_6), .c (slC e77 a0_7)])]) (T' := [(1, .cell (.op 0 0 8 0 0)), (3, .cell (.c (.int .i64 (IntKind.wrap .i64 (y29.1 + ((a0_4.getD y29.2.toNat e28.d).length : Int)))))), (4, .cell (.c (.int .i64 y29.2)))]) (Φ := (True)) 1 [1, 3, 4] (by kernel_rfl) trivial (by kernel_rfl) ?_
                  refine blockQ_n ?_
                  refine thenQ_n ?_
                  refine W_region_at (by kernel_rfl) ?_
                  refine WO_exk (σ' := [some (.lit 0 27 [.c (.int .i64 a0_0), .c (.int .i64 a0_1), .c (.int .i64 a0_2), .c (.int .i64 a0_3), .c (slC e28 a0_4), .c (slC e72 a0_5), .c (slC e65 a0_6), .c (slC e77 a0_7)])]) (T' := [(1, .cell (.op 0 0 8 0 0)), (3, .cell (.c (.int .i64 (IntKind.wrap .i64 (y29.1 + ((a0_4.getD y29.2.toNat e28.d).length : Int)))))), (46, .cell (.c (.int .i64 y29.2)))]) (Φ := (True)) 1 [1, 3, 46] (by kernel_rfl) trivial ?_
                  refine WO_wrapadd (d := some 47) (ki := .i64) (a := y29.2) (b := (1 : Int)) (by kernel_rfl) ?_
                  refine WO_fin (σ' := [some (.lit 0 27 [.c (.int .i64 a0_0), .c (.int .i64 a0_1), .c (.int .i64 a0_2), .c (.int .i64 a0_3), .c (slC e28 a0_4), .c (slC e72 a0_5), .c (slC e65 a0_6), .c (slC e77 a0_7)])]) (T' := [(1, .cell (.op 0 0 8 0 0)), (3, .cell (.c (.int .i64 (IntKind.wrap .i64 (y29.1 + ((a0_4.getD y29.2.toNat e28.d).length : Int)))))), (4, .cell (.c (.int .i64 (IntKind.wrap .i64 (y29.2 + (1 : Int))))))]) (Φ := (True)) 1 [1, 3, 4] (by kernel_rfl) trivial (by kernel_rfl) ?_
                  obtain rfl := Option.some.inj h
                  exact round_n _ rfl (stps_ok [.keep [1, 3, 4], .take 1] (by kernel_rfl))
                · have h := cond_f hb h
                  refine W_exit_at 0 (by kernel_rfl) (by kernel_rfl) ?_
                  refine thenQ_e ?_
                  obtain rfl := Option.some.inj h; refine round_e rfl (fun hb => ?_); subst hb; have h := kb30
                  refine blockQ_hit ?_
                  obtain rfl := Option.some.inj h
                  exact thenQ_n (stps_ok [.keep [1, 3], .take 1] (by kernel_rfl))
          · intro J
            clear h
            rcases Bool.eq_false_or_eq_true y4 with hb | hb
            · have h := cond_t hb gy5; clear gy5
              refine WO_ent (ent_bool (T' := [(35, .cell (.c (.bool true))), (1, .cell (.op 0 0 8 0 0))]) 35 hb (by kernel_rfl) (by kernel_rfl)) ?_
              obtain rfl := Option.some.inj h
              refine WO_exk (σ' := [some (.lit 0 27 [.c (.int .i64 a0_0), .c (.int .i64 a0_1), .c (.int .i64 a0_2), .c (.int .i64 a0_3), .c (slC e28 a0_4), .c (slC e72 a0_5), .c (slC e65 a0_6), .c (slC e77 a0_7)])]) (T' := [(1, .cell (.op 0 0 8 0 0)), (40, .cell (.c (.bool true)))]) (Φ := True) 5 [1, 40] (by kernel_rfl) trivial J
            · have h := cond_f hb gy5; clear gy5
              refine WO_ent (ent_bool (T' := [(35, .cell (.c (.bool false))), (1, .cell (.op 0 0 8 0 0))]) 35 hb (by kernel_rfl) (by kernel_rfl)) ?_
              refine WO_exk (σ' := [some (.lit 0 27 [.c (.int .i64 a0_0), .c (.int .i64 a0_1), .c (.int .i64 a0_2), .c (.int .i64 a0_3), .c (slC e28 a0_4), .c (slC e72 a0_5), .c (slC e65 a0_6), .c (slC e77 a0_7)])]) (T' := [(1, .cell (.op 0 0 8 0 0)), (35, .cell (.c (.bool false))), (39, .cell (.c (.bool (decide ((a0_7.length : Int) > (10 : Int))))))]) (Φ := (True)) 4 [1, 35, 39] (by kernel_rfl) trivial ?_
              obtain rfl := Option.some.inj h
              refine WO_exk (σ' := [some (.lit 0 27 [.c (.int .i64 a0_0), .c (.int .i64 a0_1), .c (.int .i64 a0_2), .c (.int .i64 a0_3), .c (slC e28 a0_4), .c (slC e72 a0_5), .c (slC e65 a0_6), .c (slC e77 a0_7)])]) (T' := [(1, .cell (.op 0 0 8 0 0)), (40, .cell (.c (.bool (decide ((a0_7.length : Int) > (10 : Int))))))]) (Φ := True) 1 [1, 40] (by kernel_rfl) trivial J
        · intro J
          clear h
          rcases Bool.eq_false_or_eq_true y3 with hb | hb
          · have h := cond_t hb gy4; clear gy4
            refine WO_ent (ent_bool (T' := [(29, .cell (.c (.bool true))), (1, .cell (.op 0 0 8 0 0))]) 29 hb (by kernel_rfl) (by kernel_rfl)) ?_
            obtain rfl := Option.some.inj h
            refine WO_exk (σ' := [some (.lit 0 27 [.c (.int .i64 a0_0), .c (.int .i64 a0_1), .c (.int .i64 a0_2), .c (.int .i64 a0_3), .c (slC e28 a0_4), .c (slC e72 a0_5), .c (slC e65 a0_6), .c (slC e77 a0_7)])]) (T' := [(1, .cell (.op 0 0 8 0 0)), (34, .cell (.c (.bool true)))]) (Φ := True) 5 [1, 34] (by kernel_rfl) trivial J
          · have h := cond_f hb gy4; clear gy4
            refine WO_ent (ent_bool (T' := [(29, .cell (.c (.bool false))), (1, .cell (.op 0 0 8 0 0))]) 29 hb (by kernel_rfl) (by kernel_rfl)) ?_
            refine WO_exk (σ' := [some (.lit 0 27 [.c (.int .i64 a0_0), .c (.int .i64 a0_1), .c (.int .i64 a0_2), .c (.int .i64 a0_3), .c (slC e28 a0_4), .c (slC e72 a0_5), .c (slC e65 a0_6), .c (slC e77 a0_7)])]) (T' := [(1, .cell (.op 0 0 8 0 0)), (29, .cell (.c (.bool false))), (33, .cell (.c (.bool (decide ((a0_6.length : Int) > (6 : Int))))))]) (Φ := (True)) 4 [1, 29, 33] (by kernel_rfl) trivial ?_
            obtain rfl := Option.some.inj h
            refine WO_exk (σ' := [some (.lit 0 27 [.c (.int .i64 a0_0), .c (.int .i64 a0_1), .c (.int .i64 a0_2), .c (.int .i64 a0_3), .c (slC e28 a0_4), .c (slC e72 a0_5), .c (slC e65 a0_6), .c (slC e77 a0_7)])]) (T' := [(1, .cell (.op 0 0 8 0 0)), (34, .cell (.c (.bool (decide ((a0_6.length : Int) > (6 : Int))))))]) (Φ := True) 1 [1, 34] (by kernel_rfl) trivial J
      · intro J
        clear h
        rcases Bool.eq_false_or_eq_true y2 with hb | hb
        · have h := cond_t hb gy3; clear gy3
          refine WO_ent (ent_bool (T' := [(23, .cell (.c (.bool true))), (1, .cell (.op 0 0 8 0 0))]) 23 hb (by kernel_rfl) (by kernel_rfl)) ?_
          obtain rfl := Option.some.inj h
          refine WO_exk (σ' := [some (.lit 0 27 [.c (.int .i64 a0_0), .c (.int .i64 a0_1), .c (.int .i64 a0_2), .c (.int .i64 a0_3), .c (slC e28 a0_4), .c (slC e72 a0_5), .c (slC e65 a0_6), .c (slC e77 a0_7)])]) (T' := [(1, .cell (.op 0 0 8 0 0)), (28, .cell (.c (.bool true)))]) (Φ := True) 5 [1, 28] (by kernel_rfl) trivial J
        · have h := cond_f hb gy3; clear gy3
          refine WO_ent (ent_bool (T' := [(23, .cell (.c (.bool false))), (1, .cell (.op 0 0 8 0 0))]) 23 hb (by kernel_rfl) (by kernel_rfl)) ?_
          refine WO_exk (σ' := [some (.lit 0 27 [.c (.int .i64 a0_0), .c (.int .i64 a0_1), .c (.int .i64 a0_2), .c (.int .i64 a0_3), .c (slC e28 a0_4), .c (slC e72 a0_5), .c (slC e65 a0_6), .c (slC e77 a0_7)])]) (T' := [(1, .cell (.op 0 0 8 0 0)), (23, .cell (.c (.bool false))), (27, .cell (.c (.bool (decide ((a0_5.length : Int) > (70 : Int))))))]) (Φ := (True)) 4 [1, 23, 27] (by kernel_rfl) trivial ?_
          obtain rfl := Option.some.inj h
          refine WO_exk (σ' := [some (.lit 0 27 [.c (.int .i64 a0_0), .c (.int .i64 a0_1), .c (.int .i64 a0_2), .c (.int .i64 a0_3), .c (slC e28 a0_4), .c (slC e72 a0_5), .c (slC e65 a0_6), .c (slC e77 a0_7)])]) (T' := [(1, .cell (.op 0 0 8 0 0)), (28, .cell (.c (.bool (decide ((a0_5.length : Int) > (70 : Int))))))]) (Φ := True) 1 [1, 28] (by kernel_rfl) trivial J
    · intro J
      clear h
      rcases Bool.eq_false_or_eq_true y1 with hb | hb
      · have h := cond_t hb gy2; clear gy2
        refine WO_ent (ent_bool (T' := [(17, .cell (.c (.bool true))), (1, .cell (.op 0 0 8 0 0))]) 17 hb (by kernel_rfl) (by kernel_rfl)) ?_
        obtain rfl := Option.some.inj h
        refine WO_exk (σ' := [some (.lit 0 27 [.c (.int .i64 a0_0), .c (.int .i64 a0_1), .c (.int .i64 a0_2), .c (.int .i64 a0_3), .c (slC e28 a0_4), .c (slC e72 a0_5), .c (slC e65 a0_6), .c (slC e77 a0_7)])]) (T' := [(1, .cell (.op 0 0 8 0 0)), (22, .cell (.c (.bool true)))]) (Φ := True) 5 [1, 22] (by kernel_rfl) trivial J
      · have h := cond_f hb gy2; clear gy2
        refine WO_ent (ent_bool (T' := [(17, .cell (.c (.bool false))), (1, .cell (.op 0 0 8 0 0))]) 17 hb (by kernel_rfl) (by kernel_rfl)) ?_
        refine WO_exk (σ' := [some (.lit 0 27 [.c (.int .i64 a0_0), .c (.int .i64 a0_1), .c (.int .i64 a0_2), .c (.int .i64 a0_3), .c (slC e28 a0_4), .c (slC e72 a0_5), .c (slC e65 a0_6), .c (slC e77 a0_7)])]) (T' := [(1, .cell (.op 0 0 8 0 0)), (17, .cell (.c (.bool false))), (21, .cell (.c (.bool (decide ((a0_4.length : Int) > (70 : Int))))))]) (Φ := (True)) 4 [1, 17, 21] (by kernel_rfl) trivial ?_
        obtain rfl := Option.some.inj h
        refine WO_exk (σ' := [some (.lit 0 27 [.c (.int .i64 a0_0), .c (.int .i64 a0_1), .c (.int .i64 a0_2), .c (.int .i64 a0_3), .c (slC e28 a0_4), .c (slC e72 a0_5), .c (slC e65 a0_6), .c (slC e77 a0_7)])]) (T' := [(1, .cell (.op 0 0 8 0 0)), (22, .cell (.c (.bool (decide ((a0_4.length : Int) > (70 : Int))))))]) (Φ := True) 1 [1, 22] (by kernel_rfl) trivial J
  · intro J
    clear h
    rcases Bool.eq_false_or_eq_true (decide (a0_1 > (5 : Int))) with hb | hb
    · have h := cond_t hb gy1; clear gy1
      refine WO_ent (ent_bool (T' := [(12, .cell (.c (.bool true))), (1, .cell (.op 0 0 8 0 0))]) 12 hb (by kernel_rfl) (by kernel_rfl)) ?_
      obtain rfl := Option.some.inj h
      refine WO_exk (σ' := [some (.lit 0 27 [.c (.int .i64 a0_0), .c (.int .i64 a0_1), .c (.int .i64 a0_2), .c (.int .i64 a0_3), .c (slC e28 a0_4), .c (slC e72 a0_5), .c (slC e65 a0_6), .c (slC e77 a0_7)])]) (T' := [(1, .cell (.op 0 0 8 0 0)), (16, .cell (.c (.bool true)))]) (Φ := True) 4 [1, 16] (by kernel_rfl) trivial J
    · have h := cond_f hb gy1; clear gy1
      refine WO_ent (ent_bool (T' := [(12, .cell (.c (.bool false))), (1, .cell (.op 0 0 8 0 0))]) 12 hb (by kernel_rfl) (by kernel_rfl)) ?_
      refine WO_exk (σ' := [some (.lit 0 27 [.c (.int .i64 a0_0), .c (.int .i64 a0_1), .c (.int .i64 a0_2), .c (.int .i64 a0_3), .c (slC e28 a0_4), .c (slC e72 a0_5), .c (slC e65 a0_6), .c (slC e77 a0_7)])]) (T' := [(1, .cell (.op 0 0 8 0 0)), (12, .cell (.c (.bool false))), (15, .cell (.c (.bool (decide (a0_2 > (100 : Int))))))]) (Φ := (True)) 3 [1, 12, 15] (by kernel_rfl) trivial ?_
      obtain rfl := Option.some.inj h
      refine WO_exk (σ' := [some (.lit 0 27 [.c (.int .i64 a0_0), .c (.int .i64 a0_1), .c (.int .i64 a0_2), .c (.int .i64 a0_3), .c (slC e28 a0_4), .c (slC e72 a0_5), .c (slC e65 a0_6), .c (slC e77 a0_7)])]) (T' := [(1, .cell (.op 0 0 8 0 0)), (16, .cell (.c (.bool (decide (a0_2 > (100 : Int))))))]) (Φ := True) 1 [1, 16] (by kernel_rfl) trivial J

/- attestorlaw13.short -/
def s10_0 (L : LP) (a0_1 : (List (List Int))) (y2 : (Int × Int)) : Option ((Int × Int) ⊕ Int) :=
  (bif (decide (y2.2 < (a0_1.length : Int))) then
  (ck (0 ≤ y2.2 ∧ y2.2 < (a0_1.length : Int))).bind fun _ =>
  some (.inl ((IntKind.wrap .i64 ((IntKind.wrap .i64 (y2.1 + ((a0_1.getD y2.2.toNat e28.d).length : Int))) + (1 : Int))), (IntKind.wrap .i64 (y2.2 + (1 : Int)))))
  else some (.inr y2.1))
def s10 (L : LP) (a0_0 : (List Int)) (a0_1 : (List (List Int))) : Option Bool :=
  ((L.run (s10_0 L a0_1) ((a0_0.length : Int), (0 : Int))).bind (fun (v : Int) => some v)).bind fun (y1 : Int) =>
  some (decide (y1 ≤ (3000 : Int)))
theorem p10 (L : LP) (a0_0 : (List Int)) (a0_1 : (List (List Int))) (r : Bool) (h : s10 L a0_0 a0_1 = some r) : Pure X 10 [.agg [.c (slC e44 a0_0), .c (slC e28 a0_1)]] (.cell (.c (.bool r))) := by
  refine Pure_of_W (c := cd Tryd.f10 []) Tryd.func10 (by kernel_rfl) (N := 26) (by kernel_rfl) (Nat.le_of_ble_eq_true (by kernel_rfl)) ?_
  unfold s10 at h
  refine W_seq_at (by kernel_rfl) ?_
  refine W_region_at (by kernel_rfl) ?_
  refine WO_fin (σ' := [some (.lit 0 30 [.c (slC e44 a0_0), .c (slC e28 a0_1)])]) (T' := [(1, .cell (.op 0 0 2 0 0))]) (Φ := (True)) 2 [1] (by kernel_rfl) trivial (by kernel_rfl) ?_
  refine thenQ_n ?_
  refine W_seq_at (by kernel_rfl) ?_
  refine W_region_at (by kernel_rfl) ?_
  refine WO_fin (σ' := [some (.lit 0 30 [.c (slC e44 a0_0), .c (slC e28 a0_1)])]) (T' := [(1, .cell (.op 0 0 2 0 0)), (3, .cell (.c (.int .i64 (a0_0.length : Int))))]) (Φ := (True)) 4 [1, 3] (by kernel_rfl) trivial (by kernel_rfl) ?_
  refine thenQ_n ?_
  obtain ⟨y1, gy1, ky1⟩ := bind_some h
  refine W_cut (by kernel_rfl) [some (.lit 0 30 [.c (slC e44 a0_0), .c (slC e28 a0_1)])] [(3, .cell (.c (.int .i64 y1)))] ?_ ?_
  · have h := ky1; clear gy1 ky1
    refine W_seq_at (by kernel_rfl) ?_
    refine W_region_at (by kernel_rfl) ?_
    refine WO_fin (σ' := [some (.lit 0 30 [.c (slC e44 a0_0), .c (slC e28 a0_1)])]) (T' := [(2, .cell (.c (.bool (decide (y1 ≤ (3000 : Int))))))]) (Φ := (True)) 3 [2] (by kernel_rfl) trivial (by kernel_rfl) ?_
    refine thenQ_n ?_
    refine W_ret_at (by kernel_rfl) ?_
    obtain rfl := Option.some.inj h
    exact qret [.cell (.c (.bool (decide (y1 ≤ (3000 : Int)))))] (by kernel_rfl) (by kernel_rfl) ([]) (by kernel_rfl)
  · have h := gy1; clear gy1 ky1
    refine W_seq_at (by kernel_rfl) ?_
    refine W_region_at (by kernel_rfl) ?_
    refine WO_fin (σ' := [some (.lit 0 30 [.c (slC e44 a0_0), .c (slC e28 a0_1)])]) (T' := [(1, .cell (.op 0 0 2 0 0)), (3, .cell (.c (.int .i64 (a0_0.length : Int)))), (4, .cell (.c (.int .i64 (0 : Int))))]) (Φ := (True)) 1 [1, 3, 4] (by kernel_rfl) trivial (by kernel_rfl) ?_
    refine thenQ_n ?_
    refine W_block_at 0 (by kernel_rfl) (by kernel_rfl) ?_
    obtain ⟨b3, gb3, kb3⟩ := bind_some h
    refine W_loop_at (S := fun (y2 : (Int × Int)) => ([some (.lit 0 30 [.c (slC e44 a0_0), .c (slC e28 a0_1)])], [(1, .cell (.op 0 0 2 0 0)), (3, .cell (.c (.int .i64 y2.1))), (4, .cell (.c (.int .i64 y2.2)))])) (step := _) (x0 := ((a0_0.length : Int), (0 : Int))) (b := b3) (L.ok _ _ _ gb3) (by kernel_rfl) (stps_ok [.keep [1, 3, 4], .take 1] (by kernel_rfl)) ?_
    clear gb3 h; intro y2 o h; unfold s10_0 at h
    refine W_seq_at (by kernel_rfl) ?_
    refine W_seq_at (by kernel_rfl) ?_
    refine W_region_at (by kernel_rfl) ?_
    refine WO_fin (σ' := [some (.lit 0 30 [.c (slC e44 a0_0), .c (slC e28 a0_1)])]) (T' := [(1, .cell (.op 0 0 2 0 0)), (3, .cell (.c (.int .i64 y2.1))), (4, .cell (.c (.int .i64 y2.2))), (12, .cell (.c (.bool (decide (y2.2 < (a0_1.length : Int))))))]) (Φ := (True)) 5 [1, 3, 4, 12] (by kernel_rfl) trivial (by kernel_rfl) ?_
    refine thenQ_n ?_
    refine W_cond_at (b := (decide (y2.2 < (a0_1.length : Int)))) (by kernel_rfl) (fun hb => ?_) (fun hb => ?_)
    · have h := cond_t hb h
      refine W_skip_at (by kernel_rfl) ?_
      refine thenQ_n ?_
      refine W_seq_at (by kernel_rfl) ?_
      refine W_block_at 1 (by kernel_rfl) (by kernel_rfl) ?_
      refine W_region_at (by kernel_rfl) ?_
      obtain ⟨c4, h⟩ := ck_bind h
      refine WO_exk (σ' := [some (.lit 0 30 [.c (slC e44 a0_0), .c (slC e28 a0_1)])]) (T' := [(1, .cell (.op 0 0 2 0 0)), (4, .cell (.c (.int .i64 y2.2))), (15, .cell (.c (.int .i64 y2.1))), (21, .cell (.c (.int .i64 ((a0_1.getD y2.2.toNat e28.d).length : Int))))]) (Φ := (0 ≤ y2.2 ∧ y2.2 < (a0_1.length : Int)) ∧ (True)) 7 [1, 4, 15, 21] (by kernel_rfl) ⟨c4, trivial⟩ ?_
      refine WO_wrapadd (d := some 22) (ki := .i64) (a := y2.1) (b := ((a0_1.getD y2.2.toNat e28.d).length : Int)) (by kernel_rfl) ?_
      refine WO_wrapadd (d := some 23) (ki := .i64) (a := (IntKind.wrap .i64 (y2.1 + ((a0_1.getD y2.2.toNat e28.d).length : Int)))) (b := (1 : Int)) (by kernel_rfl) ?_
      refine WO_fin (σ' := [some (.lit 0 30 [.c (slC e44 a0_0), .c (slC e28 a0_1)])]) (T' := [(1, .cell (.op 0 0 2 0 0)), (3, .cell (.c (.int .i64 (IntKind.wrap .i64 ((IntKind.wrap .i64 (y2.1 + ((a0_1.getD y2.2.toNat e28.d).length : Int))) + (1 : Int)))))), (4, .cell (.c (.int .i64 y2.2)))]) (Φ := (True)) 1 [1, 3, 4] (by kernel_rfl) trivial (by kernel_rfl) ?_
      refine blockQ_n ?_
      refine thenQ_n ?_
      refine W_region_at (by kernel_rfl) ?_
      refine WO_exk (σ' := [some (.lit 0 30 [.c (slC e44 a0_0), .c (slC e28 a0_1)])]) (T' := [(1, .cell (.op 0 0 2 0 0)), (3, .cell (.c (.int .i64 (IntKind.wrap .i64 ((IntKind.wrap .i64 (y2.1 + ((a0_1.getD y2.2.toNat e28.d).length : Int))) + (1 : Int)))))), (13, .cell (.c (.int .i64 y2.2)))]) (Φ := (True)) 1 [1, 3, 13] (by kernel_rfl) trivial ?_
      refine WO_wrapadd (d := some 14) (ki := .i64) (a := y2.2) (b := (1 : Int)) (by kernel_rfl) ?_
      refine WO_fin (σ' := [some (.lit 0 30 [.c (slC e44 a0_0), .c (slC e28 a0_1)])]) (T' := [(1, .cell (.op 0 0 2 0 0)), (3, .cell (.c (.int .i64 (IntKind.wrap .i64 ((IntKind.wrap .i64 (y2.1 + ((a0_1.getD y2.2.toNat e28.d).length : Int))) + (1 : Int)))))), (4, .cell (.c (.int .i64 (IntKind.wrap .i64 (y2.2 + (1 : Int))))))]) (Φ := (True)) 1 [1, 3, 4] (by kernel_rfl) trivial (by kernel_rfl) ?_
      obtain rfl := Option.some.inj h
      exact round_n _ rfl (stps_ok [.keep [1, 3, 4], .take 1] (by kernel_rfl))
    · have h := cond_f hb h
      refine W_exit_at 0 (by kernel_rfl) (by kernel_rfl) ?_
      refine thenQ_e ?_
      obtain rfl := Option.some.inj h; refine round_e rfl (fun hb => ?_); subst hb; have h := kb3
      refine blockQ_hit ?_
      obtain rfl := Option.some.inj h
      exact thenQ_n (stps_ok [.keep [3], .take 1] (by kernel_rfl))

/- system.between -/
def s45 (L : LP) (a0 : Int) (a1 : Int) (a2 : Int) : Option Bool :=
  (bif (decide (a0 ≥ a1)) then some (decide (a0 ≤ a2))
  else some false).bind fun y1 =>
  some y1
theorem p45 (L : LP) (a0 : Int) (a1 : Int) (a2 : Int) (r : Bool) (h : s45 L a0 a1 a2 = some r) : Pure X 45 [.cell (.c (.int .i64 a0)), .cell (.c (.int .i64 a1)), .cell (.c (.int .i64 a2))] (.cell (.c (.bool r))) := by
  refine Pure_of_W (c := cd Tryd.f45 []) Tryd.func45 (by kernel_rfl) (N := 15) (by kernel_rfl) (Nat.le_of_ble_eq_true (by kernel_rfl)) ?_
  unfold s45 at h
  refine W_seq_at (by kernel_rfl) ?_
  refine W_region_at (by kernel_rfl) ?_
  refine WO_fin (σ' := []) (T' := [(0, .cell (.c (.int .i64 a0))), (1, .cell (.c (.int .i64 a1))), (2, .cell (.c (.int .i64 a2)))]) (Φ := (True)) 1 [0, 1, 2] (by kernel_rfl) trivial (by kernel_rfl) ?_
  refine thenQ_n ?_
  refine W_seq_at (by kernel_rfl) ?_
  refine W_region_at (by kernel_rfl) ?_
  refine WO_exk (σ' := []) (T' := [(0, .cell (.c (.int .i64 a0))), (2, .cell (.c (.int .i64 a2))), (10, .cell (.c (.bool (decide (a0 ≥ a1)))))]) (Φ := (True)) 4 [0, 2, 10] (by kernel_rfl) trivial ?_
  obtain ⟨y1, gy1, h⟩ := bind_some h
  refine WO_join 8 [] [(14, .cell (.c (.bool y1)))] ?_ ?_
  · clear gy1
    refine WO_fin (σ' := []) (T' := [(6, .cell (.c (.bool y1)))]) (Φ := (True)) 1 [6] (by kernel_rfl) trivial (by kernel_rfl) ?_
    refine thenQ_n ?_
    refine W_ret_at (by kernel_rfl) ?_
    obtain rfl := Option.some.inj h
    exact qret [.cell (.c (.bool y1))] (by kernel_rfl) (by kernel_rfl) ([]) (by kernel_rfl)
  · intro J
    clear h
    rcases Bool.eq_false_or_eq_true (decide (a0 ≥ a1)) with hb | hb
    · have h := cond_t hb gy1; clear gy1
      refine WO_ent (ent_bool (T' := [(10, .cell (.c (.bool true))), (0, .cell (.c (.int .i64 a0))), (2, .cell (.c (.int .i64 a2)))]) 10 hb (by kernel_rfl) (by kernel_rfl)) ?_
      refine WO_exk (σ' := []) (T' := [(10, .cell (.c (.bool true))), (13, .cell (.c (.bool (decide (a0 ≤ a2)))))]) (Φ := (True)) 3 [10, 13] (by kernel_rfl) trivial ?_
      obtain rfl := Option.some.inj h
      refine WO_exk (σ' := []) (T' := [(14, .cell (.c (.bool (decide (a0 ≤ a2)))))]) (Φ := True) 1 [14] (by kernel_rfl) trivial J
    · have h := cond_f hb gy1; clear gy1
      refine WO_ent (ent_bool (T' := [(10, .cell (.c (.bool false))), (0, .cell (.c (.int .i64 a0))), (2, .cell (.c (.int .i64 a2)))]) 10 hb (by kernel_rfl) (by kernel_rfl)) ?_
      obtain rfl := Option.some.inj h
      refine WO_exk (σ' := []) (T' := [(14, .cell (.c (.bool false)))]) (Φ := True) 4 [14] (by kernel_rfl) trivial J

/- field.Valid -/
def s60 (L : LP) (a0 : Int) : Option Bool :=
  (bif (decide (a0 ≥ (0 : Int))) then some (decide (a0 < (4 : Int)))
  else some false).bind fun y1 =>
  some y1
theorem p60 (L : LP) (a0 : Int) (r : Bool) (h : s60 L a0 = some r) : Pure X 60 [.cell (.c (.int .i64 a0))] (.cell (.c (.bool r))) := by
  refine Pure_of_W (c := cd Tryd.f60 []) Tryd.func60 (by kernel_rfl) (N := 9) (by kernel_rfl) (Nat.le_of_ble_eq_true (by kernel_rfl)) ?_
  unfold s60 at h
  refine W_seq_at (by kernel_rfl) ?_
  refine W_region_at (by kernel_rfl) ?_
  refine WO_fin (σ' := []) (T' := [(0, .cell (.c (.int .i64 a0)))]) (Φ := (True)) 1 [0] (by kernel_rfl) trivial (by kernel_rfl) ?_
  refine thenQ_n ?_
  refine W_seq_at (by kernel_rfl) ?_
  refine W_region_at (by kernel_rfl) ?_
  refine WO_exk (σ' := []) (T' := [(0, .cell (.c (.int .i64 a0))), (5, .cell (.c (.bool (decide (a0 ≥ (0 : Int))))))]) (Φ := (True)) 3 [0, 5] (by kernel_rfl) trivial ?_
  obtain ⟨y1, gy1, h⟩ := bind_some h
  refine WO_join 6 [] [(8, .cell (.c (.bool y1)))] ?_ ?_
  · clear gy1
    refine WO_fin (σ' := []) (T' := [(2, .cell (.c (.bool y1)))]) (Φ := (True)) 1 [2] (by kernel_rfl) trivial (by kernel_rfl) ?_
    refine thenQ_n ?_
    refine W_ret_at (by kernel_rfl) ?_
    obtain rfl := Option.some.inj h
    exact qret [.cell (.c (.bool y1))] (by kernel_rfl) (by kernel_rfl) ([]) (by kernel_rfl)
  · intro J
    clear h
    rcases Bool.eq_false_or_eq_true (decide (a0 ≥ (0 : Int))) with hb | hb
    · have h := cond_t hb gy1; clear gy1
      refine WO_ent (ent_bool (T' := [(5, .cell (.c (.bool true))), (0, .cell (.c (.int .i64 a0)))]) 5 hb (by kernel_rfl) (by kernel_rfl)) ?_
      refine WO_exk (σ' := []) (T' := [(5, .cell (.c (.bool true))), (7, .cell (.c (.bool (decide (a0 < (4 : Int))))))]) (Φ := (True)) 2 [5, 7] (by kernel_rfl) trivial ?_
      obtain rfl := Option.some.inj h
      refine WO_exk (σ' := []) (T' := [(8, .cell (.c (.bool (decide (a0 < (4 : Int))))))]) (Φ := True) 1 [8] (by kernel_rfl) trivial J
    · have h := cond_f hb gy1; clear gy1
      refine WO_ent (ent_bool (T' := [(5, .cell (.c (.bool false))), (0, .cell (.c (.int .i64 a0)))]) 5 hb (by kernel_rfl) (by kernel_rfl)) ?_
      obtain rfl := Option.some.inj h
      refine WO_exk (σ' := []) (T' := [(8, .cell (.c (.bool false)))]) (Φ := True) 3 [8] (by kernel_rfl) trivial J

/- field.of -/
def s105 (L : LP) (a0 : Int) : Option (Int × Int × Int × Int × (List Int)) :=
  (s60 L a0).bind fun r1 =>
  (bif (!r1) then
  some ((0 : Int), (0 : Int), (0 : Int), (0 : Int), [])
  else (bif decide (a0 = (0 : Int)) then some ((97 : Int), (5 : Int), (5 : Int), (5 : Int), [3]) else (bif decide (a0 = (1 : Int)) then some ((257 : Int), (3 : Int), (8 : Int), (3 : Int), []) else (bif decide (a0 = (2 : Int)) then some ((12289 : Int), (11 : Int), (12 : Int), (5 : Int), [3]) else (bif decide (a0 = (3 : Int)) then some ((998244353 : Int), (3 : Int), (23 : Int), (3 : Int), [7, 17]) else none)))))
theorem p105 (L : LP) (a0 : Int) (r : (Int × Int × Int × Int × (List Int))) (h : s105 L a0 = some r) : Pure X 105 [.cell (.c (.int .i64 a0))] (.agg [.c (.int .u64 r.1), .c (.int .u64 r.2.1), .c (.int .i64 r.2.2.1), .c (.int .i64 r.2.2.2.1), .c (slC e44 r.2.2.2.2)]) := by
  refine Pure_of_W (c := cd Tryd.f105 []) Tryd.func105 (by kernel_rfl) (N := 10) (by kernel_rfl) (Nat.le_of_ble_eq_true (by kernel_rfl)) ?_
  unfold s105 at h
  refine W_seq_at (by kernel_rfl) ?_
  refine W_region_at (by kernel_rfl) ?_
  refine WO_fin (σ' := [some (.lit 0 134 [.c (.int .u64 (0 : Int)), .c (.int .u64 (0 : Int)), .c (.int .i64 (0 : Int)), .c (.int .i64 (0 : Int)), .c (.nsl)])]) (T' := [(0, .cell (.c (.int .i64 a0))), (2, .cell (.op 0 0 5 0 0))]) (Φ := (True)) 1 [0, 2] (by kernel_rfl) trivial (by kernel_rfl) ?_
  refine thenQ_n ?_
  refine W_seq_at (by kernel_rfl) ?_
  refine W_seq_at (by kernel_rfl) ?_
  refine W_region_at (by kernel_rfl) ?_
  refine WO_exk (σ' := [some (.lit 0 134 [.c (.int .u64 (0 : Int)), .c (.int .u64 (0 : Int)), .c (.int .i64 (0 : Int)), .c (.int .i64 (0 : Int)), .c (.nsl)])]) (T' := [(0, .cell (.c (.int .i64 a0))), (2, .cell (.op 0 0 5 0 0)), (3, .cell (.c (.int .i64 a0)))]) (Φ := (True)) 1 [0, 2, 3] (by kernel_rfl) trivial ?_
  obtain ⟨r1, gr1, h⟩ := bind_some h
  refine WO_call (f := 60) (all := [.cell (.c (.int .i64 a0))]) (d := some 4) (r := .cell (.c (.bool r1))) (by kernel_rfl) (by kernel_rfl) (by kernel_rfl) Tryd.call60 (p60 L _ _ gr1) ?_
  refine WO_fin (σ' := [some (.lit 0 134 [.c (.int .u64 (0 : Int)), .c (.int .u64 (0 : Int)), .c (.int .i64 (0 : Int)), .c (.int .i64 (0 : Int)), .c (.nsl)])]) (T' := [(0, .cell (.c (.int .i64 a0))), (2, .cell (.op 0 0 5 0 0)), (5, .cell (.c (.bool (!r1))))]) (Φ := (True)) 1 [0, 2, 5] (by kernel_rfl) trivial (by kernel_rfl) ?_
  refine thenQ_n ?_
  refine W_cond_at (b := (!r1)) (by kernel_rfl) (fun hb => ?_) (fun hb => ?_)
  · have h := cond_t hb h
    refine W_seq_at (by kernel_rfl) ?_
    refine W_region_at (by kernel_rfl) ?_
    refine WO_fin (σ' := [some (.lit 0 134 [.c (.int .u64 (0 : Int)), .c (.int .u64 (0 : Int)), .c (.int .i64 (0 : Int)), .c (.int .i64 (0 : Int)), .c (.nsl)])]) (T' := [(2, .cell (.op 0 0 5 0 0))]) (Φ := (True)) 2 [2] (by kernel_rfl) trivial (by kernel_rfl) ?_
    refine thenQ_n ?_
    refine W_ret_at (by kernel_rfl) ?_
    refine thenQ_r ?_
    obtain rfl := Option.some.inj h
    exact qret [.agg [.c (.int .u64 (0 : Int)), .c (.int .u64 (0 : Int)), .c (.int .i64 (0 : Int)), .c (.int .i64 (0 : Int)), .c (.nsl)]] (by kernel_rfl) (by kernel_rfl) ([.agg [.no, .no, .no, .no, .sl 1 (fun i j => (e44.row (([] : List Int).getD i e44.d)).getD j .jk)]]) (by kernel_rfl)
  · have h := cond_f hb h
    refine W_skip_at (by kernel_rfl) ?_
    refine thenQ_n ?_
    refine W_seq_at (by kernel_rfl) ?_
    refine W_region_at (by kernel_rfl) ?_
    refine WO_exk (σ' := [some (.lit 0 134 [.c (.int .u64 (0 : Int)), .c (.int .u64 (0 : Int)), .c (.int .i64 (0 : Int)), .c (.int .i64 (0 : Int)), .c (.nsl)])]) (T' := [(2, .cell (.op 0 0 5 0 0)), (7, .cell (.c (.int .i64 a0)))]) (Φ := (True)) 1 [2, 7] (by kernel_rfl) trivial ?_
    rcases Bool.eq_false_or_eq_true (decide (a0 = (0 : Int))) with hb | hb
    · have h := cond_t hb h; have hq := of_decide_eq_true hb; subst hq
      refine WO_fin (σ' := [some (.lit 0 134 [.c (.int .u64 (97 : Int)), .c (.int .u64 (5 : Int)), .c (.int .i64 (5 : Int)), .c (.int .i64 (5 : Int)), .c (slC e44 [3])])]) (T' := [(2, .cell (.op 0 0 5 0 0))]) (Φ := (0 ≤ (0 : Int) ∧ (0 : Int) < ((4 : Nat) : Int)) ∧ (True)) 3 [2] (by kernel_rfl) ⟨(by decide), trivial⟩ (by kernel_rfl) ?_
      refine thenQ_n ?_
      refine W_ret_at (by kernel_rfl) ?_
      obtain rfl := Option.some.inj h
      exact qret [.agg [.c (.int .u64 (97 : Int)), .c (.int .u64 (5 : Int)), .c (.int .i64 (5 : Int)), .c (.int .i64 (5 : Int)), .c (slC e44 [3])]] (by kernel_rfl) (by kernel_rfl) ([]) (by kernel_rfl)
    have h := cond_f hb h
    rcases Bool.eq_false_or_eq_true (decide (a0 = (1 : Int))) with hb | hb
    · have h := cond_t hb h; have hq := of_decide_eq_true hb; subst hq
      refine WO_fin (σ' := [some (.lit 0 134 [.c (.int .u64 (257 : Int)), .c (.int .u64 (3 : Int)), .c (.int .i64 (8 : Int)), .c (.int .i64 (3 : Int)), .c (.nsl)])]) (T' := [(2, .cell (.op 0 0 5 0 0))]) (Φ := (0 ≤ (1 : Int) ∧ (1 : Int) < ((4 : Nat) : Int)) ∧ (True)) 3 [2] (by kernel_rfl) ⟨(by decide), trivial⟩ (by kernel_rfl) ?_
      refine thenQ_n ?_
      refine W_ret_at (by kernel_rfl) ?_
      obtain rfl := Option.some.inj h
      exact qret [.agg [.c (.int .u64 (257 : Int)), .c (.int .u64 (3 : Int)), .c (.int .i64 (8 : Int)), .c (.int .i64 (3 : Int)), .c (.nsl)]] (by kernel_rfl) (by kernel_rfl) ([.agg [.no, .no, .no, .no, .sl 1 (fun i j => (e44.row (([] : List Int).getD i e44.d)).getD j .jk)]]) (by kernel_rfl)
    have h := cond_f hb h
    rcases Bool.eq_false_or_eq_true (decide (a0 = (2 : Int))) with hb | hb
    · have h := cond_t hb h; have hq := of_decide_eq_true hb; subst hq
      refine WO_fin (σ' := [some (.lit 0 134 [.c (.int .u64 (12289 : Int)), .c (.int .u64 (11 : Int)), .c (.int .i64 (12 : Int)), .c (.int .i64 (5 : Int)), .c (slC e44 [3])])]) (T' := [(2, .cell (.op 0 0 5 0 0))]) (Φ := (0 ≤ (2 : Int) ∧ (2 : Int) < ((4 : Nat) : Int)) ∧ (True)) 3 [2] (by kernel_rfl) ⟨(by decide), trivial⟩ (by kernel_rfl) ?_
      refine thenQ_n ?_
      refine W_ret_at (by kernel_rfl) ?_
      obtain rfl := Option.some.inj h
      exact qret [.agg [.c (.int .u64 (12289 : Int)), .c (.int .u64 (11 : Int)), .c (.int .i64 (12 : Int)), .c (.int .i64 (5 : Int)), .c (slC e44 [3])]] (by kernel_rfl) (by kernel_rfl) ([]) (by kernel_rfl)
    have h := cond_f hb h
    rcases Bool.eq_false_or_eq_true (decide (a0 = (3 : Int))) with hb | hb
    · have h := cond_t hb h; have hq := of_decide_eq_true hb; subst hq
      refine WO_fin (σ' := [some (.lit 0 134 [.c (.int .u64 (998244353 : Int)), .c (.int .u64 (3 : Int)), .c (.int .i64 (23 : Int)), .c (.int .i64 (3 : Int)), .c (slC e44 [7, 17])])]) (T' := [(2, .cell (.op 0 0 5 0 0))]) (Φ := (0 ≤ (3 : Int) ∧ (3 : Int) < ((4 : Nat) : Int)) ∧ (True)) 3 [2] (by kernel_rfl) ⟨(by decide), trivial⟩ (by kernel_rfl) ?_
      refine thenQ_n ?_
      refine W_ret_at (by kernel_rfl) ?_
      obtain rfl := Option.some.inj h
      exact qret [.agg [.c (.int .u64 (998244353 : Int)), .c (.int .u64 (3 : Int)), .c (.int .i64 (23 : Int)), .c (.int .i64 (3 : Int)), .c (slC e44 [7, 17])]] (by kernel_rfl) (by kernel_rfl) ([]) (by kernel_rfl)
    have h := cond_f hb h
    cases h

/- field.Twos -/
def s61 (L : LP) (a0 : Int) : Option Int :=
  (s105 L a0).bind fun r1 =>
  some r1.2.2.1
theorem p61 (L : LP) (a0 : Int) (r : Int) (h : s61 L a0 = some r) : Pure X 61 [.cell (.c (.int .i64 a0))] (.cell (.c (.int .i64 r))) := by
  refine Pure_of_W (c := cd Tryd.f61 []) Tryd.func61 (by kernel_rfl) (N := 6) (by kernel_rfl) (Nat.le_of_ble_eq_true (by kernel_rfl)) ?_
  unfold s61 at h
  refine W_seq_at (by kernel_rfl) ?_
  refine W_region_at (by kernel_rfl) ?_
  refine WO_fin (σ' := []) (T' := [(0, .cell (.c (.int .i64 a0)))]) (Φ := (True)) 1 [0] (by kernel_rfl) trivial (by kernel_rfl) ?_
  refine thenQ_n ?_
  refine W_seq_at (by kernel_rfl) ?_
  refine W_region_at (by kernel_rfl) ?_
  refine WO_exk (σ' := []) (T' := [(3, .cell (.c (.int .i64 a0)))]) (Φ := (True)) 1 [3] (by kernel_rfl) trivial ?_
  obtain ⟨r1, gr1, h⟩ := bind_some h
  refine WO_call (f := 105) (all := [.cell (.c (.int .i64 a0))]) (d := some 4) (r := .agg [.c (.int .u64 r1.1), .c (.int .u64 r1.2.1), .c (.int .i64 r1.2.2.1), .c (.int .i64 r1.2.2.2.1), .c (slC e44 r1.2.2.2.2)]) (by kernel_rfl) (by kernel_rfl) (by kernel_rfl) Tryd.call105 (p105 L _ _ gr1) ?_
  refine WO_fin (σ' := []) (T' := [(2, .cell (.c (.int .i64 r1.2.2.1)))]) (Φ := (True)) 2 [2] (by kernel_rfl) trivial (by kernel_rfl) ?_
  refine thenQ_n ?_
  refine W_ret_at (by kernel_rfl) ?_
  obtain rfl := Option.some.inj h
  exact qret [.cell (.c (.int .i64 r1.2.2.1))] (by kernel_rfl) (by kernel_rfl) ([]) (by kernel_rfl)

/- slices.IndexFunc[[][]uint64,[]uint64] -/
def s129_0 (L : LP) (a0 : (List (List Int))) (g1 : (List Int) → Option Bool) (y3 : Int) : Option (Int ⊕ (Int ⊕ Unit)) :=
  (bif (decide (y3 < (a0.length : Int))) then
  (ck (0 ≤ y3 ∧ y3 < (a0.length : Int))).bind fun _ =>
  (g1 (a0.getD y3.toNat e28.d)).bind fun r6 =>
  (bif r6 then
  some (.inr (.inl y3))
  else (ck (inR .i64 (y3 + (1 : Int)))).bind fun _ =>
  some (.inl (y3 + (1 : Int))))
  else some (.inr (.inr ())))
def s129 (L : LP) (a0 : (List (List Int))) (g1 : (List Int) → Option Bool) : Option Int :=
  ((L.run (s129_0 L a0 g1) (0 : Int)).bind (fun (b : Int ⊕ Unit) => (match b with
  | .inl v => some (.inr v)
  | .inr v => some (.inl ())))).bind fun (y1 : Unit ⊕ Int) => (match y1 with
  | .inl v2 => some (-1 : Int)
  | .inr v2 => some v2)
theorem p129 (L : LP) (a0 : (List (List Int))) (f1 n1 : Nat) (c1 : Nat → C) (g1 : (List Int) → Option Bool) (hg1 : ∀ (x0 : (List Int)) (r : Bool), g1 x0 = some r → Pure X f1 ([.cell (.c (slC e44 x0))] ++ capsC n1 c1) (.cell (.c (.bool r)))) (hc1 : ∀ (av : Array Value) (w : World), (callFunc f1 av).run X.P w = .ok (.enter f1 av) w) (r : Int) (h : s129 L a0 g1 = some r) : Pure X 129 [.cell (.c (slC e28 a0)), .cell (.c (.fn f1 n1 c1))] (.cell (.c (.int .i64 r))) := by
  refine Pure_of_W (c := cd Tryd.f129 []) Tryd.func129 (by kernel_rfl) (N := 19) (by kernel_rfl) (Nat.le_of_ble_eq_true (by kernel_rfl)) ?_
  unfold s129 at h
  refine W_seq_at (by kernel_rfl) ?_
  refine W_region_at (by kernel_rfl) ?_
  refine WO_fin (σ' := []) (T' := [(0, .cell (.c (slC e28 a0))), (1, .cell (.c (.fn f1 n1 c1)))]) (Φ := (True)) 1 [0, 1] (by kernel_rfl) trivial (by kernel_rfl) ?_
  refine thenQ_n ?_
  obtain ⟨y1, gy1, ky1⟩ := bind_some h
  refine W_cutE (by kernel_rfl) (fun v2 => y1 = .inl v2) (fun v2 => ([], [])) ?_ ?_
  · intro v2 hv; subst hv; have h := ky1; clear gy1 ky1; dsimp only at h
    refine W_seq_at (by kernel_rfl) ?_
    refine W_region_at (by kernel_rfl) ?_
    refine WO_fin (σ' := []) (T' := [(4, .cell (.c (.int .i64 (-1 : Int))))]) (Φ := (True)) 1 [4] (by kernel_rfl) trivial (by kernel_rfl) ?_
    refine thenQ_n ?_
    refine W_ret_at (by kernel_rfl) ?_
    obtain rfl := Option.some.inj h
    exact qret [.cell (.c (.int .i64 (-1 : Int)))] (by kernel_rfl) (by kernel_rfl) ([]) (by kernel_rfl)
  · have h := gy1; clear gy1
    refine W_seq_at (by kernel_rfl) ?_
    refine W_region_at (by kernel_rfl) ?_
    refine WO_fin (σ' := []) (T' := [(0, .cell (.c (slC e28 a0))), (1, .cell (.c (.fn f1 n1 c1))), (7, .cell (.c (.int .i64 (a0.length : Int)))), (8, .cell (.c (.int .i64 (0 : Int))))]) (Φ := (True)) 3 [0, 1, 7, 8] (by kernel_rfl) trivial (by kernel_rfl) ?_
    refine thenQ_n ?_
    refine W_block_at 0 (by kernel_rfl) (by kernel_rfl) ?_
    obtain ⟨b4, gb4, kb4⟩ := bind_some h
    refine W_loop_at (S := fun (y3 : Int) => ([], [(0, .cell (.c (slC e28 a0))), (1, .cell (.c (.fn f1 n1 c1))), (7, .cell (.c (.int .i64 (a0.length : Int)))), (8, .cell (.c (.int .i64 y3)))])) (step := _) (x0 := (0 : Int)) (b := b4) (L.ok _ _ _ gb4) (by kernel_rfl) (stps_ok [.keep [0, 1, 7, 8], .take 0] (by kernel_rfl)) ?_
    clear gb4 h; intro y3 o h; unfold s129_0 at h
    refine W_seq_at (by kernel_rfl) ?_
    refine W_region_at (by kernel_rfl) ?_
    refine WO_fin (σ' := []) (T' := [(0, .cell (.c (slC e28 a0))), (1, .cell (.c (.fn f1 n1 c1))), (7, .cell (.c (.int .i64 (a0.length : Int)))), (8, .cell (.c (.int .i64 y3))), (9, .cell (.c (.bool (decide (y3 < (a0.length : Int))))))]) (Φ := (True)) 1 [0, 1, 7, 8, 9] (by kernel_rfl) trivial (by kernel_rfl) ?_
    refine thenQ_n ?_
    refine W_seq_at (by kernel_rfl) ?_
    refine W_cond_at (b := (decide (y3 < (a0.length : Int)))) (by kernel_rfl) (fun hb => ?_) (fun hb => ?_)
    · have h := cond_t hb h
      refine W_skip_at (by kernel_rfl) ?_
      refine thenQ_n ?_
      refine W_seq_at (by kernel_rfl) ?_
      refine W_block_at 1 (by kernel_rfl) (by kernel_rfl) ?_
      refine W_seq_at (by kernel_rfl) ?_
      refine W_region_at (by kernel_rfl) ?_
      refine WO_fin (σ' := []) (T' := [(0, .cell (.c (slC e28 a0))), (1, .cell (.c (.fn f1 n1 c1))), (5, .cell (.c (.int .i64 y3))), (7, .cell (.c (.int .i64 (a0.length : Int)))), (8, .cell (.c (.int .i64 y3)))]) (Φ := (True)) 2 [0, 1, 5, 7, 8] (by kernel_rfl) trivial (by kernel_rfl) ?_
      refine thenQ_n ?_
      refine W_seq_at (by kernel_rfl) ?_
      refine W_region_at (by kernel_rfl) ?_
      obtain ⟨c5, h⟩ := ck_bind h
      refine WO_exk (σ' := []) (T' := [(0, .cell (.c (slC e28 a0))), (1, .cell (.c (.fn f1 n1 c1))), (5, .cell (.c (.int .i64 y3))), (7, .cell (.c (.int .i64 (a0.length : Int)))), (8, .cell (.c (.int .i64 y3))), (11, .cell (.c (.fn f1 n1 c1))), (15, .cell (.c (slC e44 (a0.getD y3.toNat e28.d))))]) (Φ := (0 ≤ y3 ∧ y3 < (a0.length : Int)) ∧ (True)) 5 [0, 1, 5, 7, 8, 11, 15] (by kernel_rfl) ⟨c5, trivial⟩ ?_
      obtain ⟨r6, gr6, h⟩ := bind_some h
      refine WO_callf (f := f1) (n := n1) (cap := c1) (avs := [.cell (.c (slC e44 (a0.getD y3.toNat e28.d)))]) (d := some 16) (r := .cell (.c (.bool r6))) (by kernel_rfl) (by kernel_rfl) (by kernel_rfl) hc1 (hg1 _ _ gr6) ?_
      refine WO_fin (σ' := []) (T' := [(0, .cell (.c (slC e28 a0))), (1, .cell (.c (.fn f1 n1 c1))), (5, .cell (.c (.int .i64 y3))), (7, .cell (.c (.int .i64 (a0.length : Int)))), (8, .cell (.c (.int .i64 y3))), (16, .cell (.c (.bool r6)))]) (Φ := True) 0 [0, 1, 5, 7, 8, 16] (by kernel_rfl) trivial (by kernel_rfl) ?_
      refine thenQ_n ?_
      refine W_cond_at (b := r6) (by kernel_rfl) (fun hb => ?_) (fun hb => ?_)
      · have h := cond_t hb h
        refine W_seq_at (by kernel_rfl) ?_
        refine W_region_at (by kernel_rfl) ?_
        refine WO_fin (σ' := []) (T' := [(4, .cell (.c (.int .i64 y3)))]) (Φ := (True)) 2 [4] (by kernel_rfl) trivial (by kernel_rfl) ?_
        refine thenQ_n ?_
        refine W_ret_at (by kernel_rfl) ?_
        refine blockQ_r ?_
        refine thenQ_r ?_
        obtain rfl := Option.some.inj h; refine round_r rfl (fun hb => ?_); subst hb; have h := kb4; dsimp only at h
        refine blockQ_r ?_
        obtain rfl := Option.some.inj h; have h := ky1; dsimp only at h; refine thenQ_r ?_
        obtain rfl := Option.some.inj h
        exact qret [.cell (.c (.int .i64 y3))] (by kernel_rfl) (by kernel_rfl) ([]) (by kernel_rfl)
      · have h := cond_f hb h
        refine W_skip_at (by kernel_rfl) ?_
        refine blockQ_n ?_
        refine thenQ_n ?_
        refine W_region_at (by kernel_rfl) ?_
        obtain ⟨c7, h⟩ := ck_bind h
        refine WO_fin (σ' := []) (T' := [(0, .cell (.c (slC e28 a0))), (1, .cell (.c (.fn f1 n1 c1))), (7, .cell (.c (.int .i64 (a0.length : Int)))), (8, .cell (.c (.int .i64 (y3 + (1 : Int)))))]) (Φ := (inR .i64 (y3 + (1 : Int))) ∧ (True)) 2 [0, 1, 7, 8] (by kernel_rfl) ⟨c7, trivial⟩ (by kernel_rfl) ?_
        obtain rfl := Option.some.inj h
        exact round_n _ rfl (stps_ok [.keep [0, 1, 7, 8], .take 0] (by kernel_rfl))
    · have h := cond_f hb h
      refine W_exit_at 0 (by kernel_rfl) (by kernel_rfl) ?_
      refine thenQ_e ?_
      obtain rfl := Option.some.inj h; refine round_e rfl (fun hb => ?_); subst hb; have h := kb4; dsimp only at h
      refine blockQ_hit ?_
      obtain rfl := Option.some.inj h
      exact thenQ_n ⟨_, rfl, stps_ok [.keep [], .take 0] (by kernel_rfl)⟩

/- slices.ContainsFunc[[][]uint64,[]uint64] -/
def s106 (L : LP) (a0 : (List (List Int))) (g1 : (List Int) → Option Bool) : Option Bool :=
  (s129 L a0 g1).bind fun r1 =>
  some (decide (r1 ≥ (0 : Int)))
theorem p106 (L : LP) (a0 : (List (List Int))) (f1 n1 : Nat) (c1 : Nat → C) (g1 : (List Int) → Option Bool) (hg1 : ∀ (x0 : (List Int)) (r : Bool), g1 x0 = some r → Pure X f1 ([.cell (.c (slC e44 x0))] ++ capsC n1 c1) (.cell (.c (.bool r)))) (hc1 : ∀ (av : Array Value) (w : World), (callFunc f1 av).run X.P w = .ok (.enter f1 av) w) (r : Bool) (h : s106 L a0 g1 = some r) : Pure X 106 [.cell (.c (slC e28 a0)), .cell (.c (.fn f1 n1 c1))] (.cell (.c (.bool r))) := by
  refine Pure_of_W (c := cd Tryd.f106 []) Tryd.func106 (by kernel_rfl) (N := 9) (by kernel_rfl) (Nat.le_of_ble_eq_true (by kernel_rfl)) ?_
  unfold s106 at h
  refine W_seq_at (by kernel_rfl) ?_
  refine W_region_at (by kernel_rfl) ?_
  refine WO_fin (σ' := []) (T' := [(0, .cell (.c (slC e28 a0))), (1, .cell (.c (.fn f1 n1 c1)))]) (Φ := (True)) 1 [0, 1] (by kernel_rfl) trivial (by kernel_rfl) ?_
  refine thenQ_n ?_
  refine W_seq_at (by kernel_rfl) ?_
  refine W_region_at (by kernel_rfl) ?_
  refine WO_exk (σ' := []) (T' := [(5, .cell (.c (slC e28 a0))), (6, .cell (.c (.fn f1 n1 c1)))]) (Φ := (True)) 2 [5, 6] (by kernel_rfl) trivial ?_
  obtain ⟨r1, gr1, h⟩ := bind_some h
  refine WO_call (f := 129) (all := [.cell (.c (slC e28 a0)), .cell (.c (.fn f1 n1 c1))]) (d := some 7) (r := .cell (.c (.int .i64 r1))) (by kernel_rfl) (by kernel_rfl) (by kernel_rfl) Tryd.call129 (p129 L _ f1 n1 c1 g1 hg1 hc1 _ gr1) ?_
  refine WO_fin (σ' := []) (T' := [(4, .cell (.c (.bool (decide (r1 ≥ (0 : Int))))))]) (Φ := (True)) 2 [4] (by kernel_rfl) trivial (by kernel_rfl) ?_
  refine thenQ_n ?_
  refine W_ret_at (by kernel_rfl) ?_
  obtain rfl := Option.some.inj h
  exact qret [.cell (.c (.bool (decide (r1 ≥ (0 : Int)))))] (by kernel_rfl) (by kernel_rfl) ([]) (by kernel_rfl)

/- field.P -/
def s73 (L : LP) (a0 : Int) : Option Int :=
  (s105 L a0).bind fun r1 =>
  some r1.1
theorem p73 (L : LP) (a0 : Int) (r : Int) (h : s73 L a0 = some r) : Pure X 73 [.cell (.c (.int .i64 a0))] (.cell (.c (.int .u64 r))) := by
  refine Pure_of_W (c := cd Tryd.f73 []) Tryd.func73 (by kernel_rfl) (N := 6) (by kernel_rfl) (Nat.le_of_ble_eq_true (by kernel_rfl)) ?_
  unfold s73 at h
  refine W_seq_at (by kernel_rfl) ?_
  refine W_region_at (by kernel_rfl) ?_
  refine WO_fin (σ' := []) (T' := [(0, .cell (.c (.int .i64 a0)))]) (Φ := (True)) 1 [0] (by kernel_rfl) trivial (by kernel_rfl) ?_
  refine thenQ_n ?_
  refine W_seq_at (by kernel_rfl) ?_
  refine W_region_at (by kernel_rfl) ?_
  refine WO_exk (σ' := []) (T' := [(3, .cell (.c (.int .i64 a0)))]) (Φ := (True)) 1 [3] (by kernel_rfl) trivial ?_
  obtain ⟨r1, gr1, h⟩ := bind_some h
  refine WO_call (f := 105) (all := [.cell (.c (.int .i64 a0))]) (d := some 4) (r := .agg [.c (.int .u64 r1.1), .c (.int .u64 r1.2.1), .c (.int .i64 r1.2.2.1), .c (.int .i64 r1.2.2.2.1), .c (slC e44 r1.2.2.2.2)]) (by kernel_rfl) (by kernel_rfl) (by kernel_rfl) Tryd.call105 (p105 L _ _ gr1) ?_
  refine WO_fin (σ' := []) (T' := [(2, .cell (.c (.int .u64 r1.1)))]) (Φ := (True)) 2 [2] (by kernel_rfl) trivial (by kernel_rfl) ?_
  refine thenQ_n ?_
  refine W_ret_at (by kernel_rfl) ?_
  obtain rfl := Option.some.inj h
  exact qret [.cell (.c (.int .u64 r1.1))] (by kernel_rfl) (by kernel_rfl) ([]) (by kernel_rfl)

/- slices.IndexFunc[[]uint64,uint64] -/
def s138_0 (L : LP) (a0 : (List Int)) (g1 : Int → Option Bool) (y3 : Int) : Option (Int ⊕ (Int ⊕ Unit)) :=
  (bif (decide (y3 < (a0.length : Int))) then
  (ck (0 ≤ y3 ∧ y3 < (a0.length : Int))).bind fun _ =>
  (g1 (a0.getD y3.toNat e44.d)).bind fun r6 =>
  (bif r6 then
  some (.inr (.inl y3))
  else (ck (inR .i64 (y3 + (1 : Int)))).bind fun _ =>
  some (.inl (y3 + (1 : Int))))
  else some (.inr (.inr ())))
def s138 (L : LP) (a0 : (List Int)) (g1 : Int → Option Bool) : Option Int :=
  ((L.run (s138_0 L a0 g1) (0 : Int)).bind (fun (b : Int ⊕ Unit) => (match b with
  | .inl v => some (.inr v)
  | .inr v => some (.inl ())))).bind fun (y1 : Unit ⊕ Int) => (match y1 with
  | .inl v2 => some (-1 : Int)
  | .inr v2 => some v2)
theorem p138 (L : LP) (a0 : (List Int)) (f1 n1 : Nat) (c1 : Nat → C) (g1 : Int → Option Bool) (hg1 : ∀ (x0 : Int) (r : Bool), g1 x0 = some r → Pure X f1 ([.cell (.c (.int .u64 x0))] ++ capsC n1 c1) (.cell (.c (.bool r)))) (hc1 : ∀ (av : Array Value) (w : World), (callFunc f1 av).run X.P w = .ok (.enter f1 av) w) (r : Int) (h : s138 L a0 g1 = some r) : Pure X 138 [.cell (.c (slC e44 a0)), .cell (.c (.fn f1 n1 c1))] (.cell (.c (.int .i64 r))) := by
  refine Pure_of_W (c := cd Tryd.f138 []) Tryd.func138 (by kernel_rfl) (N := 19) (by kernel_rfl) (Nat.le_of_ble_eq_true (by kernel_rfl)) ?_
  unfold s138 at h
  refine W_seq_at (by kernel_rfl) ?_
  refine W_region_at (by kernel_rfl) ?_
  refine WO_fin (σ' := []) (T' := [(0, .cell (.c (slC e44 a0))), (1, .cell (.c (.fn f1 n1 c1)))]) (Φ := (True)) 1 [0, 1] (by kernel_rfl) trivial (by kernel_rfl) ?_
  refine thenQ_n ?_
  obtain ⟨y1, gy1, ky1⟩ := bind_some h
  refine W_cutE (by kernel_rfl) (fun v2 => y1 = .inl v2) (fun v2 => ([], [])) ?_ ?_
  · intro v2 hv; subst hv; have h := ky1; clear gy1 ky1; dsimp only at h
    refine W_seq_at (by kernel_rfl) ?_
    refine W_region_at (by kernel_rfl) ?_
    refine WO_fin (σ' := []) (T' := [(4, .cell (.c (.int .i64 (-1 : Int))))]) (Φ := (True)) 1 [4] (by kernel_rfl) trivial (by kernel_rfl) ?_
    refine thenQ_n ?_
    refine W_ret_at (by kernel_rfl) ?_
    obtain rfl := Option.some.inj h
    exact qret [.cell (.c (.int .i64 (-1 : Int)))] (by kernel_rfl) (by kernel_rfl) ([]) (by kernel_rfl)
  · have h := gy1; clear gy1
    refine W_seq_at (by kernel_rfl) ?_
    refine W_region_at (by kernel_rfl) ?_
    refine WO_fin (σ' := []) (T' := [(0, .cell (.c (slC e44 a0))), (1, .cell (.c (.fn f1 n1 c1))), (7, .cell (.c (.int .i64 (a0.length : Int)))), (8, .cell (.c (.int .i64 (0 : Int))))]) (Φ := (True)) 3 [0, 1, 7, 8] (by kernel_rfl) trivial (by kernel_rfl) ?_
    refine thenQ_n ?_
    refine W_block_at 0 (by kernel_rfl) (by kernel_rfl) ?_
    obtain ⟨b4, gb4, kb4⟩ := bind_some h
    refine W_loop_at (S := fun (y3 : Int) => ([], [(0, .cell (.c (slC e44 a0))), (1, .cell (.c (.fn f1 n1 c1))), (7, .cell (.c (.int .i64 (a0.length : Int)))), (8, .cell (.c (.int .i64 y3)))])) (step := _) (x0 := (0 : Int)) (b := b4) (L.ok _ _ _ gb4) (by kernel_rfl) (stps_ok [.keep [0, 1, 7, 8], .take 0] (by kernel_rfl)) ?_
    clear gb4 h; intro y3 o h; unfold s138_0 at h
    refine W_seq_at (by kernel_rfl) ?_
    refine W_region_at (by kernel_rfl) ?_
    refine WO_fin (σ' := []) (T' := [(0, .cell (.c (slC e44 a0))), (1, .cell (.c (.fn f1 n1 c1))), (7, .cell (.c (.int .i64 (a0.length : Int)))), (8, .cell (.c (.int .i64 y3))), (9, .cell (.c (.bool (decide (y3 < (a0.length : Int))))))]) (Φ := (True)) 1 [0, 1, 7, 8, 9] (by kernel_rfl) trivial (by kernel_rfl) ?_
    refine thenQ_n ?_
    refine W_seq_at (by kernel_rfl) ?_
    refine W_cond_at (b := (decide (y3 < (a0.length : Int)))) (by kernel_rfl) (fun hb => ?_) (fun hb => ?_)
    · have h := cond_t hb h
      refine W_skip_at (by kernel_rfl) ?_
      refine thenQ_n ?_
      refine W_seq_at (by kernel_rfl) ?_
      refine W_block_at 1 (by kernel_rfl) (by kernel_rfl) ?_
      refine W_seq_at (by kernel_rfl) ?_
      refine W_region_at (by kernel_rfl) ?_
      refine WO_fin (σ' := []) (T' := [(0, .cell (.c (slC e44 a0))), (1, .cell (.c (.fn f1 n1 c1))), (5, .cell (.c (.int .i64 y3))), (7, .cell (.c (.int .i64 (a0.length : Int)))), (8, .cell (.c (.int .i64 y3)))]) (Φ := (True)) 2 [0, 1, 5, 7, 8] (by kernel_rfl) trivial (by kernel_rfl) ?_
      refine thenQ_n ?_
      refine W_seq_at (by kernel_rfl) ?_
      refine W_region_at (by kernel_rfl) ?_
      obtain ⟨c5, h⟩ := ck_bind h
      refine WO_exk (σ' := []) (T' := [(0, .cell (.c (slC e44 a0))), (1, .cell (.c (.fn f1 n1 c1))), (5, .cell (.c (.int .i64 y3))), (7, .cell (.c (.int .i64 (a0.length : Int)))), (8, .cell (.c (.int .i64 y3))), (11, .cell (.c (.fn f1 n1 c1))), (15, .cell (.c (.int .u64 (a0.getD y3.toNat e44.d))))]) (Φ := (0 ≤ y3 ∧ y3 < (a0.length : Int)) ∧ (True)) 5 [0, 1, 5, 7, 8, 11, 15] (by kernel_rfl) ⟨c5, trivial⟩ ?_
      obtain ⟨r6, gr6, h⟩ := bind_some h
      refine WO_callf (f := f1) (n := n1) (cap := c1) (avs := [.cell (.c (.int .u64 (a0.getD y3.toNat e44.d)))]) (d := some 16) (r := .cell (.c (.bool r6))) (by kernel_rfl) (by kernel_rfl) (by kernel_rfl) hc1 (hg1 _ _ gr6) ?_
      refine WO_fin (σ' := []) (T' := [(0, .cell (.c (slC e44 a0))), (1, .cell (.c (.fn f1 n1 c1))), (5, .cell (.c (.int .i64 y3))), (7, .cell (.c (.int .i64 (a0.length : Int)))), (8, .cell (.c (.int .i64 y3))), (16, .cell (.c (.bool r6)))]) (Φ := True) 0 [0, 1, 5, 7, 8, 16] (by kernel_rfl) trivial (by kernel_rfl) ?_
      refine thenQ_n ?_
      refine W_cond_at (b := r6) (by kernel_rfl) (fun hb => ?_) (fun hb => ?_)
      · have h := cond_t hb h
        refine W_seq_at (by kernel_rfl) ?_
        refine W_region_at (by kernel_rfl) ?_
        refine WO_fin (σ' := []) (T' := [(4, .cell (.c (.int .i64 y3)))]) (Φ := (True)) 2 [4] (by kernel_rfl) trivial (by kernel_rfl) ?_
        refine thenQ_n ?_
        refine W_ret_at (by kernel_rfl) ?_
        refine blockQ_r ?_
        refine thenQ_r ?_
        obtain rfl := Option.some.inj h; refine round_r rfl (fun hb => ?_); subst hb; have h := kb4; dsimp only at h
        refine blockQ_r ?_
        obtain rfl := Option.some.inj h; have h := ky1; dsimp only at h; refine thenQ_r ?_
        obtain rfl := Option.some.inj h
        exact qret [.cell (.c (.int .i64 y3))] (by kernel_rfl) (by kernel_rfl) ([]) (by kernel_rfl)
      · have h := cond_f hb h
        refine W_skip_at (by kernel_rfl) ?_
        refine blockQ_n ?_
        refine thenQ_n ?_
        refine W_region_at (by kernel_rfl) ?_
        obtain ⟨c7, h⟩ := ck_bind h
        refine WO_fin (σ' := []) (T' := [(0, .cell (.c (slC e44 a0))), (1, .cell (.c (.fn f1 n1 c1))), (7, .cell (.c (.int .i64 (a0.length : Int)))), (8, .cell (.c (.int .i64 (y3 + (1 : Int)))))]) (Φ := (inR .i64 (y3 + (1 : Int))) ∧ (True)) 2 [0, 1, 7, 8] (by kernel_rfl) ⟨c7, trivial⟩ (by kernel_rfl) ?_
        obtain rfl := Option.some.inj h
        exact round_n _ rfl (stps_ok [.keep [0, 1, 7, 8], .take 0] (by kernel_rfl))
    · have h := cond_f hb h
      refine W_exit_at 0 (by kernel_rfl) (by kernel_rfl) ?_
      refine thenQ_e ?_
      obtain rfl := Option.some.inj h; refine round_e rfl (fun hb => ?_); subst hb; have h := kb4; dsimp only at h
      refine blockQ_hit ?_
      obtain rfl := Option.some.inj h
      exact thenQ_n ⟨_, rfl, stps_ok [.keep [], .take 0] (by kernel_rfl)⟩

/- slices.ContainsFunc[[]uint64,uint64] -/
def s127 (L : LP) (a0 : (List Int)) (g1 : Int → Option Bool) : Option Bool :=
  (s138 L a0 g1).bind fun r1 =>
  some (decide (r1 ≥ (0 : Int)))
theorem p127 (L : LP) (a0 : (List Int)) (f1 n1 : Nat) (c1 : Nat → C) (g1 : Int → Option Bool) (hg1 : ∀ (x0 : Int) (r : Bool), g1 x0 = some r → Pure X f1 ([.cell (.c (.int .u64 x0))] ++ capsC n1 c1) (.cell (.c (.bool r)))) (hc1 : ∀ (av : Array Value) (w : World), (callFunc f1 av).run X.P w = .ok (.enter f1 av) w) (r : Bool) (h : s127 L a0 g1 = some r) : Pure X 127 [.cell (.c (slC e44 a0)), .cell (.c (.fn f1 n1 c1))] (.cell (.c (.bool r))) := by
  refine Pure_of_W (c := cd Tryd.f127 []) Tryd.func127 (by kernel_rfl) (N := 9) (by kernel_rfl) (Nat.le_of_ble_eq_true (by kernel_rfl)) ?_
  unfold s127 at h
  refine W_seq_at (by kernel_rfl) ?_
  refine W_region_at (by kernel_rfl) ?_
  refine WO_fin (σ' := []) (T' := [(0, .cell (.c (slC e44 a0))), (1, .cell (.c (.fn f1 n1 c1)))]) (Φ := (True)) 1 [0, 1] (by kernel_rfl) trivial (by kernel_rfl) ?_
  refine thenQ_n ?_
  refine W_seq_at (by kernel_rfl) ?_
  refine W_region_at (by kernel_rfl) ?_
  refine WO_exk (σ' := []) (T' := [(5, .cell (.c (slC e44 a0))), (6, .cell (.c (.fn f1 n1 c1)))]) (Φ := (True)) 2 [5, 6] (by kernel_rfl) trivial ?_
  obtain ⟨r1, gr1, h⟩ := bind_some h
  refine WO_call (f := 138) (all := [.cell (.c (slC e44 a0)), .cell (.c (.fn f1 n1 c1))]) (d := some 7) (r := .cell (.c (.int .i64 r1))) (by kernel_rfl) (by kernel_rfl) (by kernel_rfl) Tryd.call138 (p138 L _ f1 n1 c1 g1 hg1 hc1 _ gr1) ?_
  refine WO_fin (σ' := []) (T' := [(4, .cell (.c (.bool (decide (r1 ≥ (0 : Int))))))]) (Φ := (True)) 2 [4] (by kernel_rfl) trivial (by kernel_rfl) ?_
  refine thenQ_n ?_
  refine W_ret_at (by kernel_rfl) ?_
  obtain rfl := Option.some.inj h
  exact qret [.cell (.c (.bool (decide (r1 ≥ (0 : Int)))))] (by kernel_rfl) (by kernel_rfl) ([]) (by kernel_rfl)

/- system.elements$1 -/
def s128 (L : LP) (a0 : Int) (a1_0 : Int) : Option Bool :=
  some (decide (a0 ≥ a1_0))
theorem p128 (L : LP) (a0 : Int) (a1_0 : Int) (r : Bool) (h : s128 L a0 a1_0 = some r) : Pure X 128 [.cell (.c (.int .u64 a0)), .cell (.c (boxC [.int .u64 a1_0] 0))] (.cell (.c (.bool r))) := by
  refine Pure_of_W (c := cd Tryd.f128 []) Tryd.func128 (by kernel_rfl) (N := 7) (by kernel_rfl) (Nat.le_of_ble_eq_true (by kernel_rfl)) ?_
  unfold s128 at h
  refine W_seq_at (by kernel_rfl) ?_
  refine W_region_at (by kernel_rfl) ?_
  refine WO_fin (σ' := []) (T' := [(0, .cell (.c (.int .u64 a0))), (1, .cell (.c (boxC [.int .u64 a1_0] 0)))]) (Φ := (True)) 1 [0, 1] (by kernel_rfl) trivial (by kernel_rfl) ?_
  refine thenQ_n ?_
  refine W_seq_at (by kernel_rfl) ?_
  refine W_region_at (by kernel_rfl) ?_
  refine WO_fin (σ' := []) (T' := [(3, .cell (.c (.bool (decide (a0 ≥ a1_0)))))]) (Φ := (True)) 4 [3] (by kernel_rfl) trivial (by kernel_rfl) ?_
  refine thenQ_n ?_
  refine W_ret_at (by kernel_rfl) ?_
  obtain rfl := Option.some.inj h
  exact qret [.cell (.c (.bool (decide (a0 ≥ a1_0))))] (by kernel_rfl) (by kernel_rfl) ([]) (by kernel_rfl)

/- system.elements -/
def s97 (L : LP) (a0 : Int) (a1 : (List Int)) : Option Bool :=
  (s73 L a0).bind fun r1 =>
  (s127 L a1 (fun x0 => s128 L x0 r1)).bind fun r2 =>
  some (!r2)
theorem p97 (L : LP) (a0 : Int) (a1 : (List Int)) (r : Bool) (h : s97 L a0 a1 = some r) : Pure X 97 [.cell (.c (.int .i64 a0)), .cell (.c (slC e44 a1))] (.cell (.c (.bool r))) := by
  refine Pure_of_W (c := cd Tryd.f97 []) Tryd.func97 (by kernel_rfl) (N := 12) (by kernel_rfl) (Nat.le_of_ble_eq_true (by kernel_rfl)) ?_
  unfold s97 at h
  refine W_seq_at (by kernel_rfl) ?_
  refine W_region_at (by kernel_rfl) ?_
  refine WO_fin (σ' := []) (T' := [(0, .cell (.c (.int .i64 a0))), (1, .cell (.c (slC e44 a1)))]) (Φ := (True)) 1 [0, 1] (by kernel_rfl) trivial (by kernel_rfl) ?_
  refine thenQ_n ?_
  refine W_seq_at (by kernel_rfl) ?_
  refine W_region_at (by kernel_rfl) ?_
  refine WO_exk (σ' := []) (T' := [(1, .cell (.c (slC e44 a1))), (6, .cell (.c (.int .i64 a0)))]) (Φ := (True)) 1 [1, 6] (by kernel_rfl) trivial ?_
  obtain ⟨r1, gr1, h⟩ := bind_some h
  refine WO_call (f := 73) (all := [.cell (.c (.int .i64 a0))]) (d := some 7) (r := .cell (.c (.int .u64 r1))) (by kernel_rfl) (by kernel_rfl) (by kernel_rfl) Tryd.call73 (p73 L _ _ gr1) ?_
  refine WO_fin (σ' := [some (.lit 0 44 [.c (.int .u64 r1)])]) (T' := [(1, .cell (.c (slC e44 a1))), (5, .cell (.op 0 0 1 0 0))]) (Φ := (True)) 2 [1, 5] (by kernel_rfl) trivial (by kernel_rfl) ?_
  refine thenQ_n ?_
  refine W_seq_at (by kernel_rfl) ?_
  refine W_region_at (by kernel_rfl) ?_
  refine WO_exk (σ' := [some (.lit 0 44 [.c (.int .u64 r1)])]) (T' := [(5, .cell (.op 0 0 1 0 0)), (8, .cell (.c (slC e44 a1)))]) (Φ := (True)) 1 [5, 8] (by kernel_rfl) trivial ?_
  refine WO_ent (σ' := [none]) (T' := [(5, .cell (.c (boxC [.int .u64 r1] 0))), (8, .cell (.c (slC e44 a1)))]) (stps_ok [.freeze 0] (by kernel_rfl)) ?_
  refine WO_exk (σ' := [none]) (T' := [(8, .cell (.c (slC e44 a1))), (9, .cell (.c (fnC 128 [boxC [.int .u64 r1] 0])))]) (Φ := (True)) 1 [8, 9] (by kernel_rfl) trivial ?_
  obtain ⟨r2, gr2, h⟩ := bind_some h
  refine WO_call (f := 127) (all := [.cell (.c (slC e44 a1)), .cell (.c (fnC 128 [boxC [.int .u64 r1] 0]))]) (d := some 10) (r := .cell (.c (.bool r2))) (by kernel_rfl) (by kernel_rfl) (by kernel_rfl) Tryd.call127 (pure_args (by kernel_rfl) (p127 L _ 128 1 (fun i => [boxC [.int .u64 r1] 0].getD i .jk) (fun x0 => s128 L x0 r1) (fun x0 _ h => pure_args (by kernel_rfl) (p128 L _ _ _ h)) Tryd.call128 _ gr2)) ?_
  refine WO_fin (σ' := [none]) (T' := [(4, .cell (.c (.bool (!r2))))]) (Φ := (True)) 2 [4] (by kernel_rfl) trivial (by kernel_rfl) ?_
  refine thenQ_n ?_
  refine W_ret_at (by kernel_rfl) ?_
  obtain rfl := Option.some.inj h
  exact qret [.cell (.c (.bool (!r2)))] (by kernel_rfl) (by kernel_rfl) ([]) (by kernel_rfl)

/- system.columns$1 -/
def s107 (L : LP) (a0 : (List Int)) (a1_0 : Int) (a2_0 : Int) : Option Bool :=
  (bif (!(decide ((a0.length : Int) = a1_0))) then some true
  else (s97 L a2_0 a0).bind fun r2 =>
  some (!r2)).bind fun y1 =>
  some y1
theorem p107 (L : LP) (a0 : (List Int)) (a1_0 : Int) (a2_0 : Int) (r : Bool) (h : s107 L a0 a1_0 a2_0 = some r) : Pure X 107 [.cell (.c (slC e44 a0)), .cell (.c (boxC [.int .i64 a1_0] 0)), .cell (.c (boxC [.int .i64 a2_0] 0))] (.cell (.c (.bool r))) := by
  refine Pure_of_W (c := cd Tryd.f107 []) Tryd.func107 (by kernel_rfl) (N := 15) (by kernel_rfl) (Nat.le_of_ble_eq_true (by kernel_rfl)) ?_
  unfold s107 at h
  refine W_seq_at (by kernel_rfl) ?_
  refine W_region_at (by kernel_rfl) ?_
  refine WO_fin (σ' := []) (T' := [(0, .cell (.c (slC e44 a0))), (1, .cell (.c (boxC [.int .i64 a1_0] 0))), (2, .cell (.c (boxC [.int .i64 a2_0] 0)))]) (Φ := (True)) 1 [0, 1, 2] (by kernel_rfl) trivial (by kernel_rfl) ?_
  refine thenQ_n ?_
  refine W_seq_at (by kernel_rfl) ?_
  refine W_region_at (by kernel_rfl) ?_
  refine WO_exk (σ' := []) (T' := [(0, .cell (.c (slC e44 a0))), (2, .cell (.c (boxC [.int .i64 a2_0] 0))), (9, .cell (.c (.bool (!(decide ((a0.length : Int) = a1_0))))))]) (Φ := (True)) 5 [0, 2, 9] (by kernel_rfl) trivial ?_
  obtain ⟨y1, gy1, h⟩ := bind_some h
  refine WO_join 10 [] [(14, .cell (.c (.bool y1)))] ?_ ?_
  · clear gy1
    refine WO_fin (σ' := []) (T' := [(4, .cell (.c (.bool y1)))]) (Φ := (True)) 1 [4] (by kernel_rfl) trivial (by kernel_rfl) ?_
    refine thenQ_n ?_
    refine W_ret_at (by kernel_rfl) ?_
    obtain rfl := Option.some.inj h
    exact qret [.cell (.c (.bool y1))] (by kernel_rfl) (by kernel_rfl) ([]) (by kernel_rfl)
  · intro J
    clear h
    rcases Bool.eq_false_or_eq_true (!(decide ((a0.length : Int) = a1_0))) with hb | hb
    · have h := cond_t hb gy1; clear gy1
      refine WO_ent (ent_bool (T' := [(9, .cell (.c (.bool true))), (0, .cell (.c (slC e44 a0))), (2, .cell (.c (boxC [.int .i64 a2_0] 0)))]) 9 hb (by kernel_rfl) (by kernel_rfl)) ?_
      obtain rfl := Option.some.inj h
      refine WO_exk (σ' := []) (T' := [(14, .cell (.c (.bool true)))]) (Φ := True) 5 [14] (by kernel_rfl) trivial J
    · have h := cond_f hb gy1; clear gy1
      refine WO_ent (ent_bool (T' := [(9, .cell (.c (.bool false))), (0, .cell (.c (slC e44 a0))), (2, .cell (.c (boxC [.int .i64 a2_0] 0)))]) 9 hb (by kernel_rfl) (by kernel_rfl)) ?_
      refine WO_exk (σ' := []) (T' := [(9, .cell (.c (.bool false))), (10, .cell (.c (.int .i64 a2_0))), (11, .cell (.c (slC e44 a0)))]) (Φ := (True)) 2 [9, 10, 11] (by kernel_rfl) trivial ?_
      obtain ⟨r2, gr2, h⟩ := bind_some h
      refine WO_call (f := 97) (all := [.cell (.c (.int .i64 a2_0)), .cell (.c (slC e44 a0))]) (d := some 12) (r := .cell (.c (.bool r2))) (by kernel_rfl) (by kernel_rfl) (by kernel_rfl) Tryd.call97 (p97 L _ _ _ gr2) ?_
      refine WO_exk (σ' := []) (T' := [(9, .cell (.c (.bool false))), (13, .cell (.c (.bool (!r2))))]) (Φ := (True)) 1 [9, 13] (by kernel_rfl) trivial ?_
      obtain rfl := Option.some.inj h
      refine WO_exk (σ' := []) (T' := [(14, .cell (.c (.bool (!r2))))]) (Φ := True) 1 [14] (by kernel_rfl) trivial J

/- system.columns -/
def s62 (L : LP) (a0 : Int) (a1 : Int) (a2 : (List (List Int))) : Option Bool :=
  (s106 L a2 (fun x0 => s107 L x0 a1 a0)).bind fun r1 =>
  some (!r1)
theorem p62 (L : LP) (a0 : Int) (a1 : Int) (a2 : (List (List Int))) (r : Bool) (h : s62 L a0 a1 a2 = some r) : Pure X 62 [.cell (.c (.int .i64 a0)), .cell (.c (.int .i64 a1)), .cell (.c (slC e28 a2))] (.cell (.c (.bool r))) := by
  refine Pure_of_W (c := cd Tryd.f62 []) Tryd.func62 (by kernel_rfl) (N := 11) (by kernel_rfl) (Nat.le_of_ble_eq_true (by kernel_rfl)) ?_
  unfold s62 at h
  refine W_seq_at (by kernel_rfl) ?_
  refine W_region_at (by kernel_rfl) ?_
  refine WO_fin (σ' := [some (.lit 0 3 [.c (.int .i64 a0)]), some (.lit 0 3 [.c (.int .i64 a1)])]) (T' := [(2, .cell (.c (slC e28 a2))), (3, .cell (.op 0 0 1 0 0)), (4, .cell (.op 1 0 1 0 0))]) (Φ := (True)) 3 [2, 3, 4] (by kernel_rfl) trivial (by kernel_rfl) ?_
  refine thenQ_n ?_
  refine W_seq_at (by kernel_rfl) ?_
  refine W_region_at (by kernel_rfl) ?_
  refine WO_exk (σ' := [some (.lit 0 3 [.c (.int .i64 a0)]), some (.lit 0 3 [.c (.int .i64 a1)])]) (T' := [(3, .cell (.op 0 0 1 0 0)), (4, .cell (.op 1 0 1 0 0)), (7, .cell (.c (slC e28 a2)))]) (Φ := (True)) 1 [3, 4, 7] (by kernel_rfl) trivial ?_
  refine WO_ent (σ' := [none, none]) (T' := [(3, .cell (.c (boxC [.int .i64 a0] 0))), (4, .cell (.c (boxC [.int .i64 a1] 0))), (7, .cell (.c (slC e28 a2)))]) (stps_ok [.freeze 1, .freeze 0] (by kernel_rfl)) ?_
  refine WO_exk (σ' := [none, none]) (T' := [(7, .cell (.c (slC e28 a2))), (8, .cell (.c (fnC 107 [boxC [.int .i64 a1] 0, boxC [.int .i64 a0] 0])))]) (Φ := (True)) 1 [7, 8] (by kernel_rfl) trivial ?_
  obtain ⟨r1, gr1, h⟩ := bind_some h
  refine WO_call (f := 106) (all := [.cell (.c (slC e28 a2)), .cell (.c (fnC 107 [boxC [.int .i64 a1] 0, boxC [.int .i64 a0] 0]))]) (d := some 9) (r := .cell (.c (.bool r1))) (by kernel_rfl) (by kernel_rfl) (by kernel_rfl) Tryd.call106 (pure_args (by kernel_rfl) (p106 L _ 107 2 (fun i => [boxC [.int .i64 a1] 0, boxC [.int .i64 a0] 0].getD i .jk) (fun x0 => s107 L x0 a1 a0) (fun x0 _ h => pure_args (by kernel_rfl) (p107 L _ _ _ _ h)) Tryd.call107 _ gr1)) ?_
  refine WO_fin (σ' := [none, none]) (T' := [(6, .cell (.c (.bool (!r1))))]) (Φ := (True)) 2 [6] (by kernel_rfl) trivial (by kernel_rfl) ?_
  refine thenQ_n ?_
  refine W_ret_at (by kernel_rfl) ?_
  obtain rfl := Option.some.inj h
  exact qret [.cell (.c (.bool (!r1)))] (by kernel_rfl) (by kernel_rfl) ([]) (by kernel_rfl)

/- mono.Degree -/
def s66_1 (L : LP) (a0 : (List (Int × (List (Int × Int))))) (y2 : (Int × Int)) (y7 : (Int × Int)) : Option ((Int × Int) ⊕ Int) :=
  (bif (decide (y7.2 < (((a0.getD y2.2.toNat e74.d).2).length : Int))) then
  ((ck (0 ≤ y7.2 ∧ y7.2 < (((a0.getD y2.2.toNat e74.d).2).length : Int))).bind fun _ =>
  ((bif (decide (((((a0.getD y2.2.toNat e74.d).2).getD y7.2.toNat e61.d).1) = (1 : Int))) then
  some (decide (((((a0.getD y2.2.toNat e74.d).2).getD y7.2.toNat e61.d).1) = (1 : Int)))
  else (bif (decide (((((a0.getD y2.2.toNat e74.d).2).getD y7.2.toNat e61.d).1) = (2 : Int))) then
  some (decide (((((a0.getD y2.2.toNat e74.d).2).getD y7.2.toNat e61.d).1) = (2 : Int)))
  else (bif (decide (((((a0.getD y2.2.toNat e74.d).2).getD y7.2.toNat e61.d).1) = (3 : Int))) then
  some (decide (((((a0.getD y2.2.toNat e74.d).2).getD y7.2.toNat e61.d).1) = (3 : Int)))
  else (bif (decide (((((a0.getD y2.2.toNat e74.d).2).getD y7.2.toNat e61.d).1) = (5 : Int))) then
  some (decide (((((a0.getD y2.2.toNat e74.d).2).getD y7.2.toNat e61.d).1) = (5 : Int)))
  else some (decide (((((a0.getD y2.2.toNat e74.d).2).getD y7.2.toNat e61.d).1) = (6 : Int)))))))).bind fun (y12 : Bool) =>
  (bif y12 then
  (ck (inR .i64 (y7.1 + (1 : Int)))).bind fun _ =>
  some (y7.1 + (1 : Int))
  else some y7.1)).bind fun (y9 : Int) =>
  (ck (inR .i64 (y7.2 + (1 : Int)))).bind fun _ =>
  some (.inl (y9, (y7.2 + (1 : Int))))
  else some (.inr y7.1))
def s66_0 (L : LP) (a0 : (List (Int × (List (Int × Int))))) (y2 : (Int × Int)) : Option ((Int × Int) ⊕ Int) :=
  (bif (decide (y2.2 < (a0.length : Int))) then
  (ck (0 ≤ y2.2 ∧ y2.2 < (a0.length : Int))).bind fun _ =>
  ((L.run (s66_1 L a0 y2) ((0 : Int), (0 : Int))).bind (fun (v : Int) => some v)).bind fun (y5 : Int) =>
  (ck (inR .i64 (y2.2 + (1 : Int)))).bind fun _ =>
  some (.inl ((if y5 > y2.1 then y5 else y2.1), (y2.2 + (1 : Int))))
  else some (.inr y2.1))
def s66 (L : LP) (a0 : (List (Int × (List (Int × Int))))) : Option Int :=
  ((L.run (s66_0 L a0) ((0 : Int), (0 : Int))).bind (fun (v : Int) => some v)).bind fun (y1 : Int) =>
  some y1
theorem p66 (L : LP) (a0 : (List (Int × (List (Int × Int))))) (r : Int) (h : s66 L a0 = some r) : Pure X 66 [.cell (.c (slC e74 a0))] (.cell (.c (.int .i64 r))) := by
  refine Pure_of_W (c := cd Tryd.f66 []) Tryd.func66 (by kernel_rfl) (N := 38) (by kernel_rfl) (Nat.le_of_ble_eq_true (by kernel_rfl)) ?_
  unfold s66 at h
  refine W_seq_at (by kernel_rfl) ?_
  refine W_region_at (by kernel_rfl) ?_
  refine WO_fin (σ' := []) (T' := [(0, .cell (.c (slC e74 a0)))]) (Φ := (True)) 1 [0] (by kernel_rfl) trivial (by kernel_rfl) ?_
  refine thenQ_n ?_
  refine W_seq_at (by kernel_rfl) ?_
  refine W_region_at (by kernel_rfl) ?_
  refine WO_fin (σ' := []) (T' := [(0, .cell (.c (slC e74 a0))), (3, .cell (.c (.int .i64 (0 : Int))))]) (Φ := (True)) 1 [0, 3] (by kernel_rfl) trivial (by kernel_rfl) ?_
  refine thenQ_n ?_
  obtain ⟨y1, gy1, ky1⟩ := bind_some h
  refine W_cut (by kernel_rfl) [] [(3, .cell (.c (.int .i64 y1)))] ?_ ?_
  · have h := ky1; clear gy1 ky1
    refine W_seq_at (by kernel_rfl) ?_
    refine W_region_at (by kernel_rfl) ?_
    refine WO_fin (σ' := []) (T' := [(2, .cell (.c (.int .i64 y1)))]) (Φ := (True)) 2 [2] (by kernel_rfl) trivial (by kernel_rfl) ?_
    refine thenQ_n ?_
    refine W_ret_at (by kernel_rfl) ?_
    obtain rfl := Option.some.inj h
    exact qret [.cell (.c (.int .i64 y1))] (by kernel_rfl) (by kernel_rfl) ([]) (by kernel_rfl)
  · have h := gy1; clear gy1 ky1
    refine W_seq_at (by kernel_rfl) ?_
    refine W_region_at (by kernel_rfl) ?_
    refine WO_fin (σ' := []) (T' := [(3, .cell (.c (.int .i64 (0 : Int)))), (9, .cell (.c (slC e74 a0))), (10, .cell (.c (.int .i64 (a0.length : Int)))), (11, .cell (.c (.int .i64 (0 : Int))))]) (Φ := (True)) 3 [3, 9, 10, 11] (by kernel_rfl) trivial (by kernel_rfl) ?_
    refine thenQ_n ?_
    refine W_block_at 0 (by kernel_rfl) (by kernel_rfl) ?_
    obtain ⟨b3, gb3, kb3⟩ := bind_some h
    refine W_loop_at (S := fun (y2 : (Int × Int)) => ([], [(3, .cell (.c (.int .i64 y2.1))), (9, .cell (.c (slC e74 a0))), (10, .cell (.c (.int .i64 (a0.length : Int)))), (11, .cell (.c (.int .i64 y2.2)))])) (step := _) (x0 := ((0 : Int), (0 : Int))) (b := b3) (L.ok _ _ _ gb3) (by kernel_rfl) (stps_ok [.keep [3, 9, 10, 11], .take 0] (by kernel_rfl)) ?_
    clear gb3 h; intro y2 o h; unfold s66_0 at h
    refine W_seq_at (by kernel_rfl) ?_
    refine W_region_at (by kernel_rfl) ?_
    refine WO_fin (σ' := []) (T' := [(3, .cell (.c (.int .i64 y2.1))), (9, .cell (.c (slC e74 a0))), (10, .cell (.c (.int .i64 (a0.length : Int)))), (11, .cell (.c (.int .i64 y2.2))), (12, .cell (.c (.bool (decide (y2.2 < (a0.length : Int))))))]) (Φ := (True)) 1 [3, 9, 10, 11, 12] (by kernel_rfl) trivial (by kernel_rfl) ?_
    refine thenQ_n ?_
    refine W_seq_at (by kernel_rfl) ?_
    refine W_cond_at (b := (decide (y2.2 < (a0.length : Int)))) (by kernel_rfl) (fun hb => ?_) (fun hb => ?_)
    · have h := cond_t hb h
      refine W_skip_at (by kernel_rfl) ?_
      refine thenQ_n ?_
      refine W_seq_at (by kernel_rfl) ?_
      refine W_block_at 1 (by kernel_rfl) (by kernel_rfl) ?_
      refine W_seq_at (by kernel_rfl) ?_
      refine W_region_at (by kernel_rfl) ?_
      obtain ⟨c4, h⟩ := ck_bind h
      refine WO_fin (σ' := [some (.lit 0 74 [.c (.int .u64 ((a0.getD y2.2.toNat e74.d).1)), .c (slC e61 ((a0.getD y2.2.toNat e74.d).2))])]) (T' := [(3, .cell (.c (.int .i64 y2.1))), (5, .cell (.op 0 0 2 0 0)), (9, .cell (.c (slC e74 a0))), (10, .cell (.c (.int .i64 (a0.length : Int)))), (11, .cell (.c (.int .i64 y2.2)))]) (Φ := (0 ≤ y2.2 ∧ y2.2 < (a0.length : Int)) ∧ (True)) 4 [3, 5, 9, 10, 11] (by kernel_rfl) ⟨c4, trivial⟩ (by kernel_rfl) ?_
      refine thenQ_n ?_
      refine W_seq_at (by kernel_rfl) ?_
      refine W_region_at (by kernel_rfl) ?_
      refine WO_fin (σ' := [some (.lit 0 74 [.c (.int .u64 ((a0.getD y2.2.toNat e74.d).1)), .c (slC e61 ((a0.getD y2.2.toNat e74.d).2))])]) (T' := [(3, .cell (.c (.int .i64 y2.1))), (5, .cell (.op 0 0 2 0 0)), (6, .cell (.c (.int .i64 (0 : Int)))), (9, .cell (.c (slC e74 a0))), (10, .cell (.c (.int .i64 (a0.length : Int)))), (11, .cell (.c (.int .i64 y2.2)))]) (Φ := (True)) 1 [3, 5, 6, 9, 10, 11] (by kernel_rfl) trivial (by kernel_rfl) ?_
      refine thenQ_n ?_
      obtain ⟨y5, gy5, ky5⟩ := bind_some h
      refine W_cut (by kernel_rfl) [some (.lit 0 74 [.c (.int .u64 ((a0.getD y2.2.toNat e74.d).1)), .c (slC e61 ((a0.getD y2.2.toNat e74.d).2))])] [(3, .cell (.c (.int .i64 y2.1))), (6, .cell (.c (.int .i64 y5))), (9, .cell (.c (slC e74 a0))), (10, .cell (.c (.int .i64 (a0.length : Int)))), (11, .cell (.c (.int .i64 y2.2)))] ?_ ?_
      · have h := ky5; clear gy5 ky5
        refine W_region_at (by kernel_rfl) ?_
        refine WO_fin (σ' := [some (.lit 0 74 [.c (.int .u64 ((a0.getD y2.2.toNat e74.d).1)), .c (slC e61 ((a0.getD y2.2.toNat e74.d).2))])]) (T' := [(3, .cell (.c (.int .i64 (if y5 > y2.1 then y5 else y2.1)))), (9, .cell (.c (slC e74 a0))), (10, .cell (.c (.int .i64 (a0.length : Int)))), (11, .cell (.c (.int .i64 y2.2)))]) (Φ := (True)) 4 [3, 9, 10, 11] (by kernel_rfl) trivial (by kernel_rfl) ?_
        refine blockQ_n ?_
        refine thenQ_n ?_
        refine W_region_at (by kernel_rfl) ?_
        obtain ⟨c6, h⟩ := ck_bind h
        refine WO_fin (σ' := [some (.lit 0 74 [.c (.int .u64 ((a0.getD y2.2.toNat e74.d).1)), .c (slC e61 ((a0.getD y2.2.toNat e74.d).2))])]) (T' := [(3, .cell (.c (.int .i64 (if y5 > y2.1 then y5 else y2.1)))), (9, .cell (.c (slC e74 a0))), (10, .cell (.c (.int .i64 (a0.length : Int)))), (11, .cell (.c (.int .i64 (y2.2 + (1 : Int)))))]) (Φ := (inR .i64 (y2.2 + (1 : Int))) ∧ (True)) 2 [3, 9, 10, 11] (by kernel_rfl) ⟨c6, trivial⟩ (by kernel_rfl) ?_
        obtain rfl := Option.some.inj h
        exact round_n _ rfl (stps_ok [.keep [3, 9, 10, 11], .take 0] (by kernel_rfl))
      · have h := gy5; clear gy5 ky5
        refine W_seq_at (by kernel_rfl) ?_
        refine W_region_at (by kernel_rfl) ?_
        refine WO_fin (σ' := [some (.lit 0 74 [.c (.int .u64 ((a0.getD y2.2.toNat e74.d).1)), .c (slC e61 ((a0.getD y2.2.toNat e74.d).2))])]) (T' := [(3, .cell (.c (.int .i64 y2.1))), (6, .cell (.c (.int .i64 (0 : Int)))), (9, .cell (.c (slC e74 a0))), (10, .cell (.c (.int .i64 (a0.length : Int)))), (11, .cell (.c (.int .i64 y2.2))), (16, .cell (.c (slC e61 ((a0.getD y2.2.toNat e74.d).2)))), (17, .cell (.c (.int .i64 (((a0.getD y2.2.toNat e74.d).2).length : Int)))), (18, .cell (.c (.int .i64 (0 : Int))))]) (Φ := (True)) 4 [3, 6, 9, 10, 11, 16, 17, 18] (by kernel_rfl) trivial (by kernel_rfl) ?_
        refine thenQ_n ?_
        refine W_block_at 2 (by kernel_rfl) (by kernel_rfl) ?_
        obtain ⟨b8, gb8, kb8⟩ := bind_some h
        refine W_loop_at (S := fun (y7 : (Int × Int)) => ([some (.lit 0 74 [.c (.int .u64 ((a0.getD y2.2.toNat e74.d).1)), .c (slC e61 ((a0.getD y2.2.toNat e74.d).2))])], [(3, .cell (.c (.int .i64 y2.1))), (6, .cell (.c (.int .i64 y7.1))), (9, .cell (.c (slC e74 a0))), (10, .cell (.c (.int .i64 (a0.length : Int)))), (11, .cell (.c (.int .i64 y2.2))), (16, .cell (.c (slC e61 ((a0.getD y2.2.toNat e74.d).2)))), (17, .cell (.c (.int .i64 (((a0.getD y2.2.toNat e74.d).2).length : Int)))), (18, .cell (.c (.int .i64 y7.2)))])) (step := _) (x0 := ((0 : Int), (0 : Int))) (b := b8) (L.ok _ _ _ gb8) (by kernel_rfl) (stps_ok [.keep [3, 6, 9, 10, 11, 16, 17, 18], .take 1] (by kernel_rfl)) ?_
        clear gb8 h; intro y7 o h; unfold s66_1 at h
        refine W_seq_at (by kernel_rfl) ?_
        refine W_region_at (by kernel_rfl) ?_
        refine WO_fin (σ' := [some (.lit 0 74 [.c (.int .u64 ((a0.getD y2.2.toNat e74.d).1)), .c (slC e61 ((a0.getD y2.2.toNat e74.d).2))])]) (T' := [(3, .cell (.c (.int .i64 y2.1))), (6, .cell (.c (.int .i64 y7.1))), (9, .cell (.c (slC e74 a0))), (10, .cell (.c (.int .i64 (a0.length : Int)))), (11, .cell (.c (.int .i64 y2.2))), (16, .cell (.c (slC e61 ((a0.getD y2.2.toNat e74.d).2)))), (17, .cell (.c (.int .i64 (((a0.getD y2.2.toNat e74.d).2).length : Int)))), (18, .cell (.c (.int .i64 y7.2))), (19, .cell (.c (.bool (decide (y7.2 < (((a0.getD y2.2.toNat e74.d).2).length : Int))))))]) (Φ := (True)) 1 [3, 6, 9, 10, 11, 16, 17, 18, 19] (by kernel_rfl) trivial (by kernel_rfl) ?_
        refine thenQ_n ?_
        refine W_seq_at (by kernel_rfl) ?_
        refine W_cond_at (b := (decide (y7.2 < (((a0.getD y2.2.toNat e74.d).2).length : Int)))) (by kernel_rfl) (fun hb => ?_) (fun hb => ?_)
        · have h := cond_t hb h
          refine W_skip_at (by kernel_rfl) ?_
          refine thenQ_n ?_
          obtain ⟨y9, gy9, ky9⟩ := bind_some h
          refine W_cut (by kernel_rfl) [some (.lit 0 74 [.c (.int .u64 ((a0.getD y2.2.toNat e74.d).1)), .c (slC e61 ((a0.getD y2.2.toNat e74.d).2))])] [(3, .cell (.c (.int .i64 y2.1))), (6, .cell (.c (.int .i64 y9))), (9, .cell (.c (slC e74 a0))), (10, .cell (.c (.int .i64 (a0.length : Int)))), (11, .cell (.c (.int .i64 y2.2))), (16, .cell (.c (slC e61 ((a0.getD y2.2.toNat e74.d).2)))), (17, .cell (.c (.int .i64 (((a0.getD y2.2.toNat e74.d).2).length : Int)))), (18, .cell (.c (.int .i64 y7.2)))] ?_ ?_
          · have h := ky9; clear gy9 ky9
            refine W_region_at (by kernel_rfl) ?_
            obtain ⟨c10, h⟩ := ck_bind h
            refine WO_fin (σ' := [some (.lit 0 74 [.c (.int .u64 ((a0.getD y2.2.toNat e74.d).1)), .c (slC e61 ((a0.getD y2.2.toNat e74.d).2))])]) (T' := [(3, .cell (.c (.int .i64 y2.1))), (6, .cell (.c (.int .i64 y9))), (9, .cell (.c (slC e74 a0))), (10, .cell (.c (.int .i64 (a0.length : Int)))), (11, .cell (.c (.int .i64 y2.2))), (16, .cell (.c (slC e61 ((a0.getD y2.2.toNat e74.d).2)))), (17, .cell (.c (.int .i64 (((a0.getD y2.2.toNat e74.d).2).length : Int)))), (18, .cell (.c (.int .i64 (y7.2 + (1 : Int)))))]) (Φ := (inR .i64 (y7.2 + (1 : Int))) ∧ (True)) 2 [3, 6, 9, 10, 11, 16, 17, 18] (by kernel_rfl) ⟨c10, trivial⟩ (by kernel_rfl) ?_
            obtain rfl := Option.some.inj h
            exact round_n _ rfl (stps_ok [.keep [3, 6, 9, 10, 11, 16, 17, 18], .take 1] (by kernel_rfl))
          · have h := gy9; clear gy9 ky9
            refine W_block_at 3 (by kernel_rfl) (by kernel_rfl) ?_
            refine W_seq_at (by kernel_rfl) ?_
            refine W_region_at (by kernel_rfl) ?_
            obtain ⟨c11, h⟩ := ck_bind h
            refine WO_fin (σ' := [some (.lit 0 74 [.c (.int .u64 ((a0.getD y2.2.toNat e74.d).1)), .c (slC e61 ((a0.getD y2.2.toNat e74.d).2))]), some (.lit 0 61 [.c (.int .u8 ((((a0.getD y2.2.toNat e74.d).2).getD y7.2.toNat e61.d).1)), .c (.int .i64 ((((a0.getD y2.2.toNat e74.d).2).getD y7.2.toNat e61.d).2))])]) (T' := [(3, .cell (.c (.int .i64 y2.1))), (6, .cell (.c (.int .i64 y7.1))), (8, .cell (.op 1 0 2 0 0)), (9, .cell (.c (slC e74 a0))), (10, .cell (.c (.int .i64 (a0.length : Int)))), (11, .cell (.c (.int .i64 y2.2))), (16, .cell (.c (slC e61 ((a0.getD y2.2.toNat e74.d).2)))), (17, .cell (.c (.int .i64 (((a0.getD y2.2.toNat e74.d).2).length : Int)))), (18, .cell (.c (.int .i64 y7.2)))]) (Φ := (0 ≤ y7.2 ∧ y7.2 < (((a0.getD y2.2.toNat e74.d).2).length : Int)) ∧ (True)) 4 [3, 6, 8, 9, 10, 11, 16, 17, 18] (by kernel_rfl) ⟨c11, trivial⟩ (by kernel_rfl) ?_
            refine thenQ_n ?_
            refine W_seq_at (by kernel_rfl) ?_
            refine W_region_at (by kernel_rfl) ?_
            refine WO_fin (σ' := [some (.lit 0 74 [.c (.int .u64 ((a0.getD y2.2.toNat e74.d).1)), .c (slC e61 ((a0.getD y2.2.toNat e74.d).2))]), some (.lit 0 61 [.c (.int .u8 ((((a0.getD y2.2.toNat e74.d).2).getD y7.2.toNat e61.d).1)), .c (.int .i64 ((((a0.getD y2.2.toNat e74.d).2).getD y7.2.toNat e61.d).2))])]) (T' := [(3, .cell (.c (.int .i64 y2.1))), (6, .cell (.c (.int .i64 y7.1))), (9, .cell (.c (slC e74 a0))), (10, .cell (.c (.int .i64 (a0.length : Int)))), (11, .cell (.c (.int .i64 y2.2))), (16, .cell (.c (slC e61 ((a0.getD y2.2.toNat e74.d).2)))), (17, .cell (.c (.int .i64 (((a0.getD y2.2.toNat e74.d).2).length : Int)))), (18, .cell (.c (.int .i64 y7.2))), (23, .cell (.c (.int .u8 ((((a0.getD y2.2.toNat e74.d).2).getD y7.2.toNat e61.d).1))))]) (Φ := (True)) 2 [3, 6, 9, 10, 11, 16, 17, 18, 23] (by kernel_rfl) trivial (by kernel_rfl) ?_
            refine thenQ_n ?_
            refine W_block_at 4 (by kernel_rfl) (by kernel_rfl) ?_
            obtain ⟨y12, gy12, ky12⟩ := bind_some h
            refine W_cut (by kernel_rfl) [some (.lit 0 74 [.c (.int .u64 ((a0.getD y2.2.toNat e74.d).1)), .c (slC e61 ((a0.getD y2.2.toNat e74.d).2))]), some (.lit 0 61 [.c (.int .u8 ((((a0.getD y2.2.toNat e74.d).2).getD y7.2.toNat e61.d).1)), .c (.int .i64 ((((a0.getD y2.2.toNat e74.d).2).getD y7.2.toNat e61.d).2))])] [(3, .cell (.c (.int .i64 y2.1))), (6, .cell (.c (.int .i64 y7.1))), (9, .cell (.c (slC e74 a0))), (10, .cell (.c (.int .i64 (a0.length : Int)))), (11, .cell (.c (.int .i64 y2.2))), (16, .cell (.c (slC e61 ((a0.getD y2.2.toNat e74.d).2)))), (17, .cell (.c (.int .i64 (((a0.getD y2.2.toNat e74.d).2).length : Int)))), (18, .cell (.c (.int .i64 y7.2))), (24, .cell (.c (.bool y12)))] ?_ ?_
            · have h := ky12; clear gy12 ky12
              refine W_cond_at (b := y12) (by kernel_rfl) (fun hb => ?_) (fun hb => ?_)
              · have h := cond_t hb h
                refine W_region_at (by kernel_rfl) ?_
                obtain ⟨c13, h⟩ := ck_bind h
                refine WO_fin (σ' := [some (.lit 0 74 [.c (.int .u64 ((a0.getD y2.2.toNat e74.d).1)), .c (slC e61 ((a0.getD y2.2.toNat e74.d).2))]), some (.lit 0 61 [.c (.int .u8 ((((a0.getD y2.2.toNat e74.d).2).getD y7.2.toNat e61.d).1)), .c (.int .i64 ((((a0.getD y2.2.toNat e74.d).2).getD y7.2.toNat e61.d).2))])]) (T' := [(3, .cell (.c (.int .i64 y2.1))), (6, .cell (.c (.int .i64 (y7.1 + (1 : Int))))), (9, .cell (.c (slC e74 a0))), (10, .cell (.c (.int .i64 (a0.length : Int)))), (11, .cell (.c (.int .i64 y2.2))), (16, .cell (.c (slC e61 ((a0.getD y2.2.toNat e74.d).2)))), (17, .cell (.c (.int .i64 (((a0.getD y2.2.toNat e74.d).2).length : Int)))), (18, .cell (.c (.int .i64 y7.2)))]) (Φ := (inR .i64 (y7.1 + (1 : Int))) ∧ (True)) 3 [3, 6, 9, 10, 11, 16, 17, 18] (by kernel_rfl) ⟨c13, trivial⟩ (by kernel_rfl) ?_
                refine blockQ_n ?_
                refine blockQ_n ?_
                obtain rfl := Option.some.inj h
                exact thenQ_n (stps_ok [.keep [3, 6, 9, 10, 11, 16, 17, 18], .take 1] (by kernel_rfl))
              · have h := cond_f hb h
                refine W_skip_at (by kernel_rfl) ?_
                refine blockQ_n ?_
                refine blockQ_n ?_
                obtain rfl := Option.some.inj h
                exact thenQ_n (stps_ok [.keep [3, 6, 9, 10, 11, 16, 17, 18], .take 1] (by kernel_rfl))
            · have h := gy12; clear gy12 ky12
              refine W_seq_at (by kernel_rfl) ?_
              refine W_region_at (by kernel_rfl) ?_
              refine WO_fin (σ' := [some (.lit 0 74 [.c (.int .u64 ((a0.getD y2.2.toNat e74.d).1)), .c (slC e61 ((a0.getD y2.2.toNat e74.d).2))]), some (.lit 0 61 [.c (.int .u8 ((((a0.getD y2.2.toNat e74.d).2).getD y7.2.toNat e61.d).1)), .c (.int .i64 ((((a0.getD y2.2.toNat e74.d).2).getD y7.2.toNat e61.d).2))])]) (T' := [(3, .cell (.c (.int .i64 y2.1))), (6, .cell (.c (.int .i64 y7.1))), (9, .cell (.c (slC e74 a0))), (10, .cell (.c (.int .i64 (a0.length : Int)))), (11, .cell (.c (.int .i64 y2.2))), (16, .cell (.c (slC e61 ((a0.getD y2.2.toNat e74.d).2)))), (17, .cell (.c (.int .i64 (((a0.getD y2.2.toNat e74.d).2).length : Int)))), (18, .cell (.c (.int .i64 y7.2))), (23, .cell (.c (.int .u8 ((((a0.getD y2.2.toNat e74.d).2).getD y7.2.toNat e61.d).1)))), (24, .cell (.c (.bool (decide (((((a0.getD y2.2.toNat e74.d).2).getD y7.2.toNat e61.d).1) = (1 : Int))))))]) (Φ := (True)) 2 [3, 6, 9, 10, 11, 16, 17, 18, 23, 24] (by kernel_rfl) trivial (by kernel_rfl) ?_
              refine thenQ_n ?_
              refine W_cond_at (b := (decide (((((a0.getD y2.2.toNat e74.d).2).getD y7.2.toNat e61.d).1) = (1 : Int)))) (by kernel_rfl) (fun hb => ?_) (fun hb => ?_)
              · have h := cond_t hb h
                refine W_skip_at (by kernel_rfl) ?_
                obtain rfl := Option.some.inj h
                exact thenQ_n (stps_ok [.keep [3, 6, 9, 10, 11, 16, 17, 18, 24], .take 2] (by kernel_rfl))
              · have h := cond_f hb h
                refine W_seq_at (by kernel_rfl) ?_
                refine W_region_at (by kernel_rfl) ?_
                refine WO_fin (σ' := [some (.lit 0 74 [.c (.int .u64 ((a0.getD y2.2.toNat e74.d).1)), .c (slC e61 ((a0.getD y2.2.toNat e74.d).2))]), some (.lit 0 61 [.c (.int .u8 ((((a0.getD y2.2.toNat e74.d).2).getD y7.2.toNat e61.d).1)), .c (.int .i64 ((((a0.getD y2.2.toNat e74.d).2).getD y7.2.toNat e61.d).2))])]) (T' := [(3, .cell (.c (.int .i64 y2.1))), (6, .cell (.c (.int .i64 y7.1))), (9, .cell (.c (slC e74 a0))), (10, .cell (.c (.int .i64 (a0.length : Int)))), (11, .cell (.c (.int .i64 y2.2))), (16, .cell (.c (slC e61 ((a0.getD y2.2.toNat e74.d).2)))), (17, .cell (.c (.int .i64 (((a0.getD y2.2.toNat e74.d).2).length : Int)))), (18, .cell (.c (.int .i64 y7.2))), (23, .cell (.c (.int .u8 ((((a0.getD y2.2.toNat e74.d).2).getD y7.2.toNat e61.d).1)))), (24, .cell (.c (.bool (decide (((((a0.getD y2.2.toNat e74.d).2).getD y7.2.toNat e61.d).1) = (2 : Int))))))]) (Φ := (True)) 2 [3, 6, 9, 10, 11, 16, 17, 18, 23, 24] (by kernel_rfl) trivial (by kernel_rfl) ?_
                refine thenQ_n ?_
                refine W_cond_at (b := (decide (((((a0.getD y2.2.toNat e74.d).2).getD y7.2.toNat e61.d).1) = (2 : Int)))) (by kernel_rfl) (fun hb => ?_) (fun hb => ?_)
                · have h := cond_t hb h
                  refine W_skip_at (by kernel_rfl) ?_
                  obtain rfl := Option.some.inj h
                  exact thenQ_n (stps_ok [.keep [3, 6, 9, 10, 11, 16, 17, 18, 24], .take 2] (by kernel_rfl))
                · have h := cond_f hb h
                  refine W_seq_at (by kernel_rfl) ?_
                  refine W_region_at (by kernel_rfl) ?_
                  refine WO_fin (σ' := [some (.lit 0 74 [.c (.int .u64 ((a0.getD y2.2.toNat e74.d).1)), .c (slC e61 ((a0.getD y2.2.toNat e74.d).2))]), some (.lit 0 61 [.c (.int .u8 ((((a0.getD y2.2.toNat e74.d).2).getD y7.2.toNat e61.d).1)), .c (.int .i64 ((((a0.getD y2.2.toNat e74.d).2).getD y7.2.toNat e61.d).2))])]) (T' := [(3, .cell (.c (.int .i64 y2.1))), (6, .cell (.c (.int .i64 y7.1))), (9, .cell (.c (slC e74 a0))), (10, .cell (.c (.int .i64 (a0.length : Int)))), (11, .cell (.c (.int .i64 y2.2))), (16, .cell (.c (slC e61 ((a0.getD y2.2.toNat e74.d).2)))), (17, .cell (.c (.int .i64 (((a0.getD y2.2.toNat e74.d).2).length : Int)))), (18, .cell (.c (.int .i64 y7.2))), (23, .cell (.c (.int .u8 ((((a0.getD y2.2.toNat e74.d).2).getD y7.2.toNat e61.d).1)))), (24, .cell (.c (.bool (decide (((((a0.getD y2.2.toNat e74.d).2).getD y7.2.toNat e61.d).1) = (3 : Int))))))]) (Φ := (True)) 2 [3, 6, 9, 10, 11, 16, 17, 18, 23, 24] (by kernel_rfl) trivial (by kernel_rfl) ?_
                  refine thenQ_n ?_
                  refine W_cond_at (b := (decide (((((a0.getD y2.2.toNat e74.d).2).getD y7.2.toNat e61.d).1) = (3 : Int)))) (by kernel_rfl) (fun hb => ?_) (fun hb => ?_)
                  · have h := cond_t hb h
                    refine W_skip_at (by kernel_rfl) ?_
                    obtain rfl := Option.some.inj h
                    exact thenQ_n (stps_ok [.keep [3, 6, 9, 10, 11, 16, 17, 18, 24], .take 2] (by kernel_rfl))
                  · have h := cond_f hb h
                    refine W_seq_at (by kernel_rfl) ?_
                    refine W_region_at (by kernel_rfl) ?_
                    refine WO_fin (σ' := [some (.lit 0 74 [.c (.int .u64 ((a0.getD y2.2.toNat e74.d).1)), .c (slC e61 ((a0.getD y2.2.toNat e74.d).2))]), some (.lit 0 61 [.c (.int .u8 ((((a0.getD y2.2.toNat e74.d).2).getD y7.2.toNat e61.d).1)), .c (.int .i64 ((((a0.getD y2.2.toNat e74.d).2).getD y7.2.toNat e61.d).2))])]) (T' := [(3, .cell (.c (.int .i64 y2.1))), (6, .cell (.c (.int .i64 y7.1))), (9, .cell (.c (slC e74 a0))), (10, .cell (.c (.int .i64 (a0.length : Int)))), (11, .cell (.c (.int .i64 y2.2))), (16, .cell (.c (slC e61 ((a0.getD y2.2.toNat e74.d).2)))), (17, .cell (.c (.int .i64 (((a0.getD y2.2.toNat e74.d).2).length : Int)))), (18, .cell (.c (.int .i64 y7.2))), (23, .cell (.c (.int .u8 ((((a0.getD y2.2.toNat e74.d).2).getD y7.2.toNat e61.d).1)))), (24, .cell (.c (.bool (decide (((((a0.getD y2.2.toNat e74.d).2).getD y7.2.toNat e61.d).1) = (5 : Int))))))]) (Φ := (True)) 2 [3, 6, 9, 10, 11, 16, 17, 18, 23, 24] (by kernel_rfl) trivial (by kernel_rfl) ?_
                    refine thenQ_n ?_
                    refine W_cond_at (b := (decide (((((a0.getD y2.2.toNat e74.d).2).getD y7.2.toNat e61.d).1) = (5 : Int)))) (by kernel_rfl) (fun hb => ?_) (fun hb => ?_)
                    · have h := cond_t hb h
                      refine W_skip_at (by kernel_rfl) ?_
                      obtain rfl := Option.some.inj h
                      exact thenQ_n (stps_ok [.keep [3, 6, 9, 10, 11, 16, 17, 18, 24], .take 2] (by kernel_rfl))
                    · have h := cond_f hb h
                      refine W_region_at (by kernel_rfl) ?_
                      refine WO_fin (σ' := [some (.lit 0 74 [.c (.int .u64 ((a0.getD y2.2.toNat e74.d).1)), .c (slC e61 ((a0.getD y2.2.toNat e74.d).2))]), some (.lit 0 61 [.c (.int .u8 ((((a0.getD y2.2.toNat e74.d).2).getD y7.2.toNat e61.d).1)), .c (.int .i64 ((((a0.getD y2.2.toNat e74.d).2).getD y7.2.toNat e61.d).2))])]) (T' := [(3, .cell (.c (.int .i64 y2.1))), (6, .cell (.c (.int .i64 y7.1))), (9, .cell (.c (slC e74 a0))), (10, .cell (.c (.int .i64 (a0.length : Int)))), (11, .cell (.c (.int .i64 y2.2))), (16, .cell (.c (slC e61 ((a0.getD y2.2.toNat e74.d).2)))), (17, .cell (.c (.int .i64 (((a0.getD y2.2.toNat e74.d).2).length : Int)))), (18, .cell (.c (.int .i64 y7.2))), (24, .cell (.c (.bool (decide (((((a0.getD y2.2.toNat e74.d).2).getD y7.2.toNat e61.d).1) = (6 : Int))))))]) (Φ := (True)) 2 [3, 6, 9, 10, 11, 16, 17, 18, 24] (by kernel_rfl) trivial (by kernel_rfl) ?_
                      obtain rfl := Option.some.inj h
                      exact thenQ_n (stps_ok [.keep [3, 6, 9, 10, 11, 16, 17, 18, 24], .take 2] (by kernel_rfl))
        · have h := cond_f hb h
          refine W_exit_at 2 (by kernel_rfl) (by kernel_rfl) ?_
          refine thenQ_e ?_
          obtain rfl := Option.some.inj h; refine round_e rfl (fun hb => ?_); subst hb; have h := kb8
          refine blockQ_hit ?_
          obtain rfl := Option.some.inj h
          exact thenQ_n (stps_ok [.keep [3, 6, 9, 10, 11], .take 1] (by kernel_rfl))
    · have h := cond_f hb h
      refine W_exit_at 0 (by kernel_rfl) (by kernel_rfl) ?_
      refine thenQ_e ?_
      obtain rfl := Option.some.inj h; refine round_e rfl (fun hb => ?_); subst hb; have h := kb3
      refine blockQ_hit ?_
      obtain rfl := Option.some.inj h
      exact thenQ_n (stps_ok [.keep [3], .take 0] (by kernel_rfl))

/- system.knows -/
def s109 (L : LP) (a0_0 : Int) (a0_1 : Int) (a0_2 : Int) (a0_3 : Int) (a0_4 : (List (List Int))) (a0_5 : (List (Int × (List (Int × (List (Int × Int))))))) (a0_6 : (List ((List (List (Int × Int))) × (List (List (Int × Int)))))) (a0_7 : (List ((List (Int × Int)) × (List (Int × Int)) × Int × Int))) (a1_0 : Int) (a1_1 : Int) : Option Bool :=
  (((bif (decide (a1_0 = (1 : Int))) then
  some (decide (a1_0 = (1 : Int)))
  else some (decide (a1_0 = (2 : Int))))).bind fun (y3 : Bool) =>
  (bif y3 then
  some a0_2
  else (bif (decide (a1_0 = (3 : Int))) then
  some (a0_4.length : Int)
  else (bif (decide (a1_0 = (4 : Int))) then
  some a0_3
  else some (0 : Int))))).bind fun (y1 : Int) =>
  (bif (decide (a1_1 ≥ (0 : Int))) then some (decide (a1_1 < y1))
  else some false).bind fun y2 =>
  some y2
theorem p109 (L : LP) (a0_0 : Int) (a0_1 : Int) (a0_2 : Int) (a0_3 : Int) (a0_4 : (List (List Int))) (a0_5 : (List (Int × (List (Int × (List (Int × Int))))))) (a0_6 : (List ((List (List (Int × Int))) × (List (List (Int × Int)))))) (a0_7 : (List ((List (Int × Int)) × (List (Int × Int)) × Int × Int))) (a1_0 : Int) (a1_1 : Int) (r : Bool) (h : s109 L a0_0 a0_1 a0_2 a0_3 a0_4 a0_5 a0_6 a0_7 a1_0 a1_1 = some r) : Pure X 109 [.agg [.c (.int .i64 a0_0), .c (.int .i64 a0_1), .c (.int .i64 a0_2), .c (.int .i64 a0_3), .c (slC e28 a0_4), .c (slC e72 a0_5), .c (slC e65 a0_6), .c (slC e77 a0_7)], .agg [.c (.int .u8 a1_0), .c (.int .i64 a1_1)]] (.cell (.c (.bool r))) := by
  refine Pure_of_W (c := cd Tryd.f109 []) Tryd.func109 (by kernel_rfl) (N := 31) (by kernel_rfl) (Nat.le_of_ble_eq_true (by kernel_rfl)) ?_
  unfold s109 at h
  refine W_seq_at (by kernel_rfl) ?_
  refine W_region_at (by kernel_rfl) ?_
  refine WO_fin (σ' := [some (.lit 0 27 [.c (.int .i64 a0_0), .c (.int .i64 a0_1), .c (.int .i64 a0_2), .c (.int .i64 a0_3), .c (slC e28 a0_4), .c (slC e72 a0_5), .c (slC e65 a0_6), .c (slC e77 a0_7)]), some (.lit 0 61 [.c (.int .u8 a1_0), .c (.int .i64 a1_1)])]) (T' := [(2, .cell (.op 0 0 8 0 0)), (3, .cell (.op 1 0 2 0 0))]) (Φ := (True)) 3 [2, 3] (by kernel_rfl) trivial (by kernel_rfl) ?_
  refine thenQ_n ?_
  refine W_seq_at (by kernel_rfl) ?_
  refine W_region_at (by kernel_rfl) ?_
  refine WO_fin (σ' := [some (.lit 0 27 [.c (.int .i64 a0_0), .c (.int .i64 a0_1), .c (.int .i64 a0_2), .c (.int .i64 a0_3), .c (slC e28 a0_4), .c (slC e72 a0_5), .c (slC e65 a0_6), .c (slC e77 a0_7)]), some (.lit 0 61 [.c (.int .u8 a1_0), .c (.int .i64 a1_1)])]) (T' := [(2, .cell (.op 0 0 8 0 0)), (3, .cell (.op 1 0 2 0 0)), (5, .cell (.c (.int .i64 (0 : Int))))]) (Φ := (True)) 1 [2, 3, 5] (by kernel_rfl) trivial (by kernel_rfl) ?_
  refine thenQ_n ?_
  obtain ⟨y1, gy1, ky1⟩ := bind_some h
  refine W_cut (by kernel_rfl) [some (.lit 0 27 [.c (.int .i64 a0_0), .c (.int .i64 a0_1), .c (.int .i64 a0_2), .c (.int .i64 a0_3), .c (slC e28 a0_4), .c (slC e72 a0_5), .c (slC e65 a0_6), .c (slC e77 a0_7)]), some (.lit 0 61 [.c (.int .u8 a1_0), .c (.int .i64 a1_1)])] [(3, .cell (.op 1 0 2 0 0)), (5, .cell (.c (.int .i64 y1)))] ?_ ?_
  · have h := ky1; clear gy1 ky1
    refine W_seq_at (by kernel_rfl) ?_
    refine W_region_at (by kernel_rfl) ?_
    refine WO_exk (σ' := [some (.lit 0 27 [.c (.int .i64 a0_0), .c (.int .i64 a0_1), .c (.int .i64 a0_2), .c (.int .i64 a0_3), .c (slC e28 a0_4), .c (slC e72 a0_5), .c (slC e65 a0_6), .c (slC e77 a0_7)]), some (.lit 0 61 [.c (.int .u8 a1_0), .c (.int .i64 a1_1)])]) (T' := [(3, .cell (.op 1 0 2 0 0)), (5, .cell (.c (.int .i64 y1))), (25, .cell (.c (.bool (decide (a1_1 ≥ (0 : Int))))))]) (Φ := (True)) 4 [3, 5, 25] (by kernel_rfl) trivial ?_
    obtain ⟨y2, gy2, h⟩ := bind_some h
    refine WO_join 9 [some (.lit 0 27 [.c (.int .i64 a0_0), .c (.int .i64 a0_1), .c (.int .i64 a0_2), .c (.int .i64 a0_3), .c (slC e28 a0_4), .c (slC e72 a0_5), .c (slC e65 a0_6), .c (slC e77 a0_7)]), some (.lit 0 61 [.c (.int .u8 a1_0), .c (.int .i64 a1_1)])] [(30, .cell (.c (.bool y2)))] ?_ ?_
    · clear gy2
      refine WO_fin (σ' := [some (.lit 0 27 [.c (.int .i64 a0_0), .c (.int .i64 a0_1), .c (.int .i64 a0_2), .c (.int .i64 a0_3), .c (slC e28 a0_4), .c (slC e72 a0_5), .c (slC e65 a0_6), .c (slC e77 a0_7)]), some (.lit 0 61 [.c (.int .u8 a1_0), .c (.int .i64 a1_1)])]) (T' := [(4, .cell (.c (.bool y2)))]) (Φ := (True)) 1 [4] (by kernel_rfl) trivial (by kernel_rfl) ?_
      refine thenQ_n ?_
      refine W_ret_at (by kernel_rfl) ?_
      obtain rfl := Option.some.inj h
      exact qret [.cell (.c (.bool y2))] (by kernel_rfl) (by kernel_rfl) ([]) (by kernel_rfl)
    · intro J
      clear h
      rcases Bool.eq_false_or_eq_true (decide (a1_1 ≥ (0 : Int))) with hb | hb
      · have h := cond_t hb gy2; clear gy2
        refine WO_ent (ent_bool (T' := [(25, .cell (.c (.bool true))), (3, .cell (.op 1 0 2 0 0)), (5, .cell (.c (.int .i64 y1)))]) 25 hb (by kernel_rfl) (by kernel_rfl)) ?_
        refine WO_exk (σ' := [some (.lit 0 27 [.c (.int .i64 a0_0), .c (.int .i64 a0_1), .c (.int .i64 a0_2), .c (.int .i64 a0_3), .c (slC e28 a0_4), .c (slC e72 a0_5), .c (slC e65 a0_6), .c (slC e77 a0_7)]), some (.lit 0 61 [.c (.int .u8 a1_0), .c (.int .i64 a1_1)])]) (T' := [(25, .cell (.c (.bool true))), (29, .cell (.c (.bool (decide (a1_1 < y1)))))]) (Φ := (True)) 4 [25, 29] (by kernel_rfl) trivial ?_
        obtain rfl := Option.some.inj h
        refine WO_exk (σ' := [some (.lit 0 27 [.c (.int .i64 a0_0), .c (.int .i64 a0_1), .c (.int .i64 a0_2), .c (.int .i64 a0_3), .c (slC e28 a0_4), .c (slC e72 a0_5), .c (slC e65 a0_6), .c (slC e77 a0_7)]), some (.lit 0 61 [.c (.int .u8 a1_0), .c (.int .i64 a1_1)])]) (T' := [(30, .cell (.c (.bool (decide (a1_1 < y1)))))]) (Φ := True) 1 [30] (by kernel_rfl) trivial J
      · have h := cond_f hb gy2; clear gy2
        refine WO_ent (ent_bool (T' := [(25, .cell (.c (.bool false))), (3, .cell (.op 1 0 2 0 0)), (5, .cell (.c (.int .i64 y1)))]) 25 hb (by kernel_rfl) (by kernel_rfl)) ?_
        obtain rfl := Option.some.inj h
        refine WO_exk (σ' := [some (.lit 0 27 [.c (.int .i64 a0_0), .c (.int .i64 a0_1), .c (.int .i64 a0_2), .c (.int .i64 a0_3), .c (slC e28 a0_4), .c (slC e72 a0_5), .c (slC e65 a0_6), .c (slC e77 a0_7)]), some (.lit 0 61 [.c (.int .u8 a1_0), .c (.int .i64 a1_1)])]) (T' := [(30, .cell (.c (.bool false)))]) (Φ := True) 5 [30] (by kernel_rfl) trivial J
  · have h := gy1; clear gy1 ky1
    refine W_seq_at (by kernel_rfl) ?_
    refine W_region_at (by kernel_rfl) ?_
    refine WO_fin (σ' := [some (.lit 0 27 [.c (.int .i64 a0_0), .c (.int .i64 a0_1), .c (.int .i64 a0_2), .c (.int .i64 a0_3), .c (slC e28 a0_4), .c (slC e72 a0_5), .c (slC e65 a0_6), .c (slC e77 a0_7)]), some (.lit 0 61 [.c (.int .u8 a1_0), .c (.int .i64 a1_1)])]) (T' := [(2, .cell (.op 0 0 8 0 0)), (3, .cell (.op 1 0 2 0 0)), (5, .cell (.c (.int .i64 (0 : Int)))), (7, .cell (.c (.int .u8 a1_0)))]) (Φ := (True)) 2 [2, 3, 5, 7] (by kernel_rfl) trivial (by kernel_rfl) ?_
    refine thenQ_n ?_
    refine W_block_at 0 (by kernel_rfl) (by kernel_rfl) ?_
    obtain ⟨y3, gy3, ky3⟩ := bind_some h
    refine W_cut (by kernel_rfl) [some (.lit 0 27 [.c (.int .i64 a0_0), .c (.int .i64 a0_1), .c (.int .i64 a0_2), .c (.int .i64 a0_3), .c (slC e28 a0_4), .c (slC e72 a0_5), .c (slC e65 a0_6), .c (slC e77 a0_7)]), some (.lit 0 61 [.c (.int .u8 a1_0), .c (.int .i64 a1_1)])] [(2, .cell (.op 0 0 8 0 0)), (3, .cell (.op 1 0 2 0 0)), (5, .cell (.c (.int .i64 (0 : Int)))), (7, .cell (.c (.int .u8 a1_0))), (8, .cell (.c (.bool y3)))] ?_ ?_
    · have h := ky3; clear gy3 ky3
      refine W_cond_at (b := y3) (by kernel_rfl) (fun hb => ?_) (fun hb => ?_)
      · have h := cond_t hb h
        refine W_region_at (by kernel_rfl) ?_
        refine WO_fin (σ' := [some (.lit 0 27 [.c (.int .i64 a0_0), .c (.int .i64 a0_1), .c (.int .i64 a0_2), .c (.int .i64 a0_3), .c (slC e28 a0_4), .c (slC e72 a0_5), .c (slC e65 a0_6), .c (slC e77 a0_7)]), some (.lit 0 61 [.c (.int .u8 a1_0), .c (.int .i64 a1_1)])]) (T' := [(3, .cell (.op 1 0 2 0 0)), (5, .cell (.c (.int .i64 a0_2)))]) (Φ := (True)) 3 [3, 5] (by kernel_rfl) trivial (by kernel_rfl) ?_
        refine blockQ_n ?_
        obtain rfl := Option.some.inj h
        exact thenQ_n (stps_ok [.keep [3, 5], .take 2] (by kernel_rfl))
      · have h := cond_f hb h
        refine W_seq_at (by kernel_rfl) ?_
        refine W_region_at (by kernel_rfl) ?_
        refine WO_fin (σ' := [some (.lit 0 27 [.c (.int .i64 a0_0), .c (.int .i64 a0_1), .c (.int .i64 a0_2), .c (.int .i64 a0_3), .c (slC e28 a0_4), .c (slC e72 a0_5), .c (slC e65 a0_6), .c (slC e77 a0_7)]), some (.lit 0 61 [.c (.int .u8 a1_0), .c (.int .i64 a1_1)])]) (T' := [(2, .cell (.op 0 0 8 0 0)), (3, .cell (.op 1 0 2 0 0)), (5, .cell (.c (.int .i64 (0 : Int)))), (7, .cell (.c (.int .u8 a1_0))), (13, .cell (.c (.bool (decide (a1_0 = (3 : Int))))))]) (Φ := (True)) 2 [2, 3, 5, 7, 13] (by kernel_rfl) trivial (by kernel_rfl) ?_
        refine thenQ_n ?_
        refine W_cond_at (b := (decide (a1_0 = (3 : Int)))) (by kernel_rfl) (fun hb => ?_) (fun hb => ?_)
        · have h := cond_t hb h
          refine W_region_at (by kernel_rfl) ?_
          refine WO_fin (σ' := [some (.lit 0 27 [.c (.int .i64 a0_0), .c (.int .i64 a0_1), .c (.int .i64 a0_2), .c (.int .i64 a0_3), .c (slC e28 a0_4), .c (slC e72 a0_5), .c (slC e65 a0_6), .c (slC e77 a0_7)]), some (.lit 0 61 [.c (.int .u8 a1_0), .c (.int .i64 a1_1)])]) (T' := [(3, .cell (.op 1 0 2 0 0)), (5, .cell (.c (.int .i64 (a0_4.length : Int))))]) (Φ := (True)) 4 [3, 5] (by kernel_rfl) trivial (by kernel_rfl) ?_
          refine blockQ_n ?_
          obtain rfl := Option.some.inj h
          exact thenQ_n (stps_ok [.keep [3, 5], .take 2] (by kernel_rfl))
        · have h := cond_f hb h
          refine W_seq_at (by kernel_rfl) ?_
          refine W_region_at (by kernel_rfl) ?_
          refine WO_fin (σ' := [some (.lit 0 27 [.c (.int .i64 a0_0), .c (.int .i64 a0_1), .c (.int .i64 a0_2), .c (.int .i64 a0_3), .c (slC e28 a0_4), .c (slC e72 a0_5), .c (slC e65 a0_6), .c (slC e77 a0_7)]), some (.lit 0 61 [.c (.int .u8 a1_0), .c (.int .i64 a1_1)])]) (T' := [(2, .cell (.op 0 0 8 0 0)), (3, .cell (.op 1 0 2 0 0)), (5, .cell (.c (.int .i64 (0 : Int)))), (18, .cell (.c (.bool (decide (a1_0 = (4 : Int))))))]) (Φ := (True)) 2 [2, 3, 5, 18] (by kernel_rfl) trivial (by kernel_rfl) ?_
          refine thenQ_n ?_
          refine W_cond_at (b := (decide (a1_0 = (4 : Int)))) (by kernel_rfl) (fun hb => ?_) (fun hb => ?_)
          · have h := cond_t hb h
            refine W_region_at (by kernel_rfl) ?_
            refine WO_fin (σ' := [some (.lit 0 27 [.c (.int .i64 a0_0), .c (.int .i64 a0_1), .c (.int .i64 a0_2), .c (.int .i64 a0_3), .c (slC e28 a0_4), .c (slC e72 a0_5), .c (slC e65 a0_6), .c (slC e77 a0_7)]), some (.lit 0 61 [.c (.int .u8 a1_0), .c (.int .i64 a1_1)])]) (T' := [(3, .cell (.op 1 0 2 0 0)), (5, .cell (.c (.int .i64 a0_3)))]) (Φ := (True)) 3 [3, 5] (by kernel_rfl) trivial (by kernel_rfl) ?_
            refine blockQ_n ?_
            obtain rfl := Option.some.inj h
            exact thenQ_n (stps_ok [.keep [3, 5], .take 2] (by kernel_rfl))
          · have h := cond_f hb h
            refine W_skip_at (by kernel_rfl) ?_
            refine blockQ_n ?_
            obtain rfl := Option.some.inj h
            exact thenQ_n (stps_ok [.keep [3, 5], .take 2] (by kernel_rfl))
    · have h := gy3; clear gy3 ky3
      refine W_seq_at (by kernel_rfl) ?_
      refine W_region_at (by kernel_rfl) ?_
      refine WO_fin (σ' := [some (.lit 0 27 [.c (.int .i64 a0_0), .c (.int .i64 a0_1), .c (.int .i64 a0_2), .c (.int .i64 a0_3), .c (slC e28 a0_4), .c (slC e72 a0_5), .c (slC e65 a0_6), .c (slC e77 a0_7)]), some (.lit 0 61 [.c (.int .u8 a1_0), .c (.int .i64 a1_1)])]) (T' := [(2, .cell (.op 0 0 8 0 0)), (3, .cell (.op 1 0 2 0 0)), (5, .cell (.c (.int .i64 (0 : Int)))), (7, .cell (.c (.int .u8 a1_0))), (8, .cell (.c (.bool (decide (a1_0 = (1 : Int))))))]) (Φ := (True)) 2 [2, 3, 5, 7, 8] (by kernel_rfl) trivial (by kernel_rfl) ?_
      refine thenQ_n ?_
      refine W_cond_at (b := (decide (a1_0 = (1 : Int)))) (by kernel_rfl) (fun hb => ?_) (fun hb => ?_)
      · have h := cond_t hb h
        refine W_skip_at (by kernel_rfl) ?_
        obtain rfl := Option.some.inj h
        exact thenQ_n (stps_ok [.keep [2, 3, 5, 7, 8], .take 2] (by kernel_rfl))
      · have h := cond_f hb h
        refine W_region_at (by kernel_rfl) ?_
        refine WO_fin (σ' := [some (.lit 0 27 [.c (.int .i64 a0_0), .c (.int .i64 a0_1), .c (.int .i64 a0_2), .c (.int .i64 a0_3), .c (slC e28 a0_4), .c (slC e72 a0_5), .c (slC e65 a0_6), .c (slC e77 a0_7)]), some (.lit 0 61 [.c (.int .u8 a1_0), .c (.int .i64 a1_1)])]) (T' := [(2, .cell (.op 0 0 8 0 0)), (3, .cell (.op 1 0 2 0 0)), (5, .cell (.c (.int .i64 (0 : Int)))), (7, .cell (.c (.int .u8 a1_0))), (8, .cell (.c (.bool (decide (a1_0 = (2 : Int))))))]) (Φ := (True)) 2 [2, 3, 5, 7, 8] (by kernel_rfl) trivial (by kernel_rfl) ?_
        obtain rfl := Option.some.inj h
        exact thenQ_n (stps_ok [.keep [2, 3, 5, 7, 8], .take 2] (by kernel_rfl))

/- slices.IndexFunc[[]api.Var,api.Var] -/
def s130_0 (L : LP) (a0 : (List (Int × Int))) (g1 : Int → Int → Option Bool) (y3 : Int) : Option (Int ⊕ (Int ⊕ Unit)) :=
  (bif (decide (y3 < (a0.length : Int))) then
  (ck (0 ≤ y3 ∧ y3 < (a0.length : Int))).bind fun _ =>
  (g1 ((a0.getD y3.toNat e61.d).1) ((a0.getD y3.toNat e61.d).2)).bind fun r6 =>
  (bif r6 then
  some (.inr (.inl y3))
  else (ck (inR .i64 (y3 + (1 : Int)))).bind fun _ =>
  some (.inl (y3 + (1 : Int))))
  else some (.inr (.inr ())))
def s130 (L : LP) (a0 : (List (Int × Int))) (g1 : Int → Int → Option Bool) : Option Int :=
  ((L.run (s130_0 L a0 g1) (0 : Int)).bind (fun (b : Int ⊕ Unit) => (match b with
  | .inl v => some (.inr v)
  | .inr v => some (.inl ())))).bind fun (y1 : Unit ⊕ Int) => (match y1 with
  | .inl v2 => some (-1 : Int)
  | .inr v2 => some v2)
theorem p130 (L : LP) (a0 : (List (Int × Int))) (f1 n1 : Nat) (c1 : Nat → C) (g1 : Int → Int → Option Bool) (hg1 : ∀ (x0 : Int) (x1 : Int) (r : Bool), g1 x0 x1 = some r → Pure X f1 ([.agg [.c (.int .u8 x0), .c (.int .i64 x1)]] ++ capsC n1 c1) (.cell (.c (.bool r)))) (hc1 : ∀ (av : Array Value) (w : World), (callFunc f1 av).run X.P w = .ok (.enter f1 av) w) (r : Int) (h : s130 L a0 g1 = some r) : Pure X 130 [.cell (.c (slC e61 a0)), .cell (.c (.fn f1 n1 c1))] (.cell (.c (.int .i64 r))) := by
  refine Pure_of_W (c := cd Tryd.f130 []) Tryd.func130 (by kernel_rfl) (N := 19) (by kernel_rfl) (Nat.le_of_ble_eq_true (by kernel_rfl)) ?_
  unfold s130 at h
  refine W_seq_at (by kernel_rfl) ?_
  refine W_region_at (by kernel_rfl) ?_
  refine WO_fin (σ' := []) (T' := [(0, .cell (.c (slC e61 a0))), (1, .cell (.c (.fn f1 n1 c1)))]) (Φ := (True)) 1 [0, 1] (by kernel_rfl) trivial (by kernel_rfl) ?_
  refine thenQ_n ?_
  obtain ⟨y1, gy1, ky1⟩ := bind_some h
  refine W_cutE (by kernel_rfl) (fun v2 => y1 = .inl v2) (fun v2 => ([], [])) ?_ ?_
  · intro v2 hv; subst hv; have h := ky1; clear gy1 ky1; dsimp only at h
    refine W_seq_at (by kernel_rfl) ?_
    refine W_region_at (by kernel_rfl) ?_
    refine WO_fin (σ' := []) (T' := [(4, .cell (.c (.int .i64 (-1 : Int))))]) (Φ := (True)) 1 [4] (by kernel_rfl) trivial (by kernel_rfl) ?_
    refine thenQ_n ?_
    refine W_ret_at (by kernel_rfl) ?_
    obtain rfl := Option.some.inj h
    exact qret [.cell (.c (.int .i64 (-1 : Int)))] (by kernel_rfl) (by kernel_rfl) ([]) (by kernel_rfl)
  · have h := gy1; clear gy1
    refine W_seq_at (by kernel_rfl) ?_
    refine W_region_at (by kernel_rfl) ?_
    refine WO_fin (σ' := []) (T' := [(0, .cell (.c (slC e61 a0))), (1, .cell (.c (.fn f1 n1 c1))), (7, .cell (.c (.int .i64 (a0.length : Int)))), (8, .cell (.c (.int .i64 (0 : Int))))]) (Φ := (True)) 3 [0, 1, 7, 8] (by kernel_rfl) trivial (by kernel_rfl) ?_
    refine thenQ_n ?_
    refine W_block_at 0 (by kernel_rfl) (by kernel_rfl) ?_
    obtain ⟨b4, gb4, kb4⟩ := bind_some h
    refine W_loop_at (S := fun (y3 : Int) => ([], [(0, .cell (.c (slC e61 a0))), (1, .cell (.c (.fn f1 n1 c1))), (7, .cell (.c (.int .i64 (a0.length : Int)))), (8, .cell (.c (.int .i64 y3)))])) (step := _) (x0 := (0 : Int)) (b := b4) (L.ok _ _ _ gb4) (by kernel_rfl) (stps_ok [.keep [0, 1, 7, 8], .take 0] (by kernel_rfl)) ?_
    clear gb4 h; intro y3 o h; unfold s130_0 at h
    refine W_seq_at (by kernel_rfl) ?_
    refine W_region_at (by kernel_rfl) ?_
    refine WO_fin (σ' := []) (T' := [(0, .cell (.c (slC e61 a0))), (1, .cell (.c (.fn f1 n1 c1))), (7, .cell (.c (.int .i64 (a0.length : Int)))), (8, .cell (.c (.int .i64 y3))), (9, .cell (.c (.bool (decide (y3 < (a0.length : Int))))))]) (Φ := (True)) 1 [0, 1, 7, 8, 9] (by kernel_rfl) trivial (by kernel_rfl) ?_
    refine thenQ_n ?_
    refine W_seq_at (by kernel_rfl) ?_
    refine W_cond_at (b := (decide (y3 < (a0.length : Int)))) (by kernel_rfl) (fun hb => ?_) (fun hb => ?_)
    · have h := cond_t hb h
      refine W_skip_at (by kernel_rfl) ?_
      refine thenQ_n ?_
      refine W_seq_at (by kernel_rfl) ?_
      refine W_block_at 1 (by kernel_rfl) (by kernel_rfl) ?_
      refine W_seq_at (by kernel_rfl) ?_
      refine W_region_at (by kernel_rfl) ?_
      refine WO_fin (σ' := []) (T' := [(0, .cell (.c (slC e61 a0))), (1, .cell (.c (.fn f1 n1 c1))), (5, .cell (.c (.int .i64 y3))), (7, .cell (.c (.int .i64 (a0.length : Int)))), (8, .cell (.c (.int .i64 y3)))]) (Φ := (True)) 2 [0, 1, 5, 7, 8] (by kernel_rfl) trivial (by kernel_rfl) ?_
      refine thenQ_n ?_
      refine W_seq_at (by kernel_rfl) ?_
      refine W_region_at (by kernel_rfl) ?_
      obtain ⟨c5, h⟩ := ck_bind h
      refine WO_exk (σ' := []) (T' := [(0, .cell (.c (slC e61 a0))), (1, .cell (.c (.fn f1 n1 c1))), (5, .cell (.c (.int .i64 y3))), (7, .cell (.c (.int .i64 (a0.length : Int)))), (8, .cell (.c (.int .i64 y3))), (11, .cell (.c (.fn f1 n1 c1))), (15, .agg [.c (.int .u8 ((a0.getD y3.toNat e61.d).1)), .c (.int .i64 ((a0.getD y3.toNat e61.d).2))])]) (Φ := (0 ≤ y3 ∧ y3 < (a0.length : Int)) ∧ (True)) 5 [0, 1, 5, 7, 8, 11, 15] (by kernel_rfl) ⟨c5, trivial⟩ ?_
      obtain ⟨r6, gr6, h⟩ := bind_some h
      refine WO_callf (f := f1) (n := n1) (cap := c1) (avs := [.agg [.c (.int .u8 ((a0.getD y3.toNat e61.d).1)), .c (.int .i64 ((a0.getD y3.toNat e61.d).2))]]) (d := some 16) (r := .cell (.c (.bool r6))) (by kernel_rfl) (by kernel_rfl) (by kernel_rfl) hc1 (hg1 _ _ _ gr6) ?_
      refine WO_fin (σ' := []) (T' := [(0, .cell (.c (slC e61 a0))), (1, .cell (.c (.fn f1 n1 c1))), (5, .cell (.c (.int .i64 y3))), (7, .cell (.c (.int .i64 (a0.length : Int)))), (8, .cell (.c (.int .i64 y3))), (16, .cell (.c (.bool r6)))]) (Φ := True) 0 [0, 1, 5, 7, 8, 16] (by kernel_rfl) trivial (by kernel_rfl) ?_
      refine thenQ_n ?_
      refine W_cond_at (b := r6) (by kernel_rfl) (fun hb => ?_) (fun hb => ?_)
      · have h := cond_t hb h
        refine W_seq_at (by kernel_rfl) ?_
        refine W_region_at (by kernel_rfl) ?_
        refine WO_fin (σ' := []) (T' := [(4, .cell (.c (.int .i64 y3)))]) (Φ := (True)) 2 [4] (by kernel_rfl) trivial (by kernel_rfl) ?_
        refine thenQ_n ?_
        refine W_ret_at (by kernel_rfl) ?_
        refine blockQ_r ?_
        refine thenQ_r ?_
        obtain rfl := Option.some.inj h; refine round_r rfl (fun hb => ?_); subst hb; have h := kb4; dsimp only at h
        refine blockQ_r ?_
        obtain rfl := Option.some.inj h; have h := ky1; dsimp only at h; refine thenQ_r ?_
        obtain rfl := Option.some.inj h
        exact qret [.cell (.c (.int .i64 y3))] (by kernel_rfl) (by kernel_rfl) ([]) (by kernel_rfl)
      · have h := cond_f hb h
        refine W_skip_at (by kernel_rfl) ?_
        refine blockQ_n ?_
        refine thenQ_n ?_
        refine W_region_at (by kernel_rfl) ?_
        obtain ⟨c7, h⟩ := ck_bind h
        refine WO_fin (σ' := []) (T' := [(0, .cell (.c (slC e61 a0))), (1, .cell (.c (.fn f1 n1 c1))), (7, .cell (.c (.int .i64 (a0.length : Int)))), (8, .cell (.c (.int .i64 (y3 + (1 : Int)))))]) (Φ := (inR .i64 (y3 + (1 : Int))) ∧ (True)) 2 [0, 1, 7, 8] (by kernel_rfl) ⟨c7, trivial⟩ (by kernel_rfl) ?_
        obtain rfl := Option.some.inj h
        exact round_n _ rfl (stps_ok [.keep [0, 1, 7, 8], .take 0] (by kernel_rfl))
    · have h := cond_f hb h
      refine W_exit_at 0 (by kernel_rfl) (by kernel_rfl) ?_
      refine thenQ_e ?_
      obtain rfl := Option.some.inj h; refine round_e rfl (fun hb => ?_); subst hb; have h := kb4; dsimp only at h
      refine blockQ_hit ?_
      obtain rfl := Option.some.inj h
      exact thenQ_n ⟨_, rfl, stps_ok [.keep [], .take 0] (by kernel_rfl)⟩

/- slices.ContainsFunc[[]api.Var,api.Var] -/
def s110 (L : LP) (a0 : (List (Int × Int))) (g1 : Int → Int → Option Bool) : Option Bool :=
  (s130 L a0 g1).bind fun r1 =>
  some (decide (r1 ≥ (0 : Int)))
theorem p110 (L : LP) (a0 : (List (Int × Int))) (f1 n1 : Nat) (c1 : Nat → C) (g1 : Int → Int → Option Bool) (hg1 : ∀ (x0 : Int) (x1 : Int) (r : Bool), g1 x0 x1 = some r → Pure X f1 ([.agg [.c (.int .u8 x0), .c (.int .i64 x1)]] ++ capsC n1 c1) (.cell (.c (.bool r)))) (hc1 : ∀ (av : Array Value) (w : World), (callFunc f1 av).run X.P w = .ok (.enter f1 av) w) (r : Bool) (h : s110 L a0 g1 = some r) : Pure X 110 [.cell (.c (slC e61 a0)), .cell (.c (.fn f1 n1 c1))] (.cell (.c (.bool r))) := by
  refine Pure_of_W (c := cd Tryd.f110 []) Tryd.func110 (by kernel_rfl) (N := 9) (by kernel_rfl) (Nat.le_of_ble_eq_true (by kernel_rfl)) ?_
  unfold s110 at h
  refine W_seq_at (by kernel_rfl) ?_
  refine W_region_at (by kernel_rfl) ?_
  refine WO_fin (σ' := []) (T' := [(0, .cell (.c (slC e61 a0))), (1, .cell (.c (.fn f1 n1 c1)))]) (Φ := (True)) 1 [0, 1] (by kernel_rfl) trivial (by kernel_rfl) ?_
  refine thenQ_n ?_
  refine W_seq_at (by kernel_rfl) ?_
  refine W_region_at (by kernel_rfl) ?_
  refine WO_exk (σ' := []) (T' := [(5, .cell (.c (slC e61 a0))), (6, .cell (.c (.fn f1 n1 c1)))]) (Φ := (True)) 2 [5, 6] (by kernel_rfl) trivial ?_
  obtain ⟨r1, gr1, h⟩ := bind_some h
  refine WO_call (f := 130) (all := [.cell (.c (slC e61 a0)), .cell (.c (.fn f1 n1 c1))]) (d := some 7) (r := .cell (.c (.int .i64 r1))) (by kernel_rfl) (by kernel_rfl) (by kernel_rfl) Tryd.call130 (p130 L _ f1 n1 c1 g1 hg1 hc1 _ gr1) ?_
  refine WO_fin (σ' := []) (T' := [(4, .cell (.c (.bool (decide (r1 ≥ (0 : Int))))))]) (Φ := (True)) 2 [4] (by kernel_rfl) trivial (by kernel_rfl) ?_
  refine thenQ_n ?_
  refine W_ret_at (by kernel_rfl) ?_
  obtain rfl := Option.some.inj h
  exact qret [.cell (.c (.bool (decide (r1 ≥ (0 : Int)))))] (by kernel_rfl) (by kernel_rfl) ([]) (by kernel_rfl)

/- system.ruled$1 -/
def s108 (L : LP) (a0_0 : Int) (a0_1 : Int) (a1_0 : Int) (a1_1 : Int) (a1_2 : Int) (a1_3 : Int) (a1_4 : (List (List Int))) (a1_5 : (List (Int × (List (Int × (List (Int × Int))))))) (a1_6 : (List ((List (List (Int × Int))) × (List (List (Int × Int)))))) (a1_7 : (List ((List (Int × Int)) × (List (Int × Int)) × Int × Int))) (a2_0 : Bool) : Option Bool :=
  (s109 L a1_0 a1_1 a1_2 a1_3 a1_4 a1_5 a1_6 a1_7 a0_0 a0_1).bind fun r1 =>
  (bif (!r1) then some true
  else (bif a2_0 then some (decide (a0_0 = (2 : Int)))
  else some false).bind fun y3 =>
  some y3).bind fun y2 =>
  some y2
theorem p108 (L : LP) (a0_0 : Int) (a0_1 : Int) (a1_0 : Int) (a1_1 : Int) (a1_2 : Int) (a1_3 : Int) (a1_4 : (List (List Int))) (a1_5 : (List (Int × (List (Int × (List (Int × Int))))))) (a1_6 : (List ((List (List (Int × Int))) × (List (List (Int × Int)))))) (a1_7 : (List ((List (Int × Int)) × (List (Int × Int)) × Int × Int))) (a2_0 : Bool) (r : Bool) (h : s108 L a0_0 a0_1 a1_0 a1_1 a1_2 a1_3 a1_4 a1_5 a1_6 a1_7 a2_0 = some r) : Pure X 108 [.agg [.c (.int .u8 a0_0), .c (.int .i64 a0_1)], .cell (.c (boxC [.int .i64 a1_0, .int .i64 a1_1, .int .i64 a1_2, .int .i64 a1_3, slC e28 a1_4, slC e72 a1_5, slC e65 a1_6, slC e77 a1_7] 0)), .cell (.c (boxC [.bool a2_0] 0))] (.cell (.c (.bool r))) := by
  refine Pure_of_W (c := cd Tryd.f108 []) Tryd.func108 (by kernel_rfl) (N := 17) (by kernel_rfl) (Nat.le_of_ble_eq_true (by kernel_rfl)) ?_
  unfold s108 at h
  refine W_seq_at (by kernel_rfl) ?_
  refine W_region_at (by kernel_rfl) ?_
  refine WO_fin (σ' := [some (.lit 0 61 [.c (.int .u8 a0_0), .c (.int .i64 a0_1)])]) (T' := [(1, .cell (.c (boxC [.int .i64 a1_0, .int .i64 a1_1, .int .i64 a1_2, .int .i64 a1_3, slC e28 a1_4, slC e72 a1_5, slC e65 a1_6, slC e77 a1_7] 0))), (2, .cell (.c (boxC [.bool a2_0] 0))), (3, .cell (.op 0 0 2 0 0))]) (Φ := (True)) 2 [1, 2, 3] (by kernel_rfl) trivial (by kernel_rfl) ?_
  refine thenQ_n ?_
  refine W_seq_at (by kernel_rfl) ?_
  refine W_region_at (by kernel_rfl) ?_
  refine WO_exk (σ' := [some (.lit 0 61 [.c (.int .u8 a0_0), .c (.int .i64 a0_1)])]) (T' := [(2, .cell (.c (boxC [.bool a2_0] 0))), (3, .cell (.op 0 0 2 0 0)), (5, .agg [.c (.int .i64 a1_0), .c (.int .i64 a1_1), .c (.int .i64 a1_2), .c (.int .i64 a1_3), .c (slC e28 a1_4), .c (slC e72 a1_5), .c (slC e65 a1_6), .c (slC e77 a1_7)]), (6, .agg [.c (.int .u8 a0_0), .c (.int .i64 a0_1)])]) (Φ := (True)) 2 [2, 3, 5, 6] (by kernel_rfl) trivial ?_
  obtain ⟨r1, gr1, h⟩ := bind_some h
  refine WO_call (f := 109) (all := [.agg [.c (.int .i64 a1_0), .c (.int .i64 a1_1), .c (.int .i64 a1_2), .c (.int .i64 a1_3), .c (slC e28 a1_4), .c (slC e72 a1_5), .c (slC e65 a1_6), .c (slC e77 a1_7)], .agg [.c (.int .u8 a0_0), .c (.int .i64 a0_1)]]) (d := some 7) (r := .cell (.c (.bool r1))) (by kernel_rfl) (by kernel_rfl) (by kernel_rfl) Tryd.call109 (p109 L _ _ _ _ _ _ _ _ _ _ _ gr1) ?_
  refine WO_exk (σ' := [some (.lit 0 61 [.c (.int .u8 a0_0), .c (.int .i64 a0_1)])]) (T' := [(2, .cell (.c (boxC [.bool a2_0] 0))), (3, .cell (.op 0 0 2 0 0)), (9, .cell (.c (.bool (!r1))))]) (Φ := (True)) 2 [2, 3, 9] (by kernel_rfl) trivial ?_
  obtain ⟨y2, gy2, h⟩ := bind_some h
  refine WO_join 12 [some (.lit 0 61 [.c (.int .u8 a0_0), .c (.int .i64 a0_1)])] [(16, .cell (.c (.bool y2)))] ?_ ?_
  · clear gy2
    refine WO_fin (σ' := [some (.lit 0 61 [.c (.int .u8 a0_0), .c (.int .i64 a0_1)])]) (T' := [(4, .cell (.c (.bool y2)))]) (Φ := (True)) 1 [4] (by kernel_rfl) trivial (by kernel_rfl) ?_
    refine thenQ_n ?_
    refine W_ret_at (by kernel_rfl) ?_
    obtain rfl := Option.some.inj h
    exact qret [.cell (.c (.bool y2))] (by kernel_rfl) (by kernel_rfl) ([]) (by kernel_rfl)
  · intro J
    clear h
    rcases Bool.eq_false_or_eq_true (!r1) with hb | hb
    · have h := cond_t hb gy2; clear gy2
      refine WO_ent (ent_bool (T' := [(9, .cell (.c (.bool true))), (2, .cell (.c (boxC [.bool a2_0] 0))), (3, .cell (.op 0 0 2 0 0))]) 9 hb (by kernel_rfl) (by kernel_rfl)) ?_
      obtain rfl := Option.some.inj h
      refine WO_exk (σ' := [some (.lit 0 61 [.c (.int .u8 a0_0), .c (.int .i64 a0_1)])]) (T' := [(16, .cell (.c (.bool true)))]) (Φ := True) 7 [16] (by kernel_rfl) trivial J
    · have h := cond_f hb gy2; clear gy2
      refine WO_ent (ent_bool (T' := [(9, .cell (.c (.bool false))), (2, .cell (.c (boxC [.bool a2_0] 0))), (3, .cell (.op 0 0 2 0 0))]) 9 hb (by kernel_rfl) (by kernel_rfl)) ?_
      refine WO_exk (σ' := [some (.lit 0 61 [.c (.int .u8 a0_0), .c (.int .i64 a0_1)])]) (T' := [(3, .cell (.op 0 0 2 0 0)), (9, .cell (.c (.bool false))), (11, .cell (.c (.bool a2_0)))]) (Φ := (True)) 2 [3, 9, 11] (by kernel_rfl) trivial ?_
      obtain ⟨y3, gy3, h⟩ := bind_some h
      refine WO_join 11 [some (.lit 0 61 [.c (.int .u8 a0_0), .c (.int .i64 a0_1)])] [(9, .cell (.c (.bool false))), (15, .cell (.c (.bool y3)))] ?_ ?_
      · clear gy3
        obtain rfl := Option.some.inj h
        refine WO_exk (σ' := [some (.lit 0 61 [.c (.int .u8 a0_0), .c (.int .i64 a0_1)])]) (T' := [(16, .cell (.c (.bool y3)))]) (Φ := True) 1 [16] (by kernel_rfl) trivial J
      · intro J
        clear h
        rcases Bool.eq_false_or_eq_true a2_0 with hb | hb
        · have h := cond_t hb gy3; clear gy3
          refine WO_ent (ent_bool (T' := [(11, .cell (.c (.bool true))), (3, .cell (.op 0 0 2 0 0)), (9, .cell (.c (.bool false)))]) 11 hb (by kernel_rfl) (by kernel_rfl)) ?_
          refine WO_exk (σ' := [some (.lit 0 61 [.c (.int .u8 a0_0), .c (.int .i64 a0_1)])]) (T' := [(9, .cell (.c (.bool false))), (11, .cell (.c (.bool true))), (14, .cell (.c (.bool (decide (a0_0 = (2 : Int))))))]) (Φ := (True)) 3 [9, 11, 14] (by kernel_rfl) trivial ?_
          obtain rfl := Option.some.inj h
          refine WO_exk (σ' := [some (.lit 0 61 [.c (.int .u8 a0_0), .c (.int .i64 a0_1)])]) (T' := [(9, .cell (.c (.bool false))), (15, .cell (.c (.bool (decide (a0_0 = (2 : Int))))))]) (Φ := True) 1 [9, 15] (by kernel_rfl) trivial J
        · have h := cond_f hb gy3; clear gy3
          refine WO_ent (ent_bool (T' := [(11, .cell (.c (.bool false))), (3, .cell (.op 0 0 2 0 0)), (9, .cell (.c (.bool false)))]) 11 hb (by kernel_rfl) (by kernel_rfl)) ?_
          obtain rfl := Option.some.inj h
          refine WO_exk (σ' := [some (.lit 0 61 [.c (.int .u8 a0_0), .c (.int .i64 a0_1)])]) (T' := [(9, .cell (.c (.bool false))), (15, .cell (.c (.bool false)))]) (Φ := True) 4 [9, 15] (by kernel_rfl) trivial J

/- system.ruled -/
def s63_0 (L : LP) (a0_0 : Int) (a0_1 : Int) (a0_2 : Int) (a0_3 : Int) (a0_4 : (List (List Int))) (a0_5 : (List (Int × (List (Int × (List (Int × Int))))))) (a0_6 : (List ((List (List (Int × Int))) × (List (List (Int × Int)))))) (a0_7 : (List ((List (Int × Int)) × (List (Int × Int)) × Int × Int))) (a1_1 : (List (Int × (List (Int × Int))))) (y1 : Bool) (y7 : Int) : Option (Int ⊕ (Bool ⊕ Unit)) :=
  (bif (decide (y7 < (a1_1.length : Int))) then
  (ck (0 ≤ y7 ∧ y7 < (a1_1.length : Int))).bind fun _ =>
  (s73 L a0_0).bind fun r10 =>
  (bif (decide (((a1_1.getD y7.toNat e74.d).1) ≥ r10)) then some true
  else some (decide ((((a1_1.getD y7.toNat e74.d).2).length : Int) > (8 : Int)))).bind fun y11 =>
  (bif y11 then some true
  else (s110 L ((a1_1.getD y7.toNat e74.d).2) (fun x0 x1 => s108 L x0 x1 a0_0 a0_1 a0_2 a0_3 a0_4 a0_5 a0_6 a0_7 y1)).bind fun r14 =>
  some r14).bind fun y12 =>
  (bif y12 then
  some (.inr (.inl false))
  else (ck (inR .i64 (y7 + (1 : Int)))).bind fun _ =>
  some (.inl (y7 + (1 : Int))))
  else some (.inr (.inr ())))
def s63 (L : LP) (a0_0 : Int) (a0_1 : Int) (a0_2 : Int) (a0_3 : Int) (a0_4 : (List (List Int))) (a0_5 : (List (Int × (List (Int × (List (Int × Int))))))) (a0_6 : (List ((List (List (Int × Int))) × (List (List (Int × Int)))))) (a0_7 : (List ((List (Int × Int)) × (List (Int × Int)) × Int × Int))) (a1_0 : Int) (a1_1 : (List (Int × (List (Int × Int))))) : Option Bool :=
  (bif (decide (a1_0 = (3 : Int))) then some true
  else some (decide (a1_0 = (4 : Int)))).bind fun y1 =>
  (bif (decide (a1_0 < (1 : Int))) then some true
  else some (decide (a1_0 > (4 : Int)))).bind fun y2 =>
  (bif y2 then some true
  else some (decide ((a1_1.length : Int) > (64 : Int)))).bind fun y3 =>
  (bif y3 then some true
  else (bif y1 then (s66 L a1_1).bind fun r16 =>
  some (decide (r16 > (1 : Int)))
  else some false).bind fun y15 =>
  some y15).bind fun y4 =>
  (bif y4 then
  some false
  else ((L.run (s63_0 L a0_0 a0_1 a0_2 a0_3 a0_4 a0_5 a0_6 a0_7 a1_1 y1) (0 : Int)).bind (fun (b : Bool ⊕ Unit) => (match b with
  | .inl v => some (.inr v)
  | .inr v => some (.inl ())))).bind fun (y5 : Unit ⊕ Bool) => (match y5 with
  | .inl v6 => some true
  | .inr v6 => some v6))
theorem p63 (L : LP) (a0_0 : Int) (a0_1 : Int) (a0_2 : Int) (a0_3 : Int) (a0_4 : (List (List Int))) (a0_5 : (List (Int × (List (Int × (List (Int × Int))))))) (a0_6 : (List ((List (List (Int × Int))) × (List (List (Int × Int)))))) (a0_7 : (List ((List (Int × Int)) × (List (Int × Int)) × Int × Int))) (a1_0 : Int) (a1_1 : (List (Int × (List (Int × Int))))) (r : Bool) (h : s63 L a0_0 a0_1 a0_2 a0_3 a0_4 a0_5 a0_6 a0_7 a1_0 a1_1 = some r) : Pure X 63 [.agg [.c (.int .i64 a0_0), .c (.int .i64 a0_1), .c (.int .i64 a0_2), .c (.int .i64 a0_3), .c (slC e28 a0_4), .c (slC e72 a0_5), .c (slC e65 a0_6), .c (slC e77 a0_7)], .agg [.c (.int .u8 a1_0), .c (slC e74 a1_1)]] (.cell (.c (.bool r))) := by
  refine Pure_of_W (c := cd Tryd.f63 []) Tryd.func63 (by kernel_rfl) (N := 67) (by kernel_rfl) (Nat.le_of_ble_eq_true (by kernel_rfl)) ?_
  unfold s63 at h
  refine W_seq_at (by kernel_rfl) ?_
  refine W_region_at (by kernel_rfl) ?_
  refine WO_fin (σ' := [some (.lit 0 27 [.c (.int .i64 a0_0), .c (.int .i64 a0_1), .c (.int .i64 a0_2), .c (.int .i64 a0_3), .c (slC e28 a0_4), .c (slC e72 a0_5), .c (slC e65 a0_6), .c (slC e77 a0_7)]), some (.lit 0 72 [.c (.int .u8 a1_0), .c (slC e74 a1_1)])]) (T' := [(2, .cell (.op 0 0 8 0 0)), (3, .cell (.op 1 0 2 0 0))]) (Φ := (True)) 3 [2, 3] (by kernel_rfl) trivial (by kernel_rfl) ?_
  refine thenQ_n ?_
  refine W_seq_at (by kernel_rfl) ?_
  refine W_region_at (by kernel_rfl) ?_
  refine WO_exk (σ' := [some (.lit 0 27 [.c (.int .i64 a0_0), .c (.int .i64 a0_1), .c (.int .i64 a0_2), .c (.int .i64 a0_3), .c (slC e28 a0_4), .c (slC e72 a0_5), .c (slC e65 a0_6), .c (slC e77 a0_7)]), some (.lit 0 72 [.c (.int .u8 a1_0), .c (slC e74 a1_1)])]) (T' := [(2, .cell (.op 0 0 8 0 0)), (3, .cell (.op 1 0 2 0 0)), (12, .cell (.c (.bool (decide (a1_0 = (3 : Int))))))]) (Φ := (True)) 4 [2, 3, 12] (by kernel_rfl) trivial ?_
  obtain ⟨y1, gy1, h⟩ := bind_some h
  refine WO_join 8 [some (.lit 0 27 [.c (.int .i64 a0_0), .c (.int .i64 a0_1), .c (.int .i64 a0_2), .c (.int .i64 a0_3), .c (slC e28 a0_4), .c (slC e72 a0_5), .c (slC e65 a0_6), .c (slC e77 a0_7)]), some (.lit 0 72 [.c (.int .u8 a1_0), .c (slC e74 a1_1)])] [(2, .cell (.op 0 0 8 0 0)), (3, .cell (.op 1 0 2 0 0)), (16, .cell (.c (.bool y1)))] ?_ ?_
  · clear gy1
    refine WO_fin (σ' := [some (.lit 0 27 [.c (.int .i64 a0_0), .c (.int .i64 a0_1), .c (.int .i64 a0_2), .c (.int .i64 a0_3), .c (slC e28 a0_4), .c (slC e72 a0_5), .c (slC e65 a0_6), .c (slC e77 a0_7)]), some (.lit 0 72 [.c (.int .u8 a1_0), .c (slC e74 a1_1)]), some (.lit 0 4 [.c (.bool y1)])]) (T' := [(2, .cell (.op 0 0 8 0 0)), (3, .cell (.op 1 0 2 0 0)), (5, .cell (.op 2 0 1 0 0))]) (Φ := (True)) 2 [2, 3, 5] (by kernel_rfl) trivial (by kernel_rfl) ?_
    refine thenQ_n ?_
    refine W_seq_at (by kernel_rfl) ?_
    refine W_seq_at (by kernel_rfl) ?_
    refine W_region_at (by kernel_rfl) ?_
    refine WO_exk (σ' := [some (.lit 0 27 [.c (.int .i64 a0_0), .c (.int .i64 a0_1), .c (.int .i64 a0_2), .c (.int .i64 a0_3), .c (slC e28 a0_4), .c (slC e72 a0_5), .c (slC e65 a0_6), .c (slC e77 a0_7)]), some (.lit 0 72 [.c (.int .u8 a1_0), .c (slC e74 a1_1)]), some (.lit 0 4 [.c (.bool y1)])]) (T' := [(2, .cell (.op 0 0 8 0 0)), (3, .cell (.op 1 0 2 0 0)), (5, .cell (.op 2 0 1 0 0)), (20, .cell (.c (.bool (decide (a1_0 < (1 : Int))))))]) (Φ := (True)) 4 [2, 3, 5, 20] (by kernel_rfl) trivial ?_
    obtain ⟨y2, gy2, h⟩ := bind_some h
    refine WO_join 8 [some (.lit 0 27 [.c (.int .i64 a0_0), .c (.int .i64 a0_1), .c (.int .i64 a0_2), .c (.int .i64 a0_3), .c (slC e28 a0_4), .c (slC e72 a0_5), .c (slC e65 a0_6), .c (slC e77 a0_7)]), some (.lit 0 72 [.c (.int .u8 a1_0), .c (slC e74 a1_1)]), some (.lit 0 4 [.c (.bool y1)])] [(2, .cell (.op 0 0 8 0 0)), (3, .cell (.op 1 0 2 0 0)), (5, .cell (.op 2 0 1 0 0)), (24, .cell (.c (.bool y2)))] ?_ ?_
    · clear gy2
      refine WO_exk (σ' := [some (.lit 0 27 [.c (.int .i64 a0_0), .c (.int .i64 a0_1), .c (.int .i64 a0_2), .c (.int .i64 a0_3), .c (slC e28 a0_4), .c (slC e72 a0_5), .c (slC e65 a0_6), .c (slC e77 a0_7)]), some (.lit 0 72 [.c (.int .u8 a1_0), .c (slC e74 a1_1)]), some (.lit 0 4 [.c (.bool y1)])]) (T' := [(2, .cell (.op 0 0 8 0 0)), (3, .cell (.op 1 0 2 0 0)), (5, .cell (.op 2 0 1 0 0)), (25, .cell (.c (.bool y2)))]) (Φ := (True)) 1 [2, 3, 5, 25] (by kernel_rfl) trivial ?_
      obtain ⟨y3, gy3, h⟩ := bind_some h
      refine WO_join 14 [some (.lit 0 27 [.c (.int .i64 a0_0), .c (.int .i64 a0_1), .c (.int .i64 a0_2), .c (.int .i64 a0_3), .c (slC e28 a0_4), .c (slC e72 a0_5), .c (slC e65 a0_6), .c (slC e77 a0_7)]), some (.lit 0 72 [.c (.int .u8 a1_0), .c (slC e74 a1_1)]), some (.lit 0 4 [.c (.bool y1)])] [(2, .cell (.op 0 0 8 0 0)), (3, .cell (.op 1 0 2 0 0)), (5, .cell (.op 2 0 1 0 0)), (30, .cell (.c (.bool y3)))] ?_ ?_
      · clear gy3
        refine WO_exk (σ' := [some (.lit 0 27 [.c (.int .i64 a0_0), .c (.int .i64 a0_1), .c (.int .i64 a0_2), .c (.int .i64 a0_3), .c (slC e28 a0_4), .c (slC e72 a0_5), .c (slC e65 a0_6), .c (slC e77 a0_7)]), some (.lit 0 72 [.c (.int .u8 a1_0), .c (slC e74 a1_1)]), some (.lit 0 4 [.c (.bool y1)])]) (T' := [(2, .cell (.op 0 0 8 0 0)), (3, .cell (.op 1 0 2 0 0)), (5, .cell (.op 2 0 1 0 0)), (31, .cell (.c (.bool y3)))]) (Φ := (True)) 1 [2, 3, 5, 31] (by kernel_rfl) trivial ?_
        obtain ⟨y4, gy4, h⟩ := bind_some h
        refine WO_join 23 [some (.lit 0 27 [.c (.int .i64 a0_0), .c (.int .i64 a0_1), .c (.int .i64 a0_2), .c (.int .i64 a0_3), .c (slC e28 a0_4), .c (slC e72 a0_5), .c (slC e65 a0_6), .c (slC e77 a0_7)]), some (.lit 0 72 [.c (.int .u8 a1_0), .c (slC e74 a1_1)]), some (.lit 0 4 [.c (.bool y1)])] [(2, .cell (.op 0 0 8 0 0)), (3, .cell (.op 1 0 2 0 0)), (5, .cell (.op 2 0 1 0 0)), (39, .cell (.c (.bool y4)))] ?_ ?_
        · clear gy4
          refine WO_fin (σ' := [some (.lit 0 27 [.c (.int .i64 a0_0), .c (.int .i64 a0_1), .c (.int .i64 a0_2), .c (.int .i64 a0_3), .c (slC e28 a0_4), .c (slC e72 a0_5), .c (slC e65 a0_6), .c (slC e77 a0_7)]), some (.lit 0 72 [.c (.int .u8 a1_0), .c (slC e74 a1_1)]), some (.lit 0 4 [.c (.bool y1)])]) (T' := [(2, .cell (.op 0 0 8 0 0)), (3, .cell (.op 1 0 2 0 0)), (5, .cell (.op 2 0 1 0 0)), (39, .cell (.c (.bool y4)))]) (Φ := True) 0 [2, 3, 5, 39] (by kernel_rfl) trivial (by kernel_rfl) ?_
          refine thenQ_n ?_
          refine W_cond_at (b := y4) (by kernel_rfl) (fun hb => ?_) (fun hb => ?_)
          · have h := cond_t hb h
            refine W_seq_at (by kernel_rfl) ?_
            refine W_region_at (by kernel_rfl) ?_
            refine WO_fin (σ' := [some (.lit 0 27 [.c (.int .i64 a0_0), .c (.int .i64 a0_1), .c (.int .i64 a0_2), .c (.int .i64 a0_3), .c (slC e28 a0_4), .c (slC e72 a0_5), .c (slC e65 a0_6), .c (slC e77 a0_7)]), some (.lit 0 72 [.c (.int .u8 a1_0), .c (slC e74 a1_1)]), some (.lit 0 4 [.c (.bool y1)])]) (T' := [(4, .cell (.c (.bool false)))]) (Φ := (True)) 1 [4] (by kernel_rfl) trivial (by kernel_rfl) ?_
            refine thenQ_n ?_
            refine W_ret_at (by kernel_rfl) ?_
            refine thenQ_r ?_
            obtain rfl := Option.some.inj h
            exact qret [.cell (.c (.bool false))] (by kernel_rfl) (by kernel_rfl) ([]) (by kernel_rfl)
          · have h := cond_f hb h
            refine W_skip_at (by kernel_rfl) ?_
            refine thenQ_n ?_
            refine W_seq_at (by kernel_rfl) ?_
            refine W_region_at (by kernel_rfl) ?_
            refine WO_ent (σ' := [none, some (.lit 0 72 [.c (.int .u8 a1_0), .c (slC e74 a1_1)]), none]) (T' := [(2, .cell (.c (boxC [.int .i64 a0_0, .int .i64 a0_1, .int .i64 a0_2, .int .i64 a0_3, slC e28 a0_4, slC e72 a0_5, slC e65 a0_6, slC e77 a0_7] 0))), (3, .cell (.op 1 0 2 0 0)), (5, .cell (.c (boxC [.bool y1] 0))), (39, .cell (.c (.bool y4)))]) (stps_ok [.freeze 0, .freeze 2] (by kernel_rfl)) ?_
            refine WO_fin (σ' := [none, some (.lit 0 72 [.c (.int .u8 a1_0), .c (slC e74 a1_1)]), none]) (T' := [(2, .cell (.c (boxC [.int .i64 a0_0, .int .i64 a0_1, .int .i64 a0_2, .int .i64 a0_3, slC e28 a0_4, slC e72 a0_5, slC e65 a0_6, slC e77 a0_7] 0))), (3, .cell (.op 1 0 2 0 0)), (6, .cell (.c (fnC 108 [boxC [.int .i64 a0_0, .int .i64 a0_1, .int .i64 a0_2, .int .i64 a0_3, slC e28 a0_4, slC e72 a0_5, slC e65 a0_6, slC e77 a0_7] 0, boxC [.bool y1] 0])))]) (Φ := (True)) 2 [2, 3, 6] (by kernel_rfl) trivial (by kernel_rfl) ?_
            refine thenQ_n ?_
            obtain ⟨y5, gy5, ky5⟩ := bind_some h
            refine W_cutE (by kernel_rfl) (fun v6 => y5 = .inl v6) (fun v6 => ([none, some (.lit 0 72 [.c (.int .u8 a1_0), .c (slC e74 a1_1)]), none], [])) ?_ ?_
            · intro v6 hv; subst hv; have h := ky5; clear gy5 ky5; dsimp only at h
              refine W_seq_at (by kernel_rfl) ?_
              refine W_region_at (by kernel_rfl) ?_
              refine WO_fin (σ' := [none, some (.lit 0 72 [.c (.int .u8 a1_0), .c (slC e74 a1_1)]), none]) (T' := [(4, .cell (.c (.bool true)))]) (Φ := (True)) 1 [4] (by kernel_rfl) trivial (by kernel_rfl) ?_
              refine thenQ_n ?_
              refine W_ret_at (by kernel_rfl) ?_
              obtain rfl := Option.some.inj h
              exact qret [.cell (.c (.bool true))] (by kernel_rfl) (by kernel_rfl) ([]) (by kernel_rfl)
            · have h := gy5; clear gy5
              refine W_seq_at (by kernel_rfl) ?_
              refine W_region_at (by kernel_rfl) ?_
              refine WO_fin (σ' := [none, some (.lit 0 72 [.c (.int .u8 a1_0), .c (slC e74 a1_1)]), none]) (T' := [(2, .cell (.c (boxC [.int .i64 a0_0, .int .i64 a0_1, .int .i64 a0_2, .int .i64 a0_3, slC e28 a0_4, slC e72 a0_5, slC e65 a0_6, slC e77 a0_7] 0))), (6, .cell (.c (fnC 108 [boxC [.int .i64 a0_0, .int .i64 a0_1, .int .i64 a0_2, .int .i64 a0_3, slC e28 a0_4, slC e72 a0_5, slC e65 a0_6, slC e77 a0_7] 0, boxC [.bool y1] 0]))), (42, .cell (.c (slC e74 a1_1))), (43, .cell (.c (.int .i64 (a1_1.length : Int)))), (44, .cell (.c (.int .i64 (0 : Int))))]) (Φ := (True)) 4 [2, 6, 42, 43, 44] (by kernel_rfl) trivial (by kernel_rfl) ?_
              refine thenQ_n ?_
              refine W_block_at 0 (by kernel_rfl) (by kernel_rfl) ?_
              obtain ⟨b8, gb8, kb8⟩ := bind_some h
              refine W_loop_at (S := fun (y7 : Int) => ([none, some (.lit 0 72 [.c (.int .u8 a1_0), .c (slC e74 a1_1)]), none], [(2, .cell (.c (boxC [.int .i64 a0_0, .int .i64 a0_1, .int .i64 a0_2, .int .i64 a0_3, slC e28 a0_4, slC e72 a0_5, slC e65 a0_6, slC e77 a0_7] 0))), (6, .cell (.c (fnC 108 [boxC [.int .i64 a0_0, .int .i64 a0_1, .int .i64 a0_2, .int .i64 a0_3, slC e28 a0_4, slC e72 a0_5, slC e65 a0_6, slC e77 a0_7] 0, boxC [.bool y1] 0]))), (42, .cell (.c (slC e74 a1_1))), (43, .cell (.c (.int .i64 (a1_1.length : Int)))), (44, .cell (.c (.int .i64 y7)))])) (step := _) (x0 := (0 : Int)) (b := b8) (L.ok _ _ _ gb8) (by kernel_rfl) (stps_ok [.keep [2, 6, 42, 43, 44], .take 3] (by kernel_rfl)) ?_
              clear gb8 h; intro y7 o h; unfold s63_0 at h
              refine W_seq_at (by kernel_rfl) ?_
              refine W_region_at (by kernel_rfl) ?_
              refine WO_fin (σ' := [none, some (.lit 0 72 [.c (.int .u8 a1_0), .c (slC e74 a1_1)]), none]) (T' := [(2, .cell (.c (boxC [.int .i64 a0_0, .int .i64 a0_1, .int .i64 a0_2, .int .i64 a0_3, slC e28 a0_4, slC e72 a0_5, slC e65 a0_6, slC e77 a0_7] 0))), (6, .cell (.c (fnC 108 [boxC [.int .i64 a0_0, .int .i64 a0_1, .int .i64 a0_2, .int .i64 a0_3, slC e28 a0_4, slC e72 a0_5, slC e65 a0_6, slC e77 a0_7] 0, boxC [.bool y1] 0]))), (42, .cell (.c (slC e74 a1_1))), (43, .cell (.c (.int .i64 (a1_1.length : Int)))), (44, .cell (.c (.int .i64 y7))), (45, .cell (.c (.bool (decide (y7 < (a1_1.length : Int))))))]) (Φ := (True)) 1 [2, 6, 42, 43, 44, 45] (by kernel_rfl) trivial (by kernel_rfl) ?_
              refine thenQ_n ?_
              refine W_seq_at (by kernel_rfl) ?_
              refine W_cond_at (b := (decide (y7 < (a1_1.length : Int)))) (by kernel_rfl) (fun hb => ?_) (fun hb => ?_)
              · have h := cond_t hb h
                refine W_skip_at (by kernel_rfl) ?_
                refine thenQ_n ?_
                refine W_seq_at (by kernel_rfl) ?_
                refine W_block_at 1 (by kernel_rfl) (by kernel_rfl) ?_
                refine W_seq_at (by kernel_rfl) ?_
                refine W_region_at (by kernel_rfl) ?_
                obtain ⟨c9, h⟩ := ck_bind h
                refine WO_fin (σ' := [none, some (.lit 0 72 [.c (.int .u8 a1_0), .c (slC e74 a1_1)]), none, some (.lit 0 74 [.c (.int .u64 ((a1_1.getD y7.toNat e74.d).1)), .c (slC e61 ((a1_1.getD y7.toNat e74.d).2))])]) (T' := [(2, .cell (.c (boxC [.int .i64 a0_0, .int .i64 a0_1, .int .i64 a0_2, .int .i64 a0_3, slC e28 a0_4, slC e72 a0_5, slC e65 a0_6, slC e77 a0_7] 0))), (6, .cell (.c (fnC 108 [boxC [.int .i64 a0_0, .int .i64 a0_1, .int .i64 a0_2, .int .i64 a0_3, slC e28 a0_4, slC e72 a0_5, slC e65 a0_6, slC e77 a0_7] 0, boxC [.bool y1] 0]))), (8, .cell (.op 3 0 2 0 0)), (42, .cell (.c (slC e74 a1_1))), (43, .cell (.c (.int .i64 (a1_1.length : Int)))), (44, .cell (.c (.int .i64 y7)))]) (Φ := (0 ≤ y7 ∧ y7 < (a1_1.length : Int)) ∧ (True)) 4 [2, 6, 8, 42, 43, 44] (by kernel_rfl) ⟨c9, trivial⟩ (by kernel_rfl) ?_
                refine thenQ_n ?_
                refine W_seq_at (by kernel_rfl) ?_
                refine W_drawK 18 (by kernel_rfl) mixed (by kernel_rfl) ?_
                refine WQ_exk (n' := 14) (T' := [(2, .cell (.c (boxC [.int .i64 a0_0, .int .i64 a0_1, .int .i64 a0_2, .int .i64 a0_3, slC e28 a0_4, slC e72 a0_5, slC e65 a0_6, slC e77 a0_7] 0))), (6, .cell (.c (fnC 108 [boxC [.int .i64 a0_0, .int .i64 a0_1, .int .i64 a0_2, .int .i64 a0_3, slC e28 a0_4, slC e72 a0_5, slC e65 a0_6, slC e77 a0_7] 0, boxC [.bool y1] 0]))), (8, .cell (.op 3 0 2 0 0)), (42, .cell (.c (slC e74 a1_1))), (43, .cell (.c (.int .i64 (a1_1.length : Int)))), (44, .cell (.c (.int .i64 y7))), (49, .cell (.c (.int .u64 ((a1_1.getD y7.toNat e74.d).1)))), (51, .cell (.c (.int .i64 a0_0)))]) (Φ := (True)) 4 [2, 6, 8, 42, 43, 44, 49, 51] (by kernel_rfl) trivial ?_
                obtain ⟨r10, gr10, h⟩ := bind_some h
                refine WQ_call (f := 73) (all := [.cell (.c (.int .i64 a0_0))]) (d := some 52) (r := .cell (.c (.int .u64 r10))) (by kernel_rfl) (by kernel_rfl) (by kernel_rfl) Tryd.call73 (p73 L _ _ gr10) ?_
                refine WQ_exk (n' := 11) (T' := [(2, .cell (.c (boxC [.int .i64 a0_0, .int .i64 a0_1, .int .i64 a0_2, .int .i64 a0_3, slC e28 a0_4, slC e72 a0_5, slC e65 a0_6, slC e77 a0_7] 0))), (6, .cell (.c (fnC 108 [boxC [.int .i64 a0_0, .int .i64 a0_1, .int .i64 a0_2, .int .i64 a0_3, slC e28 a0_4, slC e72 a0_5, slC e65 a0_6, slC e77 a0_7] 0, boxC [.bool y1] 0]))), (8, .cell (.op 3 0 2 0 0)), (42, .cell (.c (slC e74 a1_1))), (43, .cell (.c (.int .i64 (a1_1.length : Int)))), (44, .cell (.c (.int .i64 y7))), (54, .cell (.c (.bool (decide (((a1_1.getD y7.toNat e74.d).1) ≥ r10)))))]) (Φ := (True)) 2 [2, 6, 8, 42, 43, 44, 54] (by kernel_rfl) trivial ?_
                obtain ⟨y11, gy11, h⟩ := bind_some h
                refine WQ_join 6 12 [(2, .cell (.c (boxC [.int .i64 a0_0, .int .i64 a0_1, .int .i64 a0_2, .int .i64 a0_3, slC e28 a0_4, slC e72 a0_5, slC e65 a0_6, slC e77 a0_7] 0))), (6, .cell (.c (fnC 108 [boxC [.int .i64 a0_0, .int .i64 a0_1, .int .i64 a0_2, .int .i64 a0_3, slC e28 a0_4, slC e72 a0_5, slC e65 a0_6, slC e77 a0_7] 0, boxC [.bool y1] 0]))), (8, .cell (.op 3 0 2 0 0)), (42, .cell (.c (slC e74 a1_1))), (43, .cell (.c (.int .i64 (a1_1.length : Int)))), (44, .cell (.c (.int .i64 y7))), (59, .cell (.c (.bool y11)))] ?_ ?_
                · clear gy11
                  refine WQ_exk (n' := 5) (T' := [(2, .cell (.c (boxC [.int .i64 a0_0, .int .i64 a0_1, .int .i64 a0_2, .int .i64 a0_3, slC e28 a0_4, slC e72 a0_5, slC e65 a0_6, slC e77 a0_7] 0))), (6, .cell (.c (fnC 108 [boxC [.int .i64 a0_0, .int .i64 a0_1, .int .i64 a0_2, .int .i64 a0_3, slC e28 a0_4, slC e72 a0_5, slC e65 a0_6, slC e77 a0_7] 0, boxC [.bool y1] 0]))), (8, .cell (.op 3 0 2 0 0)), (42, .cell (.c (slC e74 a1_1))), (43, .cell (.c (.int .i64 (a1_1.length : Int)))), (44, .cell (.c (.int .i64 y7))), (60, .cell (.c (.bool y11)))]) (Φ := (True)) 1 [2, 6, 8, 42, 43, 44, 60] (by kernel_rfl) trivial ?_
                  obtain ⟨y12, gy12, h⟩ := bind_some h
                  refine WQ_join 0 18 [(2, .cell (.c (boxC [.int .i64 a0_0, .int .i64 a0_1, .int .i64 a0_2, .int .i64 a0_3, slC e28 a0_4, slC e72 a0_5, slC e65 a0_6, slC e77 a0_7] 0))), (6, .cell (.c (fnC 108 [boxC [.int .i64 a0_0, .int .i64 a0_1, .int .i64 a0_2, .int .i64 a0_3, slC e28 a0_4, slC e72 a0_5, slC e65 a0_6, slC e77 a0_7] 0, boxC [.bool y1] 0]))), (42, .cell (.c (slC e74 a1_1))), (43, .cell (.c (.int .i64 (a1_1.length : Int)))), (44, .cell (.c (.int .i64 y7))), (65, .cell (.c (.bool y12)))] ?_ ?_
                  · clear gy12
                    refine WQ_done ?_
                    refine WO_fin (σ' := [none, some (.lit 0 72 [.c (.int .u8 a1_0), .c (slC e74 a1_1)]), none, some (.lit 0 74 [.c (.int .u64 ((a1_1.getD y7.toNat e74.d).1)), .c (slC e61 ((a1_1.getD y7.toNat e74.d).2))])]) (T' := [(2, .cell (.c (boxC [.int .i64 a0_0, .int .i64 a0_1, .int .i64 a0_2, .int .i64 a0_3, slC e28 a0_4, slC e72 a0_5, slC e65 a0_6, slC e77 a0_7] 0))), (6, .cell (.c (fnC 108 [boxC [.int .i64 a0_0, .int .i64 a0_1, .int .i64 a0_2, .int .i64 a0_3, slC e28 a0_4, slC e72 a0_5, slC e65 a0_6, slC e77 a0_7] 0, boxC [.bool y1] 0]))), (42, .cell (.c (slC e74 a1_1))), (43, .cell (.c (.int .i64 (a1_1.length : Int)))), (44, .cell (.c (.int .i64 y7))), (65, .cell (.c (.bool y12)))]) (Φ := True) 0 [2, 6, 42, 43, 44, 65] (by kernel_rfl) trivial (by kernel_rfl) ?_
                    refine thenQ_n ?_
                    refine W_cond_at (b := y12) (by kernel_rfl) (fun hb => ?_) (fun hb => ?_)
                    · have h := cond_t hb h
                      refine W_seq_at (by kernel_rfl) ?_
                      refine W_region_at (by kernel_rfl) ?_
                      refine WO_fin (σ' := [none, some (.lit 0 72 [.c (.int .u8 a1_0), .c (slC e74 a1_1)]), none, some (.lit 0 74 [.c (.int .u64 ((a1_1.getD y7.toNat e74.d).1)), .c (slC e61 ((a1_1.getD y7.toNat e74.d).2))])]) (T' := [(4, .cell (.c (.bool false)))]) (Φ := (True)) 1 [4] (by kernel_rfl) trivial (by kernel_rfl) ?_
                      refine thenQ_n ?_
                      refine W_ret_at (by kernel_rfl) ?_
                      refine blockQ_r ?_
                      refine thenQ_r ?_
                      obtain rfl := Option.some.inj h; refine round_r rfl (fun hb => ?_); subst hb; have h := kb8; dsimp only at h
                      refine blockQ_r ?_
                      obtain rfl := Option.some.inj h; have h := ky5; dsimp only at h; refine thenQ_r ?_
                      obtain rfl := Option.some.inj h
                      exact qret [.cell (.c (.bool false))] (by kernel_rfl) (by kernel_rfl) ([]) (by kernel_rfl)
                    · have h := cond_f hb h
                      refine W_skip_at (by kernel_rfl) ?_
                      refine blockQ_n ?_
                      refine thenQ_n ?_
                      refine W_region_at (by kernel_rfl) ?_
                      obtain ⟨c13, h⟩ := ck_bind h
                      refine WO_fin (σ' := [none, some (.lit 0 72 [.c (.int .u8 a1_0), .c (slC e74 a1_1)]), none, some (.lit 0 74 [.c (.int .u64 ((a1_1.getD y7.toNat e74.d).1)), .c (slC e61 ((a1_1.getD y7.toNat e74.d).2))])]) (T' := [(2, .cell (.c (boxC [.int .i64 a0_0, .int .i64 a0_1, .int .i64 a0_2, .int .i64 a0_3, slC e28 a0_4, slC e72 a0_5, slC e65 a0_6, slC e77 a0_7] 0))), (6, .cell (.c (fnC 108 [boxC [.int .i64 a0_0, .int .i64 a0_1, .int .i64 a0_2, .int .i64 a0_3, slC e28 a0_4, slC e72 a0_5, slC e65 a0_6, slC e77 a0_7] 0, boxC [.bool y1] 0]))), (42, .cell (.c (slC e74 a1_1))), (43, .cell (.c (.int .i64 (a1_1.length : Int)))), (44, .cell (.c (.int .i64 (y7 + (1 : Int)))))]) (Φ := (inR .i64 (y7 + (1 : Int))) ∧ (True)) 2 [2, 6, 42, 43, 44] (by kernel_rfl) ⟨c13, trivial⟩ (by kernel_rfl) ?_
                      obtain rfl := Option.some.inj h
                      exact round_n _ rfl (stps_ok [.keep [2, 6, 42, 43, 44], .take 3] (by kernel_rfl))
                  · intro J
                    clear h
                    rcases Bool.eq_false_or_eq_true y11 with hb | hb
                    · have h := cond_t hb gy12; clear gy12
                      refine WQ_bool (T' := [(60, .cell (.c (.bool true))), (2, .cell (.c (boxC [.int .i64 a0_0, .int .i64 a0_1, .int .i64 a0_2, .int .i64 a0_3, slC e28 a0_4, slC e72 a0_5, slC e65 a0_6, slC e77 a0_7] 0))), (6, .cell (.c (fnC 108 [boxC [.int .i64 a0_0, .int .i64 a0_1, .int .i64 a0_2, .int .i64 a0_3, slC e28 a0_4, slC e72 a0_5, slC e65 a0_6, slC e77 a0_7] 0, boxC [.bool y1] 0]))), (8, .cell (.op 3 0 2 0 0)), (42, .cell (.c (slC e74 a1_1))), (43, .cell (.c (.int .i64 (a1_1.length : Int)))), (44, .cell (.c (.int .i64 y7)))]) 60 hb (by kernel_rfl) (by kernel_rfl) ?_
                      obtain rfl := Option.some.inj h
                      refine WQ_exk (n' := 0) (T' := [(2, .cell (.c (boxC [.int .i64 a0_0, .int .i64 a0_1, .int .i64 a0_2, .int .i64 a0_3, slC e28 a0_4, slC e72 a0_5, slC e65 a0_6, slC e77 a0_7] 0))), (6, .cell (.c (fnC 108 [boxC [.int .i64 a0_0, .int .i64 a0_1, .int .i64 a0_2, .int .i64 a0_3, slC e28 a0_4, slC e72 a0_5, slC e65 a0_6, slC e77 a0_7] 0, boxC [.bool y1] 0]))), (42, .cell (.c (slC e74 a1_1))), (43, .cell (.c (.int .i64 (a1_1.length : Int)))), (44, .cell (.c (.int .i64 y7))), (65, .cell (.c (.bool true)))]) (Φ := True) 5 [2, 6, 42, 43, 44, 65] (by kernel_rfl) trivial J
                    · have h := cond_f hb gy12; clear gy12
                      refine WQ_bool (T' := [(60, .cell (.c (.bool false))), (2, .cell (.c (boxC [.int .i64 a0_0, .int .i64 a0_1, .int .i64 a0_2, .int .i64 a0_3, slC e28 a0_4, slC e72 a0_5, slC e65 a0_6, slC e77 a0_7] 0))), (6, .cell (.c (fnC 108 [boxC [.int .i64 a0_0, .int .i64 a0_1, .int .i64 a0_2, .int .i64 a0_3, slC e28 a0_4, slC e72 a0_5, slC e65 a0_6, slC e77 a0_7] 0, boxC [.bool y1] 0]))), (8, .cell (.op 3 0 2 0 0)), (42, .cell (.c (slC e74 a1_1))), (43, .cell (.c (.int .i64 (a1_1.length : Int)))), (44, .cell (.c (.int .i64 y7)))]) 60 hb (by kernel_rfl) (by kernel_rfl) ?_
                      refine WQ_exk (n' := 2) (T' := [(2, .cell (.c (boxC [.int .i64 a0_0, .int .i64 a0_1, .int .i64 a0_2, .int .i64 a0_3, slC e28 a0_4, slC e72 a0_5, slC e65 a0_6, slC e77 a0_7] 0))), (6, .cell (.c (fnC 108 [boxC [.int .i64 a0_0, .int .i64 a0_1, .int .i64 a0_2, .int .i64 a0_3, slC e28 a0_4, slC e72 a0_5, slC e65 a0_6, slC e77 a0_7] 0, boxC [.bool y1] 0]))), (42, .cell (.c (slC e74 a1_1))), (43, .cell (.c (.int .i64 (a1_1.length : Int)))), (44, .cell (.c (.int .i64 y7))), (60, .cell (.c (.bool false))), (61, .cell (.op 3 0 2 0 1)), (62, .cell (.c (slC e61 ((a1_1.getD y7.toNat e74.d).2)))), (63, .cell (.c (fnC 108 [boxC [.int .i64 a0_0, .int .i64 a0_1, .int .i64 a0_2, .int .i64 a0_3, slC e28 a0_4, slC e72 a0_5, slC e65 a0_6, slC e77 a0_7] 0, boxC [.bool y1] 0])))]) (Φ := (True)) 3 [2, 6, 42, 43, 44, 60, 61, 62, 63] (by kernel_rfl) trivial ?_
                      obtain ⟨r14, gr14, h⟩ := bind_some h
                      refine WQ_call (f := 110) (all := [.cell (.c (slC e61 ((a1_1.getD y7.toNat e74.d).2))), .cell (.c (fnC 108 [boxC [.int .i64 a0_0, .int .i64 a0_1, .int .i64 a0_2, .int .i64 a0_3, slC e28 a0_4, slC e72 a0_5, slC e65 a0_6, slC e77 a0_7] 0, boxC [.bool y1] 0]))]) (d := some 64) (r := .cell (.c (.bool r14))) (by kernel_rfl) (by kernel_rfl) (by kernel_rfl) Tryd.call110 (pure_args (by kernel_rfl) (p110 L _ 108 2 (fun i => [boxC [.int .i64 a0_0, .int .i64 a0_1, .int .i64 a0_2, .int .i64 a0_3, slC e28 a0_4, slC e72 a0_5, slC e65 a0_6, slC e77 a0_7] 0, boxC [.bool y1] 0].getD i .jk) (fun x0 x1 => s108 L x0 x1 a0_0 a0_1 a0_2 a0_3 a0_4 a0_5 a0_6 a0_7 y1) (fun x0 x1 _ h => pure_args (by kernel_rfl) (p108 L _ _ _ _ _ _ _ _ _ _ _ _ h)) Tryd.call108 _ gr14)) ?_
                      obtain rfl := Option.some.inj h
                      refine WQ_exk (n' := 0) (T' := [(2, .cell (.c (boxC [.int .i64 a0_0, .int .i64 a0_1, .int .i64 a0_2, .int .i64 a0_3, slC e28 a0_4, slC e72 a0_5, slC e65 a0_6, slC e77 a0_7] 0))), (6, .cell (.c (fnC 108 [boxC [.int .i64 a0_0, .int .i64 a0_1, .int .i64 a0_2, .int .i64 a0_3, slC e28 a0_4, slC e72 a0_5, slC e65 a0_6, slC e77 a0_7] 0, boxC [.bool y1] 0]))), (42, .cell (.c (slC e74 a1_1))), (43, .cell (.c (.int .i64 (a1_1.length : Int)))), (44, .cell (.c (.int .i64 y7))), (65, .cell (.c (.bool r14)))]) (Φ := True) 1 [2, 6, 42, 43, 44, 65] (by kernel_rfl) trivial J
                · intro J
                  clear h
                  rcases Bool.eq_false_or_eq_true (decide (((a1_1.getD y7.toNat e74.d).1) ≥ r10)) with hb | hb
                  · have h := cond_t hb gy11; clear gy11
                    refine WQ_bool (T' := [(54, .cell (.c (.bool true))), (2, .cell (.c (boxC [.int .i64 a0_0, .int .i64 a0_1, .int .i64 a0_2, .int .i64 a0_3, slC e28 a0_4, slC e72 a0_5, slC e65 a0_6, slC e77 a0_7] 0))), (6, .cell (.c (fnC 108 [boxC [.int .i64 a0_0, .int .i64 a0_1, .int .i64 a0_2, .int .i64 a0_3, slC e28 a0_4, slC e72 a0_5, slC e65 a0_6, slC e77 a0_7] 0, boxC [.bool y1] 0]))), (8, .cell (.op 3 0 2 0 0)), (42, .cell (.c (slC e74 a1_1))), (43, .cell (.c (.int .i64 (a1_1.length : Int)))), (44, .cell (.c (.int .i64 y7)))]) 54 hb (by kernel_rfl) (by kernel_rfl) ?_
                    obtain rfl := Option.some.inj h
                    refine WQ_exk (n' := 6) (T' := [(2, .cell (.c (boxC [.int .i64 a0_0, .int .i64 a0_1, .int .i64 a0_2, .int .i64 a0_3, slC e28 a0_4, slC e72 a0_5, slC e65 a0_6, slC e77 a0_7] 0))), (6, .cell (.c (fnC 108 [boxC [.int .i64 a0_0, .int .i64 a0_1, .int .i64 a0_2, .int .i64 a0_3, slC e28 a0_4, slC e72 a0_5, slC e65 a0_6, slC e77 a0_7] 0, boxC [.bool y1] 0]))), (8, .cell (.op 3 0 2 0 0)), (42, .cell (.c (slC e74 a1_1))), (43, .cell (.c (.int .i64 (a1_1.length : Int)))), (44, .cell (.c (.int .i64 y7))), (59, .cell (.c (.bool true)))]) (Φ := True) 5 [2, 6, 8, 42, 43, 44, 59] (by kernel_rfl) trivial J
                  · have h := cond_f hb gy11; clear gy11
                    refine WQ_bool (T' := [(54, .cell (.c (.bool false))), (2, .cell (.c (boxC [.int .i64 a0_0, .int .i64 a0_1, .int .i64 a0_2, .int .i64 a0_3, slC e28 a0_4, slC e72 a0_5, slC e65 a0_6, slC e77 a0_7] 0))), (6, .cell (.c (fnC 108 [boxC [.int .i64 a0_0, .int .i64 a0_1, .int .i64 a0_2, .int .i64 a0_3, slC e28 a0_4, slC e72 a0_5, slC e65 a0_6, slC e77 a0_7] 0, boxC [.bool y1] 0]))), (8, .cell (.op 3 0 2 0 0)), (42, .cell (.c (slC e74 a1_1))), (43, .cell (.c (.int .i64 (a1_1.length : Int)))), (44, .cell (.c (.int .i64 y7)))]) 54 hb (by kernel_rfl) (by kernel_rfl) ?_
                    refine WQ_exk (n' := 7) (T' := [(2, .cell (.c (boxC [.int .i64 a0_0, .int .i64 a0_1, .int .i64 a0_2, .int .i64 a0_3, slC e28 a0_4, slC e72 a0_5, slC e65 a0_6, slC e77 a0_7] 0))), (6, .cell (.c (fnC 108 [boxC [.int .i64 a0_0, .int .i64 a0_1, .int .i64 a0_2, .int .i64 a0_3, slC e28 a0_4, slC e72 a0_5, slC e65 a0_6, slC e77 a0_7] 0, boxC [.bool y1] 0]))), (8, .cell (.op 3 0 2 0 0)), (42, .cell (.c (slC e74 a1_1))), (43, .cell (.c (.int .i64 (a1_1.length : Int)))), (44, .cell (.c (.int .i64 y7))), (54, .cell (.c (.bool false))), (55, .cell (.op 3 0 2 0 1)), (56, .cell (.c (slC e61 ((a1_1.getD y7.toNat e74.d).2)))), (57, .cell (.c (.int .i64 (((a1_1.getD y7.toNat e74.d).2).length : Int)))), (58, .cell (.c (.bool (decide ((((a1_1.getD y7.toNat e74.d).2).length : Int) > (8 : Int))))))]) (Φ := (True)) 4 [2, 6, 8, 42, 43, 44, 54, 55, 56, 57, 58] (by kernel_rfl) trivial ?_
                    obtain rfl := Option.some.inj h
                    refine WQ_exk (n' := 6) (T' := [(2, .cell (.c (boxC [.int .i64 a0_0, .int .i64 a0_1, .int .i64 a0_2, .int .i64 a0_3, slC e28 a0_4, slC e72 a0_5, slC e65 a0_6, slC e77 a0_7] 0))), (6, .cell (.c (fnC 108 [boxC [.int .i64 a0_0, .int .i64 a0_1, .int .i64 a0_2, .int .i64 a0_3, slC e28 a0_4, slC e72 a0_5, slC e65 a0_6, slC e77 a0_7] 0, boxC [.bool y1] 0]))), (8, .cell (.op 3 0 2 0 0)), (42, .cell (.c (slC e74 a1_1))), (43, .cell (.c (.int .i64 (a1_1.length : Int)))), (44, .cell (.c (.int .i64 y7))), (59, .cell (.c (.bool (decide ((((a1_1.getD y7.toNat e74.d).2).length : Int) > (8 : Int))))))]) (Φ := True) 1 [2, 6, 8, 42, 43, 44, 59] (by kernel_rfl) trivial J
              · have h := cond_f hb h
                refine W_exit_at 0 (by kernel_rfl) (by kernel_rfl) ?_
                refine thenQ_e ?_
                obtain rfl := Option.some.inj h; refine round_e rfl (fun hb => ?_); subst hb; have h := kb8; dsimp only at h
                refine blockQ_hit ?_
                obtain rfl := Option.some.inj h
                exact thenQ_n ⟨_, rfl, stps_ok [.keep [], .take 3] (by kernel_rfl)⟩
        · intro J
          clear h
          rcases Bool.eq_false_or_eq_true y3 with hb | hb
          · have h := cond_t hb gy4; clear gy4
            refine WO_ent (ent_bool (T' := [(31, .cell (.c (.bool true))), (2, .cell (.op 0 0 8 0 0)), (3, .cell (.op 1 0 2 0 0)), (5, .cell (.op 2 0 1 0 0))]) 31 hb (by kernel_rfl) (by kernel_rfl)) ?_
            obtain rfl := Option.some.inj h
            refine WO_exk (σ' := [some (.lit 0 27 [.c (.int .i64 a0_0), .c (.int .i64 a0_1), .c (.int .i64 a0_2), .c (.int .i64 a0_3), .c (slC e28 a0_4), .c (slC e72 a0_5), .c (slC e65 a0_6), .c (slC e77 a0_7)]), some (.lit 0 72 [.c (.int .u8 a1_0), .c (slC e74 a1_1)]), some (.lit 0 4 [.c (.bool y1)])]) (T' := [(2, .cell (.op 0 0 8 0 0)), (3, .cell (.op 1 0 2 0 0)), (5, .cell (.op 2 0 1 0 0)), (39, .cell (.c (.bool true)))]) (Φ := True) 8 [2, 3, 5, 39] (by kernel_rfl) trivial J
          · have h := cond_f hb gy4; clear gy4
            refine WO_ent (ent_bool (T' := [(31, .cell (.c (.bool false))), (2, .cell (.op 0 0 8 0 0)), (3, .cell (.op 1 0 2 0 0)), (5, .cell (.op 2 0 1 0 0))]) 31 hb (by kernel_rfl) (by kernel_rfl)) ?_
            refine WO_exk (σ' := [some (.lit 0 27 [.c (.int .i64 a0_0), .c (.int .i64 a0_1), .c (.int .i64 a0_2), .c (.int .i64 a0_3), .c (slC e28 a0_4), .c (slC e72 a0_5), .c (slC e65 a0_6), .c (slC e77 a0_7)]), some (.lit 0 72 [.c (.int .u8 a1_0), .c (slC e74 a1_1)]), some (.lit 0 4 [.c (.bool y1)])]) (T' := [(2, .cell (.op 0 0 8 0 0)), (3, .cell (.op 1 0 2 0 0)), (5, .cell (.op 2 0 1 0 0)), (31, .cell (.c (.bool false))), (33, .cell (.c (.bool y1)))]) (Φ := (True)) 2 [2, 3, 5, 31, 33] (by kernel_rfl) trivial ?_
            obtain ⟨y15, gy15, h⟩ := bind_some h
            refine WO_join 22 [some (.lit 0 27 [.c (.int .i64 a0_0), .c (.int .i64 a0_1), .c (.int .i64 a0_2), .c (.int .i64 a0_3), .c (slC e28 a0_4), .c (slC e72 a0_5), .c (slC e65 a0_6), .c (slC e77 a0_7)]), some (.lit 0 72 [.c (.int .u8 a1_0), .c (slC e74 a1_1)]), some (.lit 0 4 [.c (.bool y1)])] [(2, .cell (.op 0 0 8 0 0)), (3, .cell (.op 1 0 2 0 0)), (5, .cell (.op 2 0 1 0 0)), (31, .cell (.c (.bool false))), (38, .cell (.c (.bool y15)))] ?_ ?_
            · clear gy15
              obtain rfl := Option.some.inj h
              refine WO_exk (σ' := [some (.lit 0 27 [.c (.int .i64 a0_0), .c (.int .i64 a0_1), .c (.int .i64 a0_2), .c (.int .i64 a0_3), .c (slC e28 a0_4), .c (slC e72 a0_5), .c (slC e65 a0_6), .c (slC e77 a0_7)]), some (.lit 0 72 [.c (.int .u8 a1_0), .c (slC e74 a1_1)]), some (.lit 0 4 [.c (.bool y1)])]) (T' := [(2, .cell (.op 0 0 8 0 0)), (3, .cell (.op 1 0 2 0 0)), (5, .cell (.op 2 0 1 0 0)), (39, .cell (.c (.bool y15)))]) (Φ := True) 1 [2, 3, 5, 39] (by kernel_rfl) trivial J
            · intro J
              clear h
              rcases Bool.eq_false_or_eq_true y1 with hb | hb
              · have h := cond_t hb gy15; clear gy15
                refine WO_ent (ent_bool (T' := [(33, .cell (.c (.bool true))), (2, .cell (.op 0 0 8 0 0)), (3, .cell (.op 1 0 2 0 0)), (5, .cell (.op 2 0 1 0 0)), (31, .cell (.c (.bool false)))]) 33 hb (by kernel_rfl) (by kernel_rfl)) ?_
                refine WO_exk (σ' := [some (.lit 0 27 [.c (.int .i64 a0_0), .c (.int .i64 a0_1), .c (.int .i64 a0_2), .c (.int .i64 a0_3), .c (slC e28 a0_4), .c (slC e72 a0_5), .c (slC e65 a0_6), .c (slC e77 a0_7)]), some (.lit 0 72 [.c (.int .u8 a1_0), .c (slC e74 a1_1)]), some (.lit 0 4 [.c (.bool y1)])]) (T' := [(2, .cell (.op 0 0 8 0 0)), (3, .cell (.op 1 0 2 0 0)), (5, .cell (.op 2 0 1 0 0)), (31, .cell (.c (.bool false))), (33, .cell (.c (.bool true))), (35, .cell (.c (slC e74 a1_1)))]) (Φ := (True)) 2 [2, 3, 5, 31, 33, 35] (by kernel_rfl) trivial ?_
                obtain ⟨r16, gr16, h⟩ := bind_some h
                refine WO_call (f := 66) (all := [.cell (.c (slC e74 a1_1))]) (d := some 36) (r := .cell (.c (.int .i64 r16))) (by kernel_rfl) (by kernel_rfl) (by kernel_rfl) Tryd.call66 (p66 L _ _ gr16) ?_
                refine WO_exk (σ' := [some (.lit 0 27 [.c (.int .i64 a0_0), .c (.int .i64 a0_1), .c (.int .i64 a0_2), .c (.int .i64 a0_3), .c (slC e28 a0_4), .c (slC e72 a0_5), .c (slC e65 a0_6), .c (slC e77 a0_7)]), some (.lit 0 72 [.c (.int .u8 a1_0), .c (slC e74 a1_1)]), some (.lit 0 4 [.c (.bool y1)])]) (T' := [(2, .cell (.op 0 0 8 0 0)), (3, .cell (.op 1 0 2 0 0)), (5, .cell (.op 2 0 1 0 0)), (31, .cell (.c (.bool false))), (33, .cell (.c (.bool true))), (37, .cell (.c (.bool (decide (r16 > (1 : Int))))))]) (Φ := (True)) 1 [2, 3, 5, 31, 33, 37] (by kernel_rfl) trivial ?_
                obtain rfl := Option.some.inj h
                refine WO_exk (σ' := [some (.lit 0 27 [.c (.int .i64 a0_0), .c (.int .i64 a0_1), .c (.int .i64 a0_2), .c (.int .i64 a0_3), .c (slC e28 a0_4), .c (slC e72 a0_5), .c (slC e65 a0_6), .c (slC e77 a0_7)]), some (.lit 0 72 [.c (.int .u8 a1_0), .c (slC e74 a1_1)]), some (.lit 0 4 [.c (.bool y1)])]) (T' := [(2, .cell (.op 0 0 8 0 0)), (3, .cell (.op 1 0 2 0 0)), (5, .cell (.op 2 0 1 0 0)), (31, .cell (.c (.bool false))), (38, .cell (.c (.bool (decide (r16 > (1 : Int))))))]) (Φ := True) 1 [2, 3, 5, 31, 38] (by kernel_rfl) trivial J
              · have h := cond_f hb gy15; clear gy15
                refine WO_ent (ent_bool (T' := [(33, .cell (.c (.bool false))), (2, .cell (.op 0 0 8 0 0)), (3, .cell (.op 1 0 2 0 0)), (5, .cell (.op 2 0 1 0 0)), (31, .cell (.c (.bool false)))]) 33 hb (by kernel_rfl) (by kernel_rfl)) ?_
                obtain rfl := Option.some.inj h
                refine WO_exk (σ' := [some (.lit 0 27 [.c (.int .i64 a0_0), .c (.int .i64 a0_1), .c (.int .i64 a0_2), .c (.int .i64 a0_3), .c (slC e28 a0_4), .c (slC e72 a0_5), .c (slC e65 a0_6), .c (slC e77 a0_7)]), some (.lit 0 72 [.c (.int .u8 a1_0), .c (slC e74 a1_1)]), some (.lit 0 4 [.c (.bool y1)])]) (T' := [(2, .cell (.op 0 0 8 0 0)), (3, .cell (.op 1 0 2 0 0)), (5, .cell (.op 2 0 1 0 0)), (31, .cell (.c (.bool false))), (38, .cell (.c (.bool false)))]) (Φ := True) 5 [2, 3, 5, 31, 38] (by kernel_rfl) trivial J
      · intro J
        clear h
        rcases Bool.eq_false_or_eq_true y2 with hb | hb
        · have h := cond_t hb gy3; clear gy3
          refine WO_ent (ent_bool (T' := [(25, .cell (.c (.bool true))), (2, .cell (.op 0 0 8 0 0)), (3, .cell (.op 1 0 2 0 0)), (5, .cell (.op 2 0 1 0 0))]) 25 hb (by kernel_rfl) (by kernel_rfl)) ?_
          obtain rfl := Option.some.inj h
          refine WO_exk (σ' := [some (.lit 0 27 [.c (.int .i64 a0_0), .c (.int .i64 a0_1), .c (.int .i64 a0_2), .c (.int .i64 a0_3), .c (slC e28 a0_4), .c (slC e72 a0_5), .c (slC e65 a0_6), .c (slC e77 a0_7)]), some (.lit 0 72 [.c (.int .u8 a1_0), .c (slC e74 a1_1)]), some (.lit 0 4 [.c (.bool y1)])]) (T' := [(2, .cell (.op 0 0 8 0 0)), (3, .cell (.op 1 0 2 0 0)), (5, .cell (.op 2 0 1 0 0)), (30, .cell (.c (.bool true)))]) (Φ := True) 5 [2, 3, 5, 30] (by kernel_rfl) trivial J
        · have h := cond_f hb gy3; clear gy3
          refine WO_ent (ent_bool (T' := [(25, .cell (.c (.bool false))), (2, .cell (.op 0 0 8 0 0)), (3, .cell (.op 1 0 2 0 0)), (5, .cell (.op 2 0 1 0 0))]) 25 hb (by kernel_rfl) (by kernel_rfl)) ?_
          refine WO_exk (σ' := [some (.lit 0 27 [.c (.int .i64 a0_0), .c (.int .i64 a0_1), .c (.int .i64 a0_2), .c (.int .i64 a0_3), .c (slC e28 a0_4), .c (slC e72 a0_5), .c (slC e65 a0_6), .c (slC e77 a0_7)]), some (.lit 0 72 [.c (.int .u8 a1_0), .c (slC e74 a1_1)]), some (.lit 0 4 [.c (.bool y1)])]) (T' := [(2, .cell (.op 0 0 8 0 0)), (3, .cell (.op 1 0 2 0 0)), (5, .cell (.op 2 0 1 0 0)), (25, .cell (.c (.bool false))), (29, .cell (.c (.bool (decide ((a1_1.length : Int) > (64 : Int))))))]) (Φ := (True)) 4 [2, 3, 5, 25, 29] (by kernel_rfl) trivial ?_
          obtain rfl := Option.some.inj h
          refine WO_exk (σ' := [some (.lit 0 27 [.c (.int .i64 a0_0), .c (.int .i64 a0_1), .c (.int .i64 a0_2), .c (.int .i64 a0_3), .c (slC e28 a0_4), .c (slC e72 a0_5), .c (slC e65 a0_6), .c (slC e77 a0_7)]), some (.lit 0 72 [.c (.int .u8 a1_0), .c (slC e74 a1_1)]), some (.lit 0 4 [.c (.bool y1)])]) (T' := [(2, .cell (.op 0 0 8 0 0)), (3, .cell (.op 1 0 2 0 0)), (5, .cell (.op 2 0 1 0 0)), (30, .cell (.c (.bool (decide ((a1_1.length : Int) > (64 : Int))))))]) (Φ := True) 1 [2, 3, 5, 30] (by kernel_rfl) trivial J
    · intro J
      clear h
      rcases Bool.eq_false_or_eq_true (decide (a1_0 < (1 : Int))) with hb | hb
      · have h := cond_t hb gy2; clear gy2
        refine WO_ent (ent_bool (T' := [(20, .cell (.c (.bool true))), (2, .cell (.op 0 0 8 0 0)), (3, .cell (.op 1 0 2 0 0)), (5, .cell (.op 2 0 1 0 0))]) 20 hb (by kernel_rfl) (by kernel_rfl)) ?_
        obtain rfl := Option.some.inj h
        refine WO_exk (σ' := [some (.lit 0 27 [.c (.int .i64 a0_0), .c (.int .i64 a0_1), .c (.int .i64 a0_2), .c (.int .i64 a0_3), .c (slC e28 a0_4), .c (slC e72 a0_5), .c (slC e65 a0_6), .c (slC e77 a0_7)]), some (.lit 0 72 [.c (.int .u8 a1_0), .c (slC e74 a1_1)]), some (.lit 0 4 [.c (.bool y1)])]) (T' := [(2, .cell (.op 0 0 8 0 0)), (3, .cell (.op 1 0 2 0 0)), (5, .cell (.op 2 0 1 0 0)), (24, .cell (.c (.bool true)))]) (Φ := True) 4 [2, 3, 5, 24] (by kernel_rfl) trivial J
      · have h := cond_f hb gy2; clear gy2
        refine WO_ent (ent_bool (T' := [(20, .cell (.c (.bool false))), (2, .cell (.op 0 0 8 0 0)), (3, .cell (.op 1 0 2 0 0)), (5, .cell (.op 2 0 1 0 0))]) 20 hb (by kernel_rfl) (by kernel_rfl)) ?_
        refine WO_exk (σ' := [some (.lit 0 27 [.c (.int .i64 a0_0), .c (.int .i64 a0_1), .c (.int .i64 a0_2), .c (.int .i64 a0_3), .c (slC e28 a0_4), .c (slC e72 a0_5), .c (slC e65 a0_6), .c (slC e77 a0_7)]), some (.lit 0 72 [.c (.int .u8 a1_0), .c (slC e74 a1_1)]), some (.lit 0 4 [.c (.bool y1)])]) (T' := [(2, .cell (.op 0 0 8 0 0)), (3, .cell (.op 1 0 2 0 0)), (5, .cell (.op 2 0 1 0 0)), (20, .cell (.c (.bool false))), (23, .cell (.c (.bool (decide (a1_0 > (4 : Int))))))]) (Φ := (True)) 3 [2, 3, 5, 20, 23] (by kernel_rfl) trivial ?_
        obtain rfl := Option.some.inj h
        refine WO_exk (σ' := [some (.lit 0 27 [.c (.int .i64 a0_0), .c (.int .i64 a0_1), .c (.int .i64 a0_2), .c (.int .i64 a0_3), .c (slC e28 a0_4), .c (slC e72 a0_5), .c (slC e65 a0_6), .c (slC e77 a0_7)]), some (.lit 0 72 [.c (.int .u8 a1_0), .c (slC e74 a1_1)]), some (.lit 0 4 [.c (.bool y1)])]) (T' := [(2, .cell (.op 0 0 8 0 0)), (3, .cell (.op 1 0 2 0 0)), (5, .cell (.op 2 0 1 0 0)), (24, .cell (.c (.bool (decide (a1_0 > (4 : Int))))))]) (Φ := True) 1 [2, 3, 5, 24] (by kernel_rfl) trivial J
  · intro J
    clear h
    rcases Bool.eq_false_or_eq_true (decide (a1_0 = (3 : Int))) with hb | hb
    · have h := cond_t hb gy1; clear gy1
      refine WO_ent (ent_bool (T' := [(12, .cell (.c (.bool true))), (2, .cell (.op 0 0 8 0 0)), (3, .cell (.op 1 0 2 0 0))]) 12 hb (by kernel_rfl) (by kernel_rfl)) ?_
      obtain rfl := Option.some.inj h
      refine WO_exk (σ' := [some (.lit 0 27 [.c (.int .i64 a0_0), .c (.int .i64 a0_1), .c (.int .i64 a0_2), .c (.int .i64 a0_3), .c (slC e28 a0_4), .c (slC e72 a0_5), .c (slC e65 a0_6), .c (slC e77 a0_7)]), some (.lit 0 72 [.c (.int .u8 a1_0), .c (slC e74 a1_1)])]) (T' := [(2, .cell (.op 0 0 8 0 0)), (3, .cell (.op 1 0 2 0 0)), (16, .cell (.c (.bool true)))]) (Φ := True) 4 [2, 3, 16] (by kernel_rfl) trivial J
    · have h := cond_f hb gy1; clear gy1
      refine WO_ent (ent_bool (T' := [(12, .cell (.c (.bool false))), (2, .cell (.op 0 0 8 0 0)), (3, .cell (.op 1 0 2 0 0))]) 12 hb (by kernel_rfl) (by kernel_rfl)) ?_
      refine WO_exk (σ' := [some (.lit 0 27 [.c (.int .i64 a0_0), .c (.int .i64 a0_1), .c (.int .i64 a0_2), .c (.int .i64 a0_3), .c (slC e28 a0_4), .c (slC e72 a0_5), .c (slC e65 a0_6), .c (slC e77 a0_7)]), some (.lit 0 72 [.c (.int .u8 a1_0), .c (slC e74 a1_1)])]) (T' := [(2, .cell (.op 0 0 8 0 0)), (3, .cell (.op 1 0 2 0 0)), (12, .cell (.c (.bool false))), (15, .cell (.c (.bool (decide (a1_0 = (4 : Int))))))]) (Φ := (True)) 3 [2, 3, 12, 15] (by kernel_rfl) trivial ?_
      obtain rfl := Option.some.inj h
      refine WO_exk (σ' := [some (.lit 0 27 [.c (.int .i64 a0_0), .c (.int .i64 a0_1), .c (.int .i64 a0_2), .c (.int .i64 a0_3), .c (slC e28 a0_4), .c (slC e72 a0_5), .c (slC e65 a0_6), .c (slC e77 a0_7)]), some (.lit 0 72 [.c (.int .u8 a1_0), .c (slC e74 a1_1)])]) (T' := [(2, .cell (.op 0 0 8 0 0)), (3, .cell (.op 1 0 2 0 0)), (16, .cell (.c (.bool (decide (a1_0 = (4 : Int))))))]) (Φ := True) 1 [2, 3, 16] (by kernel_rfl) trivial J

/- slices.Grow[[][]attestor/api.Var,[]attestor/api.Var] -/
theorem q103 (n : Int) (h0 : 0 ≤ n) (hb : n * 24 ≤ 140737488355328) (hn : n ≤ 140737488355328) : Fresh X 103 [.cell (.c .nsl), .cell (.c (.int .i64 n))] 62 1 0 (fun i j => (e62.row (([] : List (List (Int × Int))).getD i e62.d)).getD j .jk) := by
  refine Fresh_of_W (c := cd Tryd.f103 []) Tryd.func103 (by kernel_rfl) (N := 27) (by kernel_rfl) (Nat.le_of_ble_eq_true (by kernel_rfl)) ?_
  refine W_seq_at (by kernel_rfl) ?_
  refine W_region_at (by kernel_rfl) ?_
  refine WO_fin (σ' := []) (T' := [(0, .cell (.c .nsl)), (1, .cell (.c (.int .i64 n)))]) (Φ := True) 1 [0, 1] (by kernel_rfl) trivial (by kernel_rfl) ?_
  refine thenQ_n ?_
  refine W_seq_at (by kernel_rfl) ?_
  refine W_seq_at (by kernel_rfl) ?_
  refine W_region_at (by kernel_rfl) ?_
  refine WO_fin (σ' := []) (T' := [(0, .cell (.c .nsl)), (1, .cell (.c (.int .i64 n))), (6, .cell (.c (.bool (decide (n < (0 : Int))))))]) (Φ := True) 2 [0, 1, 6] (by kernel_rfl) trivial (by kernel_rfl) ?_
  refine thenQ_n ?_
  refine W_cond_at (b := decide (n < (0 : Int))) (by kernel_rfl) (fun hb => ?_) (fun hb => ?_)
  · exact absurd (of_decide_eq_true hb) (by omega)
  · refine W_skip_at (by kernel_rfl) ?_
    refine thenQ_n ?_
    refine W_seq_at (by kernel_rfl) ?_
    refine W_seq_at (by kernel_rfl) ?_
    refine W_region_at (by kernel_rfl) ?_
    refine WO_exk (σ' := []) (T' := [(0, .cell (.c .nsl)), (8, .cell (.c (.int .i64 n))), (9, .cell (.c .nsl))]) (Φ := True) 2 [0, 8, 9] (by kernel_rfl) trivial ?_
    refine WO_capnil (d := some 10) (by kernel_rfl) ?_
    refine WO_fin (σ' := []) (T' := [(0, .cell (.c .nsl)), (1, .cell (.c (.int .i64 (n - ((0 : Int) - (0 : Int))))))]) (Φ := inR .i64 ((0 : Int) - (0 : Int)) ∧ inR .i64 (n - ((0 : Int) - (0 : Int))) ∧ True) 5 [0, 1] (by kernel_rfl) ⟨by simp [inR], ⟨by omega, by omega⟩, trivial⟩ (by kernel_rfl) ?_
    refine thenQ_n ?_
    refine W_seq_at (by kernel_rfl) ?_
    refine W_region_at (by kernel_rfl) ?_
    refine WO_fin (σ' := []) (T' := [(0, .cell (.c .nsl)), (1, .cell (.c (.int .i64 (n - ((0 : Int) - (0 : Int)))))), (16, .cell (.c (.bool (decide ((n - ((0 : Int) - (0 : Int))) > (0 : Int))))))]) (Φ := True) 2 [0, 1, 16] (by kernel_rfl) trivial (by kernel_rfl) ?_
    refine thenQ_n ?_
    refine W_cond_at (b := decide ((n - ((0 : Int) - (0 : Int))) > (0 : Int))) (by kernel_rfl) (fun hb => ?_) (fun hb => ?_)
    · have hpos := of_decide_eq_true hb
      refine W_region_at (by kernel_rfl) ?_
      refine WO_exk (σ' := []) (T' := [(0, .cell (.c .nsl)), (1, .cell (.c (.int .i64 (n - ((0 : Int) - (0 : Int)))))), (17, .cell (.c .nsl)), (18, .cell (.c .nsl))]) (Φ := True) 2 [0, 1, 17, 18] (by kernel_rfl) trivial ?_
      refine WO_capnil (d := some 19) (by kernel_rfl) ?_
      refine WO_slicenil (d := some 20) (by kernel_rfl) ?_
      refine WO_exk (σ' := []) (T' := [(0, .cell (.c .nsl)), (20, .cell (.c .nsl)), (21, .cell (.c (.int .i64 (n - ((0 : Int) - (0 : Int))))))]) (Φ := True) 1 [0, 20, 21] (by kernel_rfl) trivial ?_
      refine WO_appz (d := some 22) (e := 62) (i := (⟨.slice 61, 1, 24, [.nsl]⟩ : TI)) (n := (n - ((0 : Int) - (0 : Int)))) (by kernel_rfl) hpos (by show (n - ((0 : Int) - (0 : Int))) * 24 ≤ _; omega) (by omega) ?_
      refine WO_exk (σ' := [some (.rows 0 62 1 (n - ((0 : Int) - (0 : Int))).toNat fun _ j => (⟨.slice 61, 1, 24, [.nsl]⟩ : TI).zero.getD j .jk)]) (T' := [(22, .cell (.sl 0 0 (n - ((0 : Int) - (0 : Int))).toNat)), (24, .cell (.c (.int .i64 (0 : Int))))]) (Φ := True) 2 [22, 24] (by kernel_rfl) trivial ?_
      refine WO_cut0 (d := some 25) (b := 0) (ver := 0) (by kernel_rfl) rfl ?_
      refine WO_fin (σ' := [some (.rows 1 62 1 0 fun _ j => (⟨.slice 61, 1, 24, [.nsl]⟩ : TI).zero.getD j .jk)]) (T' := [(0, .cell (.sl 0 1 0))]) (Φ := True) 1 [0] (by kernel_rfl) trivial (by kernel_rfl) ?_
      refine thenQ_n ?_
      refine W_ent (ent_rows (σ' := [some (.rows 1 62 1 0 (fun i j => (e62.row (([] : List (List (Int × Int))).getD i e62.d)).getD j .jk))]) (b := 0) rfl (fun i hi => absurd hi (Nat.not_lt_zero _)) rfl) ?_
      refine W_seq_at (by kernel_rfl) ?_
      refine W_region_at (by kernel_rfl) ?_
      refine WO_fin (σ' := [some (.rows 1 62 1 0 (fun i j => (e62.row (([] : List (List (Int × Int))).getD i e62.d)).getD j .jk))]) (T' := [(4, .cell (.sl 0 1 0))]) (Φ := True) 2 [4] (by kernel_rfl) trivial (by kernel_rfl) ?_
      refine thenQ_n ?_
      refine W_ret_at (by kernel_rfl) ?_
      exact ⟨.inl rfl, 4, 0, 1, by kernel_rfl, by kernel_rfl, by kernel_rfl⟩
    · refine W_skip_at (by kernel_rfl) ?_
      refine thenQ_n ?_
      refine W_ent (σ' := [some (.rows 0 62 1 0 (fun i j => (e62.row (([] : List (List (Int × Int))).getD i e62.d)).getD j .jk))]) (T' := [(0, .cell (.sl 0 0 0)), (1, .cell (.c (.int .i64 (n - ((0 : Int) - (0 : Int)))))), (16, .cell (.c (.bool (decide ((n - ((0 : Int) - (0 : Int))) > (0 : Int))))))]) (stps_ok [.own 0 62 1 (fun i j => (e62.row (([] : List (List (Int × Int))).getD i e62.d)).getD j .jk)] (by kernel_rfl)) ?_
      refine W_seq_at (by kernel_rfl) ?_
      refine W_region_at (by kernel_rfl) ?_
      refine WO_fin (σ' := [some (.rows 0 62 1 0 (fun i j => (e62.row (([] : List (List (Int × Int))).getD i e62.d)).getD j .jk))]) (T' := [(4, .cell (.sl 0 0 0))]) (Φ := True) 2 [4] (by kernel_rfl) trivial (by kernel_rfl) ?_
      refine thenQ_n ?_
      refine W_ret_at (by kernel_rfl) ?_
      exact ⟨.inl rfl, 4, 0, 0, by kernel_rfl, by kernel_rfl, by kernel_rfl⟩

/- slices.Concat[[][]api.Var,[]api.Var] -/
def s56_0 (L : LP) (a0 : (List (List (List (Int × Int))))) (y4 : (Int × (List (List (Int × Int))))) : Option ((Int × (List (List (Int × Int)))) ⊕ (List (List (Int × Int)))) :=
  (bif (decide (y4.1 < (a0.length : Int))) then
  (ck (0 ≤ y4.1 ∧ y4.1 < (a0.length : Int))).bind fun _ =>
  (ck ((y4.2.length + (a0.getD y4.1.toNat e63.d).length) * 24 ≤ 140737488355328 ∧ y4.2.length + (a0.getD y4.1.toNat e63.d).length ≤ 140737488355328)).bind fun _ =>
  (ck (inR .i64 (y4.1 + (1 : Int)))).bind fun _ =>
  some (.inl ((y4.1 + (1 : Int)), (y4.2 ++ (a0.getD y4.1.toNat e63.d))))
  else some (.inr y4.2))
def s56_1 (L : LP) (a0 : (List (List (List (Int × Int))))) (y9 : (Int × Int)) : Option ((Int × Int) ⊕ Int) :=
  (bif (decide (y9.2 < (a0.length : Int))) then
  ((ck (0 ≤ y9.2 ∧ y9.2 < (a0.length : Int))).bind fun _ =>
  (ck (inR .i64 (y9.1 + ((a0.getD y9.2.toNat e63.d).length : Int)))).bind fun _ =>
  (bif (decide ((y9.1 + ((a0.getD y9.2.toNat e63.d).length : Int)) < (0 : Int))) then
  none
  else some ())).bind fun (y11 : Unit) =>
  (ck (inR .i64 (y9.2 + (1 : Int)))).bind fun _ =>
  some (.inl ((y9.1 + ((a0.getD y9.2.toNat e63.d).length : Int)), (y9.2 + (1 : Int))))
  else some (.inr y9.1))
def s56 (L : LP) (a0 : (List (List (List (Int × Int))))) : Option (List (List (Int × Int))) :=
  ((L.run (s56_1 L a0) ((0 : Int), (0 : Int))).bind (fun (v : Int) => some v)).bind fun (y1 : Int) =>
  (ck (0 ≤ y1 ∧ y1 * 24 ≤ 140737488355328 ∧ y1 ≤ 140737488355328)).bind fun _ =>
  ((L.run (s56_0 L a0) ((0 : Int), ([] : List (List (Int × Int))))).bind (fun (v : (List (List (Int × Int)))) => some v)).bind fun (y3 : (List (List (Int × Int)))) =>
  some y3
theorem p56 (L : LP) (a0 : (List (List (List (Int × Int))))) (r : (List (List (Int × Int)))) (h : s56 L a0 = some r) : Pure X 56 [.cell (.c (slC e63 a0))] (.cell (.c (slC e62 r))) := by
  refine Pure_of_W (c := cd Tryd.f56 []) Tryd.func56 (by kernel_rfl) (N := 36) (by kernel_rfl) (Nat.le_of_ble_eq_true (by kernel_rfl)) ?_
  unfold s56 at h
  refine W_seq_at (by kernel_rfl) ?_
  refine W_region_at (by kernel_rfl) ?_
  refine WO_fin (σ' := []) (T' := [(0, .cell (.c (slC e63 a0)))]) (Φ := (True)) 1 [0] (by kernel_rfl) trivial (by kernel_rfl) ?_
  refine thenQ_n ?_
  refine W_seq_at (by kernel_rfl) ?_
  refine W_region_at (by kernel_rfl) ?_
  refine WO_fin (σ' := []) (T' := [(0, .cell (.c (slC e63 a0))), (3, .cell (.c (.int .i64 (0 : Int))))]) (Φ := (True)) 1 [0, 3] (by kernel_rfl) trivial (by kernel_rfl) ?_
  refine thenQ_n ?_
  obtain ⟨y1, gy1, ky1⟩ := bind_some h
  refine W_cut (by kernel_rfl) [] [(0, .cell (.c (slC e63 a0))), (3, .cell (.c (.int .i64 y1)))] ?_ ?_
  · have h := ky1; clear gy1 ky1
    refine W_seq_at (by kernel_rfl) ?_
    refine W_region_at (by kernel_rfl) ?_
    refine WO_exk (σ' := []) (T' := [(0, .cell (.c (slC e63 a0))), (23, .cell (.c (.int .i64 y1)))]) (Φ := (True)) 1 [0, 23] (by kernel_rfl) trivial ?_
    obtain ⟨c2, h⟩ := ck_bind h
    refine WO_fresh (f := 103) (all := [.cell (.c (.nsl)), .cell (.c (.int .i64 y1))]) (d := some 24) (by kernel_rfl) (by kernel_rfl) Tryd.call103 (q103 y1 c2.1 c2.2.1 c2.2.2) ?_
    refine WO_fin (σ' := [some (rwB e62 0 62 ([] : List (List (Int × Int))))]) (T' := [(0, .cell (.c (slC e63 a0))), (6, .cell (.sl 0 0 0))]) (Φ := (True)) 1 [0, 6] (by kernel_rfl) trivial (by kernel_rfl) ?_
    refine thenQ_n ?_
    obtain ⟨y3, gy3, ky3⟩ := bind_some h
    refine W_cut (by kernel_rfl) [some (rwB e62 0 62 y3)] [(6, .cell (.sl 0 0 y3.length))] ?_ ?_
    · have h := ky3; clear gy3 ky3
      refine W_seq_at (by kernel_rfl) ?_
      refine W_region_at (by kernel_rfl) ?_
      refine WO_fin (σ' := [some (rwB e62 0 62 y3)]) (T' := [(2, .cell (.sl 0 0 y3.length))]) (Φ := (True)) 2 [2] (by kernel_rfl) trivial (by kernel_rfl) ?_
      refine thenQ_n ?_
      refine W_ret_at (by kernel_rfl) ?_
      obtain rfl := Option.some.inj h
      exact qret [.cell (.sl 0 0 y3.length)] (by kernel_rfl) (by kernel_rfl) ([]) (by kernel_rfl)
    · have h := gy3; clear gy3 ky3
      refine W_seq_at (by kernel_rfl) ?_
      refine W_region_at (by kernel_rfl) ?_
      refine WO_fin (σ' := [some (rwB e62 0 62 ([] : List (List (Int × Int))))]) (T' := [(6, .cell (.sl 0 0 0)), (25, .cell (.c (slC e63 a0))), (26, .cell (.c (.int .i64 (a0.length : Int)))), (27, .cell (.c (.int .i64 (0 : Int))))]) (Φ := (True)) 3 [6, 25, 26, 27] (by kernel_rfl) trivial (by kernel_rfl) ?_
      refine thenQ_n ?_
      refine W_block_at 2 (by kernel_rfl) (by kernel_rfl) ?_
      obtain ⟨b5, gb5, kb5⟩ := bind_some h
      refine W_loop_at (S := fun (y4 : (Int × (List (List (Int × Int))))) => ([some (rwB e62 0 62 y4.2)], [(6, .cell (.sl 0 0 y4.2.length)), (25, .cell (.c (slC e63 a0))), (26, .cell (.c (.int .i64 (a0.length : Int)))), (27, .cell (.c (.int .i64 y4.1)))])) (step := _) (x0 := ((0 : Int), ([] : List (List (Int × Int))))) (b := b5) (L.ok _ _ _ gb5) (by kernel_rfl) (stps_ok [.keep [6, 25, 26, 27], .take 1, .ver0 0] (by kernel_rfl)) ?_
      clear gb5 h; intro y4 o h; unfold s56_0 at h
      refine W_seq_at (by kernel_rfl) ?_
      refine W_region_at (by kernel_rfl) ?_
      refine WO_fin (σ' := [some (rwB e62 0 62 y4.2)]) (T' := [(6, .cell (.sl 0 0 y4.2.length)), (25, .cell (.c (slC e63 a0))), (26, .cell (.c (.int .i64 (a0.length : Int)))), (27, .cell (.c (.int .i64 y4.1))), (28, .cell (.c (.bool (decide (y4.1 < (a0.length : Int))))))]) (Φ := (True)) 1 [6, 25, 26, 27, 28] (by kernel_rfl) trivial (by kernel_rfl) ?_
      refine thenQ_n ?_
      refine W_seq_at (by kernel_rfl) ?_
      refine W_cond_at (b := (decide (y4.1 < (a0.length : Int)))) (by kernel_rfl) (fun hb => ?_) (fun hb => ?_)
      · have h := cond_t hb h
        refine W_skip_at (by kernel_rfl) ?_
        refine thenQ_n ?_
        refine W_seq_at (by kernel_rfl) ?_
        refine W_block_at 3 (by kernel_rfl) (by kernel_rfl) ?_
        refine W_seq_at (by kernel_rfl) ?_
        refine W_region_at (by kernel_rfl) ?_
        obtain ⟨c6, h⟩ := ck_bind h
        refine WO_fin (σ' := [some (rwB e62 0 62 y4.2)]) (T' := [(6, .cell (.sl 0 0 y4.2.length)), (8, .cell (.c (slC e62 (a0.getD y4.1.toNat e63.d)))), (25, .cell (.c (slC e63 a0))), (26, .cell (.c (.int .i64 (a0.length : Int)))), (27, .cell (.c (.int .i64 y4.1)))]) (Φ := (0 ≤ y4.1 ∧ y4.1 < (a0.length : Int)) ∧ (True)) 3 [6, 8, 25, 26, 27] (by kernel_rfl) ⟨c6, trivial⟩ (by kernel_rfl) ?_
        refine thenQ_n ?_
        refine W_region_at (by kernel_rfl) ?_
        refine WO_exk (σ' := [some (rwB e62 0 62 y4.2)]) (T' := [(25, .cell (.c (slC e63 a0))), (26, .cell (.c (.int .i64 (a0.length : Int)))), (27, .cell (.c (.int .i64 y4.1))), (31, .cell (.sl 0 0 y4.2.length)), (32, .cell (.c (slC e62 (a0.getD y4.1.toNat e63.d))))]) (Φ := (True)) 2 [25, 26, 27, 31, 32] (by kernel_rfl) trivial ?_
        obtain ⟨c7, h⟩ := ck_bind h
        refine WO_app e62 y4.2 (a0.getD y4.1.toNat e63.d) (b := 0) (ver := 0) (e := 62) (d := 33) (row2 := fun i j => (e62.row ((a0.getD y4.1.toNat e63.d).getD i e62.d)).getD j .jk) (Φ := (0 = 0 ∧ (y4.2.length + (a0.getD y4.1.toNat e63.d).length) * 24 ≤ 140737488355328 ∧ y4.2.length + (a0.getD y4.1.toNat e63.d).length ≤ 140737488355328) ∧ True) (σ' := [some (rwB e62 1 62 (y4.2 ++ (a0.getD y4.1.toNat e63.d)))]) (T' := [(33, .cell (.sl 0 1 ((y4.2 ++ (a0.getD y4.1.toNat e63.d)).length))), (25, .cell (.c (slC e63 a0))), (26, .cell (.c (.int .i64 (a0.length : Int)))), (27, .cell (.c (.int .i64 y4.1))), (31, .cell (.sl 0 0 y4.2.length)), (32, .cell (.c (slC e62 (a0.getD y4.1.toNat e63.d))))]) (by kernel_rfl) ⟨⟨rfl, c7⟩, trivial⟩ (Nat.le_of_ble_eq_true (by kernel_rfl)) (fun _ _ _ _ => rfl) (by kernel_rfl) (by kernel_rfl) ?_
        refine WO_fin (σ' := [some (rwB e62 1 62 (y4.2 ++ (a0.getD y4.1.toNat e63.d)))]) (T' := [(6, .cell (.sl 0 1 ((y4.2 ++ (a0.getD y4.1.toNat e63.d)).length))), (25, .cell (.c (slC e63 a0))), (26, .cell (.c (.int .i64 (a0.length : Int)))), (27, .cell (.c (.int .i64 y4.1)))]) (Φ := (True)) 1 [6, 25, 26, 27] (by kernel_rfl) trivial (by kernel_rfl) ?_
        refine blockQ_n ?_
        refine thenQ_n ?_
        refine W_region_at (by kernel_rfl) ?_
        obtain ⟨c8, h⟩ := ck_bind h
        refine WO_fin (σ' := [some (rwB e62 1 62 (y4.2 ++ (a0.getD y4.1.toNat e63.d)))]) (T' := [(6, .cell (.sl 0 1 ((y4.2 ++ (a0.getD y4.1.toNat e63.d)).length))), (25, .cell (.c (slC e63 a0))), (26, .cell (.c (.int .i64 (a0.length : Int)))), (27, .cell (.c (.int .i64 (y4.1 + (1 : Int)))))]) (Φ := (inR .i64 (y4.1 + (1 : Int))) ∧ (True)) 2 [6, 25, 26, 27] (by kernel_rfl) ⟨c8, trivial⟩ (by kernel_rfl) ?_
        obtain rfl := Option.some.inj h
        exact round_n _ rfl (stps_ok [.keep [6, 25, 26, 27], .take 1, .ver0 0] (by kernel_rfl))
      · have h := cond_f hb h
        refine W_exit_at 2 (by kernel_rfl) (by kernel_rfl) ?_
        refine thenQ_e ?_
        obtain rfl := Option.some.inj h; refine round_e rfl (fun hb => ?_); subst hb; have h := kb5
        refine blockQ_hit ?_
        obtain rfl := Option.some.inj h
        exact thenQ_n (stps_ok [.keep [6], .take 1, .ver0 0] (by kernel_rfl))
  · have h := gy1; clear gy1 ky1
    refine W_seq_at (by kernel_rfl) ?_
    refine W_region_at (by kernel_rfl) ?_
    refine WO_fin (σ' := []) (T' := [(0, .cell (.c (slC e63 a0))), (3, .cell (.c (.int .i64 (0 : Int)))), (9, .cell (.c (slC e63 a0))), (10, .cell (.c (.int .i64 (a0.length : Int)))), (11, .cell (.c (.int .i64 (0 : Int))))]) (Φ := (True)) 3 [0, 3, 9, 10, 11] (by kernel_rfl) trivial (by kernel_rfl) ?_
    refine thenQ_n ?_
    refine W_block_at 0 (by kernel_rfl) (by kernel_rfl) ?_
    obtain ⟨b10, gb10, kb10⟩ := bind_some h
    refine W_loop_at (S := fun (y9 : (Int × Int)) => ([], [(0, .cell (.c (slC e63 a0))), (3, .cell (.c (.int .i64 y9.1))), (9, .cell (.c (slC e63 a0))), (10, .cell (.c (.int .i64 (a0.length : Int)))), (11, .cell (.c (.int .i64 y9.2)))])) (step := _) (x0 := ((0 : Int), (0 : Int))) (b := b10) (L.ok _ _ _ gb10) (by kernel_rfl) (stps_ok [.keep [0, 3, 9, 10, 11], .take 0] (by kernel_rfl)) ?_
    clear gb10 h; intro y9 o h; unfold s56_1 at h
    refine W_seq_at (by kernel_rfl) ?_
    refine W_region_at (by kernel_rfl) ?_
    refine WO_fin (σ' := []) (T' := [(0, .cell (.c (slC e63 a0))), (3, .cell (.c (.int .i64 y9.1))), (9, .cell (.c (slC e63 a0))), (10, .cell (.c (.int .i64 (a0.length : Int)))), (11, .cell (.c (.int .i64 y9.2))), (12, .cell (.c (.bool (decide (y9.2 < (a0.length : Int))))))]) (Φ := (True)) 1 [0, 3, 9, 10, 11, 12] (by kernel_rfl) trivial (by kernel_rfl) ?_
    refine thenQ_n ?_
    refine W_seq_at (by kernel_rfl) ?_
    refine W_cond_at (b := (decide (y9.2 < (a0.length : Int)))) (by kernel_rfl) (fun hb => ?_) (fun hb => ?_)
    · have h := cond_t hb h
      refine W_skip_at (by kernel_rfl) ?_
      refine thenQ_n ?_
      obtain ⟨y11, gy11, ky11⟩ := bind_some h
      refine W_cut (by kernel_rfl) [] [(0, .cell (.c (slC e63 a0))), (3, .cell (.c (.int .i64 (y9.1 + ((a0.getD y9.2.toNat e63.d).length : Int))))), (9, .cell (.c (slC e63 a0))), (10, .cell (.c (.int .i64 (a0.length : Int)))), (11, .cell (.c (.int .i64 y9.2)))] ?_ ?_
      · have h := ky11; clear gy11 ky11
        refine W_region_at (by kernel_rfl) ?_
        obtain ⟨c12, h⟩ := ck_bind h
        refine WO_fin (σ' := []) (T' := [(0, .cell (.c (slC e63 a0))), (3, .cell (.c (.int .i64 (y9.1 + ((a0.getD y9.2.toNat e63.d).length : Int))))), (9, .cell (.c (slC e63 a0))), (10, .cell (.c (.int .i64 (a0.length : Int)))), (11, .cell (.c (.int .i64 (y9.2 + (1 : Int)))))]) (Φ := (inR .i64 (y9.2 + (1 : Int))) ∧ (True)) 2 [0, 3, 9, 10, 11] (by kernel_rfl) ⟨c12, trivial⟩ (by kernel_rfl) ?_
        obtain rfl := Option.some.inj h
        exact round_n _ rfl (stps_ok [.keep [0, 3, 9, 10, 11], .take 0] (by kernel_rfl))
      · have h := gy11; clear gy11 ky11
        refine W_block_at 1 (by kernel_rfl) (by kernel_rfl) ?_
        refine W_seq_at (by kernel_rfl) ?_
        refine W_region_at (by kernel_rfl) ?_
        obtain ⟨c13, h⟩ := ck_bind h
        refine WO_fin (σ' := []) (T' := [(0, .cell (.c (slC e63 a0))), (3, .cell (.c (.int .i64 y9.1))), (5, .cell (.c (slC e62 (a0.getD y9.2.toNat e63.d)))), (9, .cell (.c (slC e63 a0))), (10, .cell (.c (.int .i64 (a0.length : Int)))), (11, .cell (.c (.int .i64 y9.2)))]) (Φ := (0 ≤ y9.2 ∧ y9.2 < (a0.length : Int)) ∧ (True)) 3 [0, 3, 5, 9, 10, 11] (by kernel_rfl) ⟨c13, trivial⟩ (by kernel_rfl) ?_
        refine thenQ_n ?_
        refine W_seq_at (by kernel_rfl) ?_
        refine W_region_at (by kernel_rfl) ?_
        obtain ⟨c14, h⟩ := ck_bind h
        refine WO_fin (σ' := []) (T' := [(0, .cell (.c (slC e63 a0))), (3, .cell (.c (.int .i64 (y9.1 + ((a0.getD y9.2.toNat e63.d).length : Int))))), (9, .cell (.c (slC e63 a0))), (10, .cell (.c (.int .i64 (a0.length : Int)))), (11, .cell (.c (.int .i64 y9.2)))]) (Φ := (inR .i64 (y9.1 + ((a0.getD y9.2.toNat e63.d).length : Int))) ∧ (True)) 5 [0, 3, 9, 10, 11] (by kernel_rfl) ⟨c14, trivial⟩ (by kernel_rfl) ?_
        refine thenQ_n ?_
        refine W_seq_at (by kernel_rfl) ?_
        refine W_region_at (by kernel_rfl) ?_
        refine WO_fin (σ' := []) (T' := [(0, .cell (.c (slC e63 a0))), (3, .cell (.c (.int .i64 (y9.1 + ((a0.getD y9.2.toNat e63.d).length : Int))))), (9, .cell (.c (slC e63 a0))), (10, .cell (.c (.int .i64 (a0.length : Int)))), (11, .cell (.c (.int .i64 y9.2))), (20, .cell (.c (.bool (decide ((y9.1 + ((a0.getD y9.2.toNat e63.d).length : Int)) < (0 : Int))))))]) (Φ := (True)) 2 [0, 3, 9, 10, 11, 20] (by kernel_rfl) trivial (by kernel_rfl) ?_
        refine thenQ_n ?_
        refine W_cond_at (b := (decide ((y9.1 + ((a0.getD y9.2.toNat e63.d).length : Int)) < (0 : Int)))) (by kernel_rfl) (fun hb => ?_) (fun hb => ?_)
        · have h := cond_t hb h
          cases h
        · have h := cond_f hb h
          refine W_skip_at (by kernel_rfl) ?_
          refine blockQ_n ?_
          obtain rfl := Option.some.inj h
          exact thenQ_n (stps_ok [.keep [0, 3, 9, 10, 11], .take 0] (by kernel_rfl))
    · have h := cond_f hb h
      refine W_exit_at 0 (by kernel_rfl) (by kernel_rfl) ?_
      refine thenQ_e ?_
      obtain rfl := Option.some.inj h; refine round_e rfl (fun hb => ?_); subst hb; have h := kb10
      refine blockQ_hit ?_
      obtain rfl := Option.some.inj h
      exact thenQ_n (stps_ok [.keep [0, 3], .take 0] (by kernel_rfl))

/- slices.Index[[]api.VarKind,api.VarKind] -/
def s139_0 (L : LP) (a0 : (List Int)) (a1 : Int) (y3 : Int) : Option (Int ⊕ (Int ⊕ Unit)) :=
  (bif (decide (y3 < (a0.length : Int))) then
  (ck (0 ≤ y3 ∧ y3 < (a0.length : Int))).bind fun _ =>
  (bif (decide (a1 = (a0.getD y3.toNat e59.d))) then
  some (.inr (.inl y3))
  else (ck (inR .i64 (y3 + (1 : Int)))).bind fun _ =>
  some (.inl (y3 + (1 : Int))))
  else some (.inr (.inr ())))
def s139 (L : LP) (a0 : (List Int)) (a1 : Int) : Option Int :=
  ((L.run (s139_0 L a0 a1) (0 : Int)).bind (fun (b : Int ⊕ Unit) => (match b with
  | .inl v => some (.inr v)
  | .inr v => some (.inl ())))).bind fun (y1 : Unit ⊕ Int) => (match y1 with
  | .inl v2 => some (-1 : Int)
  | .inr v2 => some v2)
theorem p139 (L : LP) (a0 : (List Int)) (a1 : Int) (r : Int) (h : s139 L a0 a1 = some r) : Pure X 139 [.cell (.c (slC e59 a0)), .cell (.c (.int .u8 a1))] (.cell (.c (.int .i64 r))) := by
  refine Pure_of_W (c := cd Tryd.f139 []) Tryd.func139 (by kernel_rfl) (N := 19) (by kernel_rfl) (Nat.le_of_ble_eq_true (by kernel_rfl)) ?_
  unfold s139 at h
  refine W_seq_at (by kernel_rfl) ?_
  refine W_region_at (by kernel_rfl) ?_
  refine WO_fin (σ' := []) (T' := [(0, .cell (.c (slC e59 a0))), (1, .cell (.c (.int .u8 a1)))]) (Φ := (True)) 1 [0, 1] (by kernel_rfl) trivial (by kernel_rfl) ?_
  refine thenQ_n ?_
  obtain ⟨y1, gy1, ky1⟩ := bind_some h
  refine W_cutE (by kernel_rfl) (fun v2 => y1 = .inl v2) (fun v2 => ([], [])) ?_ ?_
  · intro v2 hv; subst hv; have h := ky1; clear gy1 ky1; dsimp only at h
    refine W_seq_at (by kernel_rfl) ?_
    refine W_region_at (by kernel_rfl) ?_
    refine WO_fin (σ' := []) (T' := [(4, .cell (.c (.int .i64 (-1 : Int))))]) (Φ := (True)) 1 [4] (by kernel_rfl) trivial (by kernel_rfl) ?_
    refine thenQ_n ?_
    refine W_ret_at (by kernel_rfl) ?_
    obtain rfl := Option.some.inj h
    exact qret [.cell (.c (.int .i64 (-1 : Int)))] (by kernel_rfl) (by kernel_rfl) ([]) (by kernel_rfl)
  · have h := gy1; clear gy1
    refine W_seq_at (by kernel_rfl) ?_
    refine W_region_at (by kernel_rfl) ?_
    refine WO_fin (σ' := []) (T' := [(0, .cell (.c (slC e59 a0))), (1, .cell (.c (.int .u8 a1))), (7, .cell (.c (.int .i64 (a0.length : Int)))), (8, .cell (.c (.int .i64 (0 : Int))))]) (Φ := (True)) 3 [0, 1, 7, 8] (by kernel_rfl) trivial (by kernel_rfl) ?_
    refine thenQ_n ?_
    refine W_block_at 0 (by kernel_rfl) (by kernel_rfl) ?_
    obtain ⟨b4, gb4, kb4⟩ := bind_some h
    refine W_loop_at (S := fun (y3 : Int) => ([], [(0, .cell (.c (slC e59 a0))), (1, .cell (.c (.int .u8 a1))), (7, .cell (.c (.int .i64 (a0.length : Int)))), (8, .cell (.c (.int .i64 y3)))])) (step := _) (x0 := (0 : Int)) (b := b4) (L.ok _ _ _ gb4) (by kernel_rfl) (stps_ok [.keep [0, 1, 7, 8], .take 0] (by kernel_rfl)) ?_
    clear gb4 h; intro y3 o h; unfold s139_0 at h
    refine W_seq_at (by kernel_rfl) ?_
    refine W_region_at (by kernel_rfl) ?_
    refine WO_fin (σ' := []) (T' := [(0, .cell (.c (slC e59 a0))), (1, .cell (.c (.int .u8 a1))), (7, .cell (.c (.int .i64 (a0.length : Int)))), (8, .cell (.c (.int .i64 y3))), (9, .cell (.c (.bool (decide (y3 < (a0.length : Int))))))]) (Φ := (True)) 1 [0, 1, 7, 8, 9] (by kernel_rfl) trivial (by kernel_rfl) ?_
    refine thenQ_n ?_
    refine W_seq_at (by kernel_rfl) ?_
    refine W_cond_at (b := (decide (y3 < (a0.length : Int)))) (by kernel_rfl) (fun hb => ?_) (fun hb => ?_)
    · have h := cond_t hb h
      refine W_skip_at (by kernel_rfl) ?_
      refine thenQ_n ?_
      refine W_seq_at (by kernel_rfl) ?_
      refine W_block_at 1 (by kernel_rfl) (by kernel_rfl) ?_
      refine W_seq_at (by kernel_rfl) ?_
      refine W_region_at (by kernel_rfl) ?_
      refine WO_fin (σ' := []) (T' := [(0, .cell (.c (slC e59 a0))), (1, .cell (.c (.int .u8 a1))), (5, .cell (.c (.int .i64 y3))), (7, .cell (.c (.int .i64 (a0.length : Int)))), (8, .cell (.c (.int .i64 y3)))]) (Φ := (True)) 2 [0, 1, 5, 7, 8] (by kernel_rfl) trivial (by kernel_rfl) ?_
      refine thenQ_n ?_
      refine W_seq_at (by kernel_rfl) ?_
      refine W_region_at (by kernel_rfl) ?_
      obtain ⟨c5, h⟩ := ck_bind h
      refine WO_fin (σ' := []) (T' := [(0, .cell (.c (slC e59 a0))), (1, .cell (.c (.int .u8 a1))), (5, .cell (.c (.int .i64 y3))), (7, .cell (.c (.int .i64 (a0.length : Int)))), (8, .cell (.c (.int .i64 y3))), (16, .cell (.c (.bool (decide (a1 = (a0.getD y3.toNat e59.d))))))]) (Φ := (0 ≤ y3 ∧ y3 < (a0.length : Int)) ∧ (True)) 6 [0, 1, 5, 7, 8, 16] (by kernel_rfl) ⟨c5, trivial⟩ (by kernel_rfl) ?_
      refine thenQ_n ?_
      refine W_cond_at (b := (decide (a1 = (a0.getD y3.toNat e59.d)))) (by kernel_rfl) (fun hb => ?_) (fun hb => ?_)
      · have h := cond_t hb h
        refine W_seq_at (by kernel_rfl) ?_
        refine W_region_at (by kernel_rfl) ?_
        refine WO_fin (σ' := []) (T' := [(4, .cell (.c (.int .i64 y3)))]) (Φ := (True)) 2 [4] (by kernel_rfl) trivial (by kernel_rfl) ?_
        refine thenQ_n ?_
        refine W_ret_at (by kernel_rfl) ?_
        refine blockQ_r ?_
        refine thenQ_r ?_
        obtain rfl := Option.some.inj h; refine round_r rfl (fun hb => ?_); subst hb; have h := kb4; dsimp only at h
        refine blockQ_r ?_
        obtain rfl := Option.some.inj h; have h := ky1; dsimp only at h; refine thenQ_r ?_
        obtain rfl := Option.some.inj h
        exact qret [.cell (.c (.int .i64 y3))] (by kernel_rfl) (by kernel_rfl) ([]) (by kernel_rfl)
      · have h := cond_f hb h
        refine W_skip_at (by kernel_rfl) ?_
        refine blockQ_n ?_
        refine thenQ_n ?_
        refine W_region_at (by kernel_rfl) ?_
        obtain ⟨c6, h⟩ := ck_bind h
        refine WO_fin (σ' := []) (T' := [(0, .cell (.c (slC e59 a0))), (1, .cell (.c (.int .u8 a1))), (7, .cell (.c (.int .i64 (a0.length : Int)))), (8, .cell (.c (.int .i64 (y3 + (1 : Int)))))]) (Φ := (inR .i64 (y3 + (1 : Int))) ∧ (True)) 2 [0, 1, 7, 8] (by kernel_rfl) ⟨c6, trivial⟩ (by kernel_rfl) ?_
        obtain rfl := Option.some.inj h
        exact round_n _ rfl (stps_ok [.keep [0, 1, 7, 8], .take 0] (by kernel_rfl))
    · have h := cond_f hb h
      refine W_exit_at 0 (by kernel_rfl) (by kernel_rfl) ?_
      refine thenQ_e ?_
      obtain rfl := Option.some.inj h; refine round_e rfl (fun hb => ?_); subst hb; have h := kb4; dsimp only at h
      refine blockQ_hit ?_
      obtain rfl := Option.some.inj h
      exact thenQ_n ⟨_, rfl, stps_ok [.keep [], .take 0] (by kernel_rfl)⟩

/- slices.Contains[[]api.VarKind,api.VarKind] -/
def s132 (L : LP) (a0 : (List Int)) (a1 : Int) : Option Bool :=
  (s139 L a0 a1).bind fun r1 =>
  some (decide (r1 ≥ (0 : Int)))
theorem p132 (L : LP) (a0 : (List Int)) (a1 : Int) (r : Bool) (h : s132 L a0 a1 = some r) : Pure X 132 [.cell (.c (slC e59 a0)), .cell (.c (.int .u8 a1))] (.cell (.c (.bool r))) := by
  refine Pure_of_W (c := cd Tryd.f132 []) Tryd.func132 (by kernel_rfl) (N := 9) (by kernel_rfl) (Nat.le_of_ble_eq_true (by kernel_rfl)) ?_
  unfold s132 at h
  refine W_seq_at (by kernel_rfl) ?_
  refine W_region_at (by kernel_rfl) ?_
  refine WO_fin (σ' := []) (T' := [(0, .cell (.c (slC e59 a0))), (1, .cell (.c (.int .u8 a1)))]) (Φ := (True)) 1 [0, 1] (by kernel_rfl) trivial (by kernel_rfl) ?_
  refine thenQ_n ?_
  refine W_seq_at (by kernel_rfl) ?_
  refine W_region_at (by kernel_rfl) ?_
  refine WO_exk (σ' := []) (T' := [(5, .cell (.c (slC e59 a0))), (6, .cell (.c (.int .u8 a1)))]) (Φ := (True)) 2 [5, 6] (by kernel_rfl) trivial ?_
  obtain ⟨r1, gr1, h⟩ := bind_some h
  refine WO_call (f := 139) (all := [.cell (.c (slC e59 a0)), .cell (.c (.int .u8 a1))]) (d := some 7) (r := .cell (.c (.int .i64 r1))) (by kernel_rfl) (by kernel_rfl) (by kernel_rfl) Tryd.call139 (p139 L _ _ _ gr1) ?_
  refine WO_fin (σ' := []) (T' := [(4, .cell (.c (.bool (decide (r1 ≥ (0 : Int))))))]) (Φ := (True)) 2 [4] (by kernel_rfl) trivial (by kernel_rfl) ?_
  refine thenQ_n ?_
  refine W_ret_at (by kernel_rfl) ?_
  obtain rfl := Option.some.inj h
  exact qret [.cell (.c (.bool (decide (r1 ≥ (0 : Int)))))] (by kernel_rfl) (by kernel_rfl) ([]) (by kernel_rfl)

/- system.tupled$1 -/
def s131 (L : LP) (a0_0 : Int) (a0_1 : Int) (a1_0 : Int) (a1_1 : Int) (a1_2 : Int) (a1_3 : Int) (a1_4 : (List (List Int))) (a1_5 : (List (Int × (List (Int × (List (Int × Int))))))) (a1_6 : (List ((List (List (Int × Int))) × (List (List (Int × Int)))))) (a1_7 : (List ((List (Int × Int)) × (List (Int × Int)) × Int × Int))) (a2_0 : (List Int)) : Option Bool :=
  (s109 L a1_0 a1_1 a1_2 a1_3 a1_4 a1_5 a1_6 a1_7 a0_0 a0_1).bind fun r1 =>
  (bif (!r1) then some true
  else (s132 L a2_0 a0_0).bind fun r3 =>
  some (!r3)).bind fun y2 =>
  some y2
theorem p131 (L : LP) (a0_0 : Int) (a0_1 : Int) (a1_0 : Int) (a1_1 : Int) (a1_2 : Int) (a1_3 : Int) (a1_4 : (List (List Int))) (a1_5 : (List (Int × (List (Int × (List (Int × Int))))))) (a1_6 : (List ((List (List (Int × Int))) × (List (List (Int × Int)))))) (a1_7 : (List ((List (Int × Int)) × (List (Int × Int)) × Int × Int))) (a2_0 : (List Int)) (r : Bool) (h : s131 L a0_0 a0_1 a1_0 a1_1 a1_2 a1_3 a1_4 a1_5 a1_6 a1_7 a2_0 = some r) : Pure X 131 [.agg [.c (.int .u8 a0_0), .c (.int .i64 a0_1)], .cell (.c (boxC [.int .i64 a1_0, .int .i64 a1_1, .int .i64 a1_2, .int .i64 a1_3, slC e28 a1_4, slC e72 a1_5, slC e65 a1_6, slC e77 a1_7] 0)), .cell (.c (boxC [slC e59 a2_0] 0))] (.cell (.c (.bool r))) := by
  refine Pure_of_W (c := cd Tryd.f131 []) Tryd.func131 (by kernel_rfl) (N := 16) (by kernel_rfl) (Nat.le_of_ble_eq_true (by kernel_rfl)) ?_
  unfold s131 at h
  refine W_seq_at (by kernel_rfl) ?_
  refine W_region_at (by kernel_rfl) ?_
  refine WO_fin (σ' := [some (.lit 0 61 [.c (.int .u8 a0_0), .c (.int .i64 a0_1)])]) (T' := [(1, .cell (.c (boxC [.int .i64 a1_0, .int .i64 a1_1, .int .i64 a1_2, .int .i64 a1_3, slC e28 a1_4, slC e72 a1_5, slC e65 a1_6, slC e77 a1_7] 0))), (2, .cell (.c (boxC [slC e59 a2_0] 0))), (3, .cell (.op 0 0 2 0 0))]) (Φ := (True)) 2 [1, 2, 3] (by kernel_rfl) trivial (by kernel_rfl) ?_
  refine thenQ_n ?_
  refine W_seq_at (by kernel_rfl) ?_
  refine W_region_at (by kernel_rfl) ?_
  refine WO_exk (σ' := [some (.lit 0 61 [.c (.int .u8 a0_0), .c (.int .i64 a0_1)])]) (T' := [(2, .cell (.c (boxC [slC e59 a2_0] 0))), (3, .cell (.op 0 0 2 0 0)), (5, .agg [.c (.int .i64 a1_0), .c (.int .i64 a1_1), .c (.int .i64 a1_2), .c (.int .i64 a1_3), .c (slC e28 a1_4), .c (slC e72 a1_5), .c (slC e65 a1_6), .c (slC e77 a1_7)]), (6, .agg [.c (.int .u8 a0_0), .c (.int .i64 a0_1)])]) (Φ := (True)) 2 [2, 3, 5, 6] (by kernel_rfl) trivial ?_
  obtain ⟨r1, gr1, h⟩ := bind_some h
  refine WO_call (f := 109) (all := [.agg [.c (.int .i64 a1_0), .c (.int .i64 a1_1), .c (.int .i64 a1_2), .c (.int .i64 a1_3), .c (slC e28 a1_4), .c (slC e72 a1_5), .c (slC e65 a1_6), .c (slC e77 a1_7)], .agg [.c (.int .u8 a0_0), .c (.int .i64 a0_1)]]) (d := some 7) (r := .cell (.c (.bool r1))) (by kernel_rfl) (by kernel_rfl) (by kernel_rfl) Tryd.call109 (p109 L _ _ _ _ _ _ _ _ _ _ _ gr1) ?_
  refine WO_exk (σ' := [some (.lit 0 61 [.c (.int .u8 a0_0), .c (.int .i64 a0_1)])]) (T' := [(2, .cell (.c (boxC [slC e59 a2_0] 0))), (3, .cell (.op 0 0 2 0 0)), (9, .cell (.c (.bool (!r1))))]) (Φ := (True)) 2 [2, 3, 9] (by kernel_rfl) trivial ?_
  obtain ⟨y2, gy2, h⟩ := bind_some h
  refine WO_join 11 [some (.lit 0 61 [.c (.int .u8 a0_0), .c (.int .i64 a0_1)])] [(15, .cell (.c (.bool y2)))] ?_ ?_
  · clear gy2
    refine WO_fin (σ' := [some (.lit 0 61 [.c (.int .u8 a0_0), .c (.int .i64 a0_1)])]) (T' := [(4, .cell (.c (.bool y2)))]) (Φ := (True)) 1 [4] (by kernel_rfl) trivial (by kernel_rfl) ?_
    refine thenQ_n ?_
    refine W_ret_at (by kernel_rfl) ?_
    obtain rfl := Option.some.inj h
    exact qret [.cell (.c (.bool y2))] (by kernel_rfl) (by kernel_rfl) ([]) (by kernel_rfl)
  · intro J
    clear h
    rcases Bool.eq_false_or_eq_true (!r1) with hb | hb
    · have h := cond_t hb gy2; clear gy2
      refine WO_ent (ent_bool (T' := [(9, .cell (.c (.bool true))), (2, .cell (.c (boxC [slC e59 a2_0] 0))), (3, .cell (.op 0 0 2 0 0))]) 9 hb (by kernel_rfl) (by kernel_rfl)) ?_
      obtain rfl := Option.some.inj h
      refine WO_exk (σ' := [some (.lit 0 61 [.c (.int .u8 a0_0), .c (.int .i64 a0_1)])]) (T' := [(15, .cell (.c (.bool true)))]) (Φ := True) 6 [15] (by kernel_rfl) trivial J
    · have h := cond_f hb gy2; clear gy2
      refine WO_ent (ent_bool (T' := [(9, .cell (.c (.bool false))), (2, .cell (.c (boxC [slC e59 a2_0] 0))), (3, .cell (.op 0 0 2 0 0))]) 9 hb (by kernel_rfl) (by kernel_rfl)) ?_
      refine WO_exk (σ' := [some (.lit 0 61 [.c (.int .u8 a0_0), .c (.int .i64 a0_1)])]) (T' := [(9, .cell (.c (.bool false))), (10, .cell (.c (slC e59 a2_0))), (12, .cell (.c (.int .u8 a0_0)))]) (Φ := (True)) 3 [9, 10, 12] (by kernel_rfl) trivial ?_
      obtain ⟨r3, gr3, h⟩ := bind_some h
      refine WO_call (f := 132) (all := [.cell (.c (slC e59 a2_0)), .cell (.c (.int .u8 a0_0))]) (d := some 13) (r := .cell (.c (.bool r3))) (by kernel_rfl) (by kernel_rfl) (by kernel_rfl) Tryd.call132 (p132 L _ _ _ gr3) ?_
      refine WO_exk (σ' := [some (.lit 0 61 [.c (.int .u8 a0_0), .c (.int .i64 a0_1)])]) (T' := [(9, .cell (.c (.bool false))), (14, .cell (.c (.bool (!r3))))]) (Φ := (True)) 1 [9, 14] (by kernel_rfl) trivial ?_
      obtain rfl := Option.some.inj h
      refine WO_exk (σ' := [some (.lit 0 61 [.c (.int .u8 a0_0), .c (.int .i64 a0_1)])]) (T' := [(15, .cell (.c (.bool (!r3))))]) (Φ := True) 1 [15] (by kernel_rfl) trivial J

/- system.tupled -/
def s111 (L : LP) (a0_0 : Int) (a0_1 : Int) (a0_2 : Int) (a0_3 : Int) (a0_4 : (List (List Int))) (a0_5 : (List (Int × (List (Int × (List (Int × Int))))))) (a0_6 : (List ((List (List (Int × Int))) × (List (List (Int × Int)))))) (a0_7 : (List ((List (Int × Int)) × (List (Int × Int)) × Int × Int))) (a1 : (List (Int × Int))) (a2 : Int) (a3 : (List Int)) : Option Bool :=
  (bif (decide ((a1.length : Int) = a2)) then (s110 L a1 (fun x0 x1 => s131 L x0 x1 a0_0 a0_1 a0_2 a0_3 a0_4 a0_5 a0_6 a0_7 a3)).bind fun r2 =>
  some (!r2)
  else some false).bind fun y1 =>
  some y1
theorem p111 (L : LP) (a0_0 : Int) (a0_1 : Int) (a0_2 : Int) (a0_3 : Int) (a0_4 : (List (List Int))) (a0_5 : (List (Int × (List (Int × (List (Int × Int))))))) (a0_6 : (List ((List (List (Int × Int))) × (List (List (Int × Int)))))) (a0_7 : (List ((List (Int × Int)) × (List (Int × Int)) × Int × Int))) (a1 : (List (Int × Int))) (a2 : Int) (a3 : (List Int)) (r : Bool) (h : s111 L a0_0 a0_1 a0_2 a0_3 a0_4 a0_5 a0_6 a0_7 a1 a2 a3 = some r) : Pure X 111 [.agg [.c (.int .i64 a0_0), .c (.int .i64 a0_1), .c (.int .i64 a0_2), .c (.int .i64 a0_3), .c (slC e28 a0_4), .c (slC e72 a0_5), .c (slC e65 a0_6), .c (slC e77 a0_7)], .cell (.c (slC e61 a1)), .cell (.c (.int .i64 a2)), .cell (.c (slC e59 a3))] (.cell (.c (.bool r))) := by
  refine Pure_of_W (c := cd Tryd.f111 []) Tryd.func111 (by kernel_rfl) (N := 19) (by kernel_rfl) (Nat.le_of_ble_eq_true (by kernel_rfl)) ?_
  unfold s111 at h
  refine W_seq_at (by kernel_rfl) ?_
  refine W_region_at (by kernel_rfl) ?_
  refine WO_fin (σ' := [some (.lit 0 27 [.c (.int .i64 a0_0), .c (.int .i64 a0_1), .c (.int .i64 a0_2), .c (.int .i64 a0_3), .c (slC e28 a0_4), .c (slC e72 a0_5), .c (slC e65 a0_6), .c (slC e77 a0_7)]), some (.lit 0 161 [.c (slC e59 a3)])]) (T' := [(1, .cell (.c (slC e61 a1))), (2, .cell (.c (.int .i64 a2))), (4, .cell (.op 0 0 8 0 0)), (7, .cell (.op 1 0 1 0 0))]) (Φ := (True)) 3 [1, 2, 4, 7] (by kernel_rfl) trivial (by kernel_rfl) ?_
  refine thenQ_n ?_
  refine W_seq_at (by kernel_rfl) ?_
  refine W_region_at (by kernel_rfl) ?_
  refine WO_exk (σ' := [some (.lit 0 27 [.c (.int .i64 a0_0), .c (.int .i64 a0_1), .c (.int .i64 a0_2), .c (.int .i64 a0_3), .c (slC e28 a0_4), .c (slC e72 a0_5), .c (slC e65 a0_6), .c (slC e77 a0_7)]), some (.lit 0 161 [.c (slC e59 a3)])]) (T' := [(1, .cell (.c (slC e61 a1))), (4, .cell (.op 0 0 8 0 0)), (7, .cell (.op 1 0 1 0 0)), (13, .cell (.c (.bool (decide ((a1.length : Int) = a2)))))]) (Φ := (True)) 5 [1, 4, 7, 13] (by kernel_rfl) trivial ?_
  obtain ⟨y1, gy1, h⟩ := bind_some h
  refine WO_join 10 [] [(18, .cell (.c (.bool y1)))] ?_ ?_
  · clear gy1
    refine WO_fin (σ' := []) (T' := [(8, .cell (.c (.bool y1)))]) (Φ := (True)) 1 [8] (by kernel_rfl) trivial (by kernel_rfl) ?_
    refine thenQ_n ?_
    refine W_ret_at (by kernel_rfl) ?_
    obtain rfl := Option.some.inj h
    exact qret [.cell (.c (.bool y1))] (by kernel_rfl) (by kernel_rfl) ([]) (by kernel_rfl)
  · intro J
    clear h
    rcases Bool.eq_false_or_eq_true (decide ((a1.length : Int) = a2)) with hb | hb
    · have h := cond_t hb gy1; clear gy1
      refine WO_ent (ent_bool (T' := [(13, .cell (.c (.bool true))), (1, .cell (.c (slC e61 a1))), (4, .cell (.op 0 0 8 0 0)), (7, .cell (.op 1 0 1 0 0))]) 13 hb (by kernel_rfl) (by kernel_rfl)) ?_
      refine WO_exk (σ' := [some (.lit 0 27 [.c (.int .i64 a0_0), .c (.int .i64 a0_1), .c (.int .i64 a0_2), .c (.int .i64 a0_3), .c (slC e28 a0_4), .c (slC e72 a0_5), .c (slC e65 a0_6), .c (slC e77 a0_7)]), some (.lit 0 161 [.c (slC e59 a3)])]) (T' := [(4, .cell (.op 0 0 8 0 0)), (7, .cell (.op 1 0 1 0 0)), (13, .cell (.c (.bool true))), (14, .cell (.c (slC e61 a1)))]) (Φ := (True)) 1 [4, 7, 13, 14] (by kernel_rfl) trivial ?_
      refine WO_ent (σ' := [none, none]) (T' := [(4, .cell (.c (boxC [.int .i64 a0_0, .int .i64 a0_1, .int .i64 a0_2, .int .i64 a0_3, slC e28 a0_4, slC e72 a0_5, slC e65 a0_6, slC e77 a0_7] 0))), (7, .cell (.c (boxC [slC e59 a3] 0))), (13, .cell (.c (.bool true))), (14, .cell (.c (slC e61 a1)))]) (stps_ok [.freeze 0, .freeze 1] (by kernel_rfl)) ?_
      refine WO_exk (σ' := [none, none]) (T' := [(13, .cell (.c (.bool true))), (14, .cell (.c (slC e61 a1))), (15, .cell (.c (fnC 131 [boxC [.int .i64 a0_0, .int .i64 a0_1, .int .i64 a0_2, .int .i64 a0_3, slC e28 a0_4, slC e72 a0_5, slC e65 a0_6, slC e77 a0_7] 0, boxC [slC e59 a3] 0])))]) (Φ := (True)) 1 [13, 14, 15] (by kernel_rfl) trivial ?_
      obtain ⟨r2, gr2, h⟩ := bind_some h
      refine WO_call (f := 110) (all := [.cell (.c (slC e61 a1)), .cell (.c (fnC 131 [boxC [.int .i64 a0_0, .int .i64 a0_1, .int .i64 a0_2, .int .i64 a0_3, slC e28 a0_4, slC e72 a0_5, slC e65 a0_6, slC e77 a0_7] 0, boxC [slC e59 a3] 0]))]) (d := some 16) (r := .cell (.c (.bool r2))) (by kernel_rfl) (by kernel_rfl) (by kernel_rfl) Tryd.call110 (pure_args (by kernel_rfl) (p110 L _ 131 2 (fun i => [boxC [.int .i64 a0_0, .int .i64 a0_1, .int .i64 a0_2, .int .i64 a0_3, slC e28 a0_4, slC e72 a0_5, slC e65 a0_6, slC e77 a0_7] 0, boxC [slC e59 a3] 0].getD i .jk) (fun x0 x1 => s131 L x0 x1 a0_0 a0_1 a0_2 a0_3 a0_4 a0_5 a0_6 a0_7 a3) (fun x0 x1 _ h => pure_args (by kernel_rfl) (p131 L _ _ _ _ _ _ _ _ _ _ _ _ h)) Tryd.call131 _ gr2)) ?_
      refine WO_exk (σ' := [none, none]) (T' := [(13, .cell (.c (.bool true))), (17, .cell (.c (.bool (!r2))))]) (Φ := (True)) 1 [13, 17] (by kernel_rfl) trivial ?_
      obtain rfl := Option.some.inj h
      refine WO_exk (σ' := [none, none]) (T' := [(18, .cell (.c (.bool (!r2))))]) (Φ := True) 1 [18] (by kernel_rfl) trivial ?_
      exact WO_ent (σ' := []) (T' := [(18, .cell (.c (.bool (!r2))))]) (stps_ok [.take 0] (by kernel_rfl)) J
    · have h := cond_f hb gy1; clear gy1
      refine WO_ent (ent_bool (T' := [(13, .cell (.c (.bool false))), (1, .cell (.c (slC e61 a1))), (4, .cell (.op 0 0 8 0 0)), (7, .cell (.op 1 0 1 0 0))]) 13 hb (by kernel_rfl) (by kernel_rfl)) ?_
      obtain rfl := Option.some.inj h
      refine WO_exk (σ' := [some (.lit 0 27 [.c (.int .i64 a0_0), .c (.int .i64 a0_1), .c (.int .i64 a0_2), .c (.int .i64 a0_3), .c (slC e28 a0_4), .c (slC e72 a0_5), .c (slC e65 a0_6), .c (slC e77 a0_7)]), some (.lit 0 161 [.c (slC e59 a3)])]) (T' := [(18, .cell (.c (.bool false)))]) (Φ := True) 5 [18] (by kernel_rfl) trivial ?_
      exact WO_ent (σ' := []) (T' := [(18, .cell (.c (.bool false)))]) (stps_ok [.take 0] (by kernel_rfl)) J

/- system.permuted -/
def s64_0 (L : LP) (a0_0 : Int) (a0_1 : Int) (a0_2 : Int) (a0_3 : Int) (a0_4 : (List (List Int))) (a0_5 : (List (Int × (List (Int × (List (Int × Int))))))) (a0_6 : (List ((List (List (Int × Int))) × (List (List (Int × Int)))))) (a0_7 : (List ((List (Int × Int)) × (List (Int × Int)) × Int × Int))) (a1_0 : (List (List (Int × Int)))) (r6 : (List (List (Int × Int)))) (y7 : Int) : Option (Int ⊕ (Bool ⊕ Unit)) :=
  (bif (decide (y7 < (r6.length : Int))) then
  (ck (0 ≤ y7 ∧ y7 < (r6.length : Int))).bind fun _ =>
  (ck (0 ≤ (0 : Int) ∧ (0 : Int) < (a1_0.length : Int))).bind fun _ =>
  (s111 L a0_0 a0_1 a0_2 a0_3 a0_4 a0_5 a0_6 a0_7 (r6.getD y7.toNat e62.d) ((a1_0.getD (0 : Int).toNat e62.d).length : Int) [(1 : Int), (3 : Int)]).bind fun r11 =>
  (bif (!r11) then
  some (.inr (.inl false))
  else (ck (inR .i64 (y7 + (1 : Int)))).bind fun _ =>
  some (.inl (y7 + (1 : Int))))
  else some (.inr (.inr ())))
def s64 (L : LP) (a0_0 : Int) (a0_1 : Int) (a0_2 : Int) (a0_3 : Int) (a0_4 : (List (List Int))) (a0_5 : (List (Int × (List (Int × (List (Int × Int))))))) (a0_6 : (List ((List (List (Int × Int))) × (List (List (Int × Int)))))) (a0_7 : (List ((List (Int × Int)) × (List (Int × Int)) × Int × Int))) (a1_0 : (List (List (Int × Int)))) (a1_1 : (List (List (Int × Int)))) : Option Bool :=
  (s45 L (a1_0.length : Int) (1 : Int) (4 : Int)).bind fun r1 =>
  (bif (!r1) then some true
  else some (!(decide ((a1_1.length : Int) = (a1_0.length : Int))))).bind fun y2 =>
  (bif y2 then some true
  else (ck (0 ≤ (0 : Int) ∧ (0 : Int) < (a1_0.length : Int))).bind fun _ =>
  (s45 L ((a1_0.getD (0 : Int).toNat e62.d).length : Int) (1 : Int) (4 : Int)).bind fun r14 =>
  some (!r14)).bind fun y3 =>
  (bif y3 then
  some false
  else ((s56 L [a1_0, a1_1]).bind fun r6 =>
  (L.run (s64_0 L a0_0 a0_1 a0_2 a0_3 a0_4 a0_5 a0_6 a0_7 a1_0 r6) (0 : Int)).bind (fun (b : Bool ⊕ Unit) => (match b with
  | .inl v => some (.inr v)
  | .inr v => some (.inl ())))).bind fun (y4 : Unit ⊕ Bool) => (match y4 with
  | .inl v5 => some true
  | .inr v5 => some v5))
theorem p64 (L : LP) (a0_0 : Int) (a0_1 : Int) (a0_2 : Int) (a0_3 : Int) (a0_4 : (List (List Int))) (a0_5 : (List (Int × (List (Int × (List (Int × Int))))))) (a0_6 : (List ((List (List (Int × Int))) × (List (List (Int × Int)))))) (a0_7 : (List ((List (Int × Int)) × (List (Int × Int)) × Int × Int))) (a1_0 : (List (List (Int × Int)))) (a1_1 : (List (List (Int × Int)))) (r : Bool) (h : s64 L a0_0 a0_1 a0_2 a0_3 a0_4 a0_5 a0_6 a0_7 a1_0 a1_1 = some r) : Pure X 64 [.agg [.c (.int .i64 a0_0), .c (.int .i64 a0_1), .c (.int .i64 a0_2), .c (.int .i64 a0_3), .c (slC e28 a0_4), .c (slC e72 a0_5), .c (slC e65 a0_6), .c (slC e77 a0_7)], .agg [.c (slC e62 a1_0), .c (slC e62 a1_1)]] (.cell (.c (.bool r))) := by
  refine Pure_of_W (c := cd Tryd.f64 []) Tryd.func64 (by kernel_rfl) (N := 52) (by kernel_rfl) (Nat.le_of_ble_eq_true (by kernel_rfl)) ?_
  unfold s64 at h
  refine W_seq_at (by kernel_rfl) ?_
  refine W_region_at (by kernel_rfl) ?_
  refine WO_fin (σ' := [some (.lit 0 27 [.c (.int .i64 a0_0), .c (.int .i64 a0_1), .c (.int .i64 a0_2), .c (.int .i64 a0_3), .c (slC e28 a0_4), .c (slC e72 a0_5), .c (slC e65 a0_6), .c (slC e77 a0_7)]), some (.lit 0 65 [.c (slC e62 a1_0), .c (slC e62 a1_1)])]) (T' := [(2, .cell (.op 0 0 8 0 0)), (3, .cell (.op 1 0 2 0 0))]) (Φ := (True)) 3 [2, 3] (by kernel_rfl) trivial (by kernel_rfl) ?_
  refine thenQ_n ?_
  refine W_seq_at (by kernel_rfl) ?_
  refine W_seq_at (by kernel_rfl) ?_
  refine W_region_at (by kernel_rfl) ?_
  refine WO_exk (σ' := [some (.lit 0 27 [.c (.int .i64 a0_0), .c (.int .i64 a0_1), .c (.int .i64 a0_2), .c (.int .i64 a0_3), .c (slC e28 a0_4), .c (slC e72 a0_5), .c (slC e65 a0_6), .c (slC e77 a0_7)]), some (.lit 0 65 [.c (slC e62 a1_0), .c (slC e62 a1_1)])]) (T' := [(2, .cell (.op 0 0 8 0 0)), (3, .cell (.op 1 0 2 0 0)), (9, .cell (.c (.int .i64 (a1_0.length : Int))))]) (Φ := (True)) 3 [2, 3, 9] (by kernel_rfl) trivial ?_
  obtain ⟨r1, gr1, h⟩ := bind_some h
  refine WO_call (f := 45) (all := [.cell (.c (.int .i64 (a1_0.length : Int))), .cell (.c (.int .i64 (1 : Int))), .cell (.c (.int .i64 (4 : Int)))]) (d := some 10) (r := .cell (.c (.bool r1))) (by kernel_rfl) (by kernel_rfl) (by kernel_rfl) Tryd.call45 (p45 L _ _ _ _ gr1) ?_
  refine WO_exk (σ' := [some (.lit 0 27 [.c (.int .i64 a0_0), .c (.int .i64 a0_1), .c (.int .i64 a0_2), .c (.int .i64 a0_3), .c (slC e28 a0_4), .c (slC e72 a0_5), .c (slC e65 a0_6), .c (slC e77 a0_7)]), some (.lit 0 65 [.c (slC e62 a1_0), .c (slC e62 a1_1)])]) (T' := [(2, .cell (.op 0 0 8 0 0)), (3, .cell (.op 1 0 2 0 0)), (12, .cell (.c (.bool (!r1))))]) (Φ := (True)) 2 [2, 3, 12] (by kernel_rfl) trivial ?_
  obtain ⟨y2, gy2, h⟩ := bind_some h
  refine WO_join 14 [some (.lit 0 27 [.c (.int .i64 a0_0), .c (.int .i64 a0_1), .c (.int .i64 a0_2), .c (.int .i64 a0_3), .c (slC e28 a0_4), .c (slC e72 a0_5), .c (slC e65 a0_6), .c (slC e77 a0_7)]), some (.lit 0 65 [.c (slC e62 a1_0), .c (slC e62 a1_1)])] [(2, .cell (.op 0 0 8 0 0)), (3, .cell (.op 1 0 2 0 0)), (20, .cell (.c (.bool y2)))] ?_ ?_
  · clear gy2
    refine WO_exk (σ' := [some (.lit 0 27 [.c (.int .i64 a0_0), .c (.int .i64 a0_1), .c (.int .i64 a0_2), .c (.int .i64 a0_3), .c (slC e28 a0_4), .c (slC e72 a0_5), .c (slC e65 a0_6), .c (slC e77 a0_7)]), some (.lit 0 65 [.c (slC e62 a1_0), .c (slC e62 a1_1)])]) (T' := [(2, .cell (.op 0 0 8 0 0)), (3, .cell (.op 1 0 2 0 0)), (21, .cell (.c (.bool y2)))]) (Φ := (True)) 1 [2, 3, 21] (by kernel_rfl) trivial ?_
    obtain ⟨y3, gy3, h⟩ := bind_some h
    refine WO_join 23 [some (.lit 0 27 [.c (.int .i64 a0_0), .c (.int .i64 a0_1), .c (.int .i64 a0_2), .c (.int .i64 a0_3), .c (slC e28 a0_4), .c (slC e72 a0_5), .c (slC e65 a0_6), .c (slC e77 a0_7)]), some (.lit 0 65 [.c (slC e62 a1_0), .c (slC e62 a1_1)])] [(2, .cell (.op 0 0 8 0 0)), (3, .cell (.op 1 0 2 0 0)), (29, .cell (.c (.bool y3)))] ?_ ?_
    · clear gy3
      refine WO_fin (σ' := [some (.lit 0 27 [.c (.int .i64 a0_0), .c (.int .i64 a0_1), .c (.int .i64 a0_2), .c (.int .i64 a0_3), .c (slC e28 a0_4), .c (slC e72 a0_5), .c (slC e65 a0_6), .c (slC e77 a0_7)]), some (.lit 0 65 [.c (slC e62 a1_0), .c (slC e62 a1_1)])]) (T' := [(2, .cell (.op 0 0 8 0 0)), (3, .cell (.op 1 0 2 0 0)), (29, .cell (.c (.bool y3)))]) (Φ := True) 0 [2, 3, 29] (by kernel_rfl) trivial (by kernel_rfl) ?_
      refine thenQ_n ?_
      refine W_cond_at (b := y3) (by kernel_rfl) (fun hb => ?_) (fun hb => ?_)
      · have h := cond_t hb h
        refine W_seq_at (by kernel_rfl) ?_
        refine W_region_at (by kernel_rfl) ?_
        refine WO_fin (σ' := [some (.lit 0 27 [.c (.int .i64 a0_0), .c (.int .i64 a0_1), .c (.int .i64 a0_2), .c (.int .i64 a0_3), .c (slC e28 a0_4), .c (slC e72 a0_5), .c (slC e65 a0_6), .c (slC e77 a0_7)]), some (.lit 0 65 [.c (slC e62 a1_0), .c (slC e62 a1_1)])]) (T' := [(4, .cell (.c (.bool false)))]) (Φ := (True)) 1 [4] (by kernel_rfl) trivial (by kernel_rfl) ?_
        refine thenQ_n ?_
        refine W_ret_at (by kernel_rfl) ?_
        refine thenQ_r ?_
        obtain rfl := Option.some.inj h
        exact qret [.cell (.c (.bool false))] (by kernel_rfl) (by kernel_rfl) ([]) (by kernel_rfl)
      · have h := cond_f hb h
        refine W_skip_at (by kernel_rfl) ?_
        refine thenQ_n ?_
        obtain ⟨y4, gy4, ky4⟩ := bind_some h
        refine W_cutE (by kernel_rfl) (fun v5 => y4 = .inl v5) (fun v5 => ([some (.lit 0 27 [.c (.int .i64 a0_0), .c (.int .i64 a0_1), .c (.int .i64 a0_2), .c (.int .i64 a0_3), .c (slC e28 a0_4), .c (slC e72 a0_5), .c (slC e65 a0_6), .c (slC e77 a0_7)]), some (.lit 0 65 [.c (slC e62 a1_0), .c (slC e62 a1_1)])], [])) ?_ ?_
        · intro v5 hv; subst hv; have h := ky4; clear gy4 ky4; dsimp only at h
          refine W_seq_at (by kernel_rfl) ?_
          refine W_region_at (by kernel_rfl) ?_
          refine WO_fin (σ' := [some (.lit 0 27 [.c (.int .i64 a0_0), .c (.int .i64 a0_1), .c (.int .i64 a0_2), .c (.int .i64 a0_3), .c (slC e28 a0_4), .c (slC e72 a0_5), .c (slC e65 a0_6), .c (slC e77 a0_7)]), some (.lit 0 65 [.c (slC e62 a1_0), .c (slC e62 a1_1)])]) (T' := [(4, .cell (.c (.bool true)))]) (Φ := (True)) 1 [4] (by kernel_rfl) trivial (by kernel_rfl) ?_
          refine thenQ_n ?_
          refine W_ret_at (by kernel_rfl) ?_
          obtain rfl := Option.some.inj h
          exact qret [.cell (.c (.bool true))] (by kernel_rfl) (by kernel_rfl) ([]) (by kernel_rfl)
        · have h := gy4; clear gy4
          refine W_seq_at (by kernel_rfl) ?_
          refine W_region_at (by kernel_rfl) ?_
          refine WO_exk (σ' := [some (.lit 0 27 [.c (.int .i64 a0_0), .c (.int .i64 a0_1), .c (.int .i64 a0_2), .c (.int .i64 a0_3), .c (slC e28 a0_4), .c (slC e72 a0_5), .c (slC e65 a0_6), .c (slC e77 a0_7)]), some (.lit 0 65 [.c (slC e62 a1_0), .c (slC e62 a1_1)])]) (T' := [(2, .cell (.op 0 0 8 0 0)), (3, .cell (.op 1 0 2 0 0)), (31, .cell (.c (slC e62 a1_0))), (33, .cell (.c (slC e62 a1_1)))]) (Φ := (True)) 4 [2, 3, 31, 33] (by kernel_rfl) trivial ?_
          refine WO_q1 (r := .cell (.c (rawC 2 1 [slC e62 a1_0, slC e62 a1_1]))) (r' := .cell (.c (slC e63 [a1_0, a1_1]))) (d := some 34) (φ := True) (raw_weak e63 (xs := [a1_0, a1_1]) rfl rfl (by kernel_rfl) (by kernel_rfl)) (by kernel_rfl) trivial ?_
          obtain ⟨r6, gr6, h⟩ := bind_some h
          refine WO_call (f := 56) (all := [.cell (.c (slC e63 [a1_0, a1_1]))]) (d := some 35) (r := .cell (.c (slC e62 r6))) (by kernel_rfl) (by kernel_rfl) (by kernel_rfl) Tryd.call56 (p56 L _ _ gr6) ?_
          refine WO_fin (σ' := [some (.lit 0 27 [.c (.int .i64 a0_0), .c (.int .i64 a0_1), .c (.int .i64 a0_2), .c (.int .i64 a0_3), .c (slC e28 a0_4), .c (slC e72 a0_5), .c (slC e65 a0_6), .c (slC e77 a0_7)]), some (.lit 0 65 [.c (slC e62 a1_0), .c (slC e62 a1_1)])]) (T' := [(2, .cell (.op 0 0 8 0 0)), (3, .cell (.op 1 0 2 0 0)), (35, .cell (.c (slC e62 r6))), (36, .cell (.c (.int .i64 (r6.length : Int)))), (37, .cell (.c (.int .i64 (0 : Int))))]) (Φ := (True)) 2 [2, 3, 35, 36, 37] (by kernel_rfl) trivial (by kernel_rfl) ?_
          refine thenQ_n ?_
          refine W_block_at 0 (by kernel_rfl) (by kernel_rfl) ?_
          obtain ⟨b8, gb8, kb8⟩ := bind_some h
          refine W_loop_at (S := fun (y7 : Int) => ([some (.lit 0 27 [.c (.int .i64 a0_0), .c (.int .i64 a0_1), .c (.int .i64 a0_2), .c (.int .i64 a0_3), .c (slC e28 a0_4), .c (slC e72 a0_5), .c (slC e65 a0_6), .c (slC e77 a0_7)]), some (.lit 0 65 [.c (slC e62 a1_0), .c (slC e62 a1_1)])], [(2, .cell (.op 0 0 8 0 0)), (3, .cell (.op 1 0 2 0 0)), (35, .cell (.c (slC e62 r6))), (36, .cell (.c (.int .i64 (r6.length : Int)))), (37, .cell (.c (.int .i64 y7)))])) (step := _) (x0 := (0 : Int)) (b := b8) (L.ok _ _ _ gb8) (by kernel_rfl) (stps_ok [.keep [2, 3, 35, 36, 37], .take 2] (by kernel_rfl)) ?_
          clear gb8 h; intro y7 o h; unfold s64_0 at h
          refine W_seq_at (by kernel_rfl) ?_
          refine W_region_at (by kernel_rfl) ?_
          refine WO_fin (σ' := [some (.lit 0 27 [.c (.int .i64 a0_0), .c (.int .i64 a0_1), .c (.int .i64 a0_2), .c (.int .i64 a0_3), .c (slC e28 a0_4), .c (slC e72 a0_5), .c (slC e65 a0_6), .c (slC e77 a0_7)]), some (.lit 0 65 [.c (slC e62 a1_0), .c (slC e62 a1_1)])]) (T' := [(2, .cell (.op 0 0 8 0 0)), (3, .cell (.op 1 0 2 0 0)), (35, .cell (.c (slC e62 r6))), (36, .cell (.c (.int .i64 (r6.length : Int)))), (37, .cell (.c (.int .i64 y7))), (38, .cell (.c (.bool (decide (y7 < (r6.length : Int))))))]) (Φ := (True)) 1 [2, 3, 35, 36, 37, 38] (by kernel_rfl) trivial (by kernel_rfl) ?_
          refine thenQ_n ?_
          refine W_seq_at (by kernel_rfl) ?_
          refine W_cond_at (b := (decide (y7 < (r6.length : Int)))) (by kernel_rfl) (fun hb => ?_) (fun hb => ?_)
          · have h := cond_t hb h
            refine W_skip_at (by kernel_rfl) ?_
            refine thenQ_n ?_
            refine W_seq_at (by kernel_rfl) ?_
            refine W_block_at 1 (by kernel_rfl) (by kernel_rfl) ?_
            refine W_seq_at (by kernel_rfl) ?_
            refine W_region_at (by kernel_rfl) ?_
            obtain ⟨c9, h⟩ := ck_bind h
            refine WO_fin (σ' := [some (.lit 0 27 [.c (.int .i64 a0_0), .c (.int .i64 a0_1), .c (.int .i64 a0_2), .c (.int .i64 a0_3), .c (slC e28 a0_4), .c (slC e72 a0_5), .c (slC e65 a0_6), .c (slC e77 a0_7)]), some (.lit 0 65 [.c (slC e62 a1_0), .c (slC e62 a1_1)])]) (T' := [(2, .cell (.op 0 0 8 0 0)), (3, .cell (.op 1 0 2 0 0)), (6, .cell (.c (slC e61 (r6.getD y7.toNat e62.d)))), (35, .cell (.c (slC e62 r6))), (36, .cell (.c (.int .i64 (r6.length : Int)))), (37, .cell (.c (.int .i64 y7)))]) (Φ := (0 ≤ y7 ∧ y7 < (r6.length : Int)) ∧ (True)) 3 [2, 3, 6, 35, 36, 37] (by kernel_rfl) ⟨c9, trivial⟩ (by kernel_rfl) ?_
            refine thenQ_n ?_
            refine W_seq_at (by kernel_rfl) ?_
            refine W_drawK 8 (by kernel_rfl) mixed (by kernel_rfl) ?_
            obtain ⟨c10, h⟩ := ck_bind h
            refine WQ_exk (n' := 1) (T' := [(2, .cell (.op 0 0 8 0 0)), (3, .cell (.op 1 0 2 0 0)), (35, .cell (.c (slC e62 r6))), (36, .cell (.c (.int .i64 (r6.length : Int)))), (37, .cell (.c (.int .i64 y7))), (41, .agg [.c (.int .i64 a0_0), .c (.int .i64 a0_1), .c (.int .i64 a0_2), .c (.int .i64 a0_3), .c (slC e28 a0_4), .c (slC e72 a0_5), .c (slC e65 a0_6), .c (slC e77 a0_7)]), (42, .cell (.c (slC e61 (r6.getD y7.toNat e62.d)))), (47, .cell (.c (.int .i64 ((a1_0.getD (0 : Int).toNat e62.d).length : Int))))]) (Φ := (0 ≤ (0 : Int) ∧ (0 : Int) < (a1_0.length : Int)) ∧ (True)) 7 [2, 3, 35, 36, 37, 41, 42, 47] (by kernel_rfl) ⟨c10, trivial⟩ ?_
            refine WQ_q1 (r := .cell (.c (rawC 2 1 [.int .u8 (1 : Int), .int .u8 (3 : Int)]))) (r' := .cell (.c (slC e59 [(1 : Int), (3 : Int)]))) (d := some 48) (φ := True) (raw_weak e59 (xs := [(1 : Int), (3 : Int)]) rfl rfl (by kernel_rfl) (by kernel_rfl)) (by kernel_rfl) trivial ?_
            refine WQ_done ?_
            obtain ⟨r11, gr11, h⟩ := bind_some h
            refine WO_call (f := 111) (all := [.agg [.c (.int .i64 a0_0), .c (.int .i64 a0_1), .c (.int .i64 a0_2), .c (.int .i64 a0_3), .c (slC e28 a0_4), .c (slC e72 a0_5), .c (slC e65 a0_6), .c (slC e77 a0_7)], .cell (.c (slC e61 (r6.getD y7.toNat e62.d))), .cell (.c (.int .i64 ((a1_0.getD (0 : Int).toNat e62.d).length : Int))), .cell (.c (slC e59 [(1 : Int), (3 : Int)]))]) (d := some 49) (r := .cell (.c (.bool r11))) (by kernel_rfl) (by kernel_rfl) (by kernel_rfl) Tryd.call111 (p111 L _ _ _ _ _ _ _ _ _ _ _ _ gr11) ?_
            refine WO_fin (σ' := [some (.lit 0 27 [.c (.int .i64 a0_0), .c (.int .i64 a0_1), .c (.int .i64 a0_2), .c (.int .i64 a0_3), .c (slC e28 a0_4), .c (slC e72 a0_5), .c (slC e65 a0_6), .c (slC e77 a0_7)]), some (.lit 0 65 [.c (slC e62 a1_0), .c (slC e62 a1_1)])]) (T' := [(2, .cell (.op 0 0 8 0 0)), (3, .cell (.op 1 0 2 0 0)), (35, .cell (.c (slC e62 r6))), (36, .cell (.c (.int .i64 (r6.length : Int)))), (37, .cell (.c (.int .i64 y7))), (50, .cell (.c (.bool (!r11))))]) (Φ := (True)) 1 [2, 3, 35, 36, 37, 50] (by kernel_rfl) trivial (by kernel_rfl) ?_
            refine thenQ_n ?_
            refine W_cond_at (b := (!r11)) (by kernel_rfl) (fun hb => ?_) (fun hb => ?_)
            · have h := cond_t hb h
              refine W_seq_at (by kernel_rfl) ?_
              refine W_region_at (by kernel_rfl) ?_
              refine WO_fin (σ' := [some (.lit 0 27 [.c (.int .i64 a0_0), .c (.int .i64 a0_1), .c (.int .i64 a0_2), .c (.int .i64 a0_3), .c (slC e28 a0_4), .c (slC e72 a0_5), .c (slC e65 a0_6), .c (slC e77 a0_7)]), some (.lit 0 65 [.c (slC e62 a1_0), .c (slC e62 a1_1)])]) (T' := [(4, .cell (.c (.bool false)))]) (Φ := (True)) 1 [4] (by kernel_rfl) trivial (by kernel_rfl) ?_
              refine thenQ_n ?_
              refine W_ret_at (by kernel_rfl) ?_
              refine blockQ_r ?_
              refine thenQ_r ?_
              obtain rfl := Option.some.inj h; refine round_r rfl (fun hb => ?_); subst hb; have h := kb8; dsimp only at h
              refine blockQ_r ?_
              obtain rfl := Option.some.inj h; have h := ky4; dsimp only at h; refine thenQ_r ?_
              obtain rfl := Option.some.inj h
              exact qret [.cell (.c (.bool false))] (by kernel_rfl) (by kernel_rfl) ([]) (by kernel_rfl)
            · have h := cond_f hb h
              refine W_skip_at (by kernel_rfl) ?_
              refine blockQ_n ?_
              refine thenQ_n ?_
              refine W_region_at (by kernel_rfl) ?_
              obtain ⟨c12, h⟩ := ck_bind h
              refine WO_fin (σ' := [some (.lit 0 27 [.c (.int .i64 a0_0), .c (.int .i64 a0_1), .c (.int .i64 a0_2), .c (.int .i64 a0_3), .c (slC e28 a0_4), .c (slC e72 a0_5), .c (slC e65 a0_6), .c (slC e77 a0_7)]), some (.lit 0 65 [.c (slC e62 a1_0), .c (slC e62 a1_1)])]) (T' := [(2, .cell (.op 0 0 8 0 0)), (3, .cell (.op 1 0 2 0 0)), (35, .cell (.c (slC e62 r6))), (36, .cell (.c (.int .i64 (r6.length : Int)))), (37, .cell (.c (.int .i64 (y7 + (1 : Int)))))]) (Φ := (inR .i64 (y7 + (1 : Int))) ∧ (True)) 2 [2, 3, 35, 36, 37] (by kernel_rfl) ⟨c12, trivial⟩ (by kernel_rfl) ?_
              obtain rfl := Option.some.inj h
              exact round_n _ rfl (stps_ok [.keep [2, 3, 35, 36, 37], .take 2] (by kernel_rfl))
          · have h := cond_f hb h
            refine W_exit_at 0 (by kernel_rfl) (by kernel_rfl) ?_
            refine thenQ_e ?_
            obtain rfl := Option.some.inj h; refine round_e rfl (fun hb => ?_); subst hb; have h := kb8; dsimp only at h
            refine blockQ_hit ?_
            obtain rfl := Option.some.inj h
            exact thenQ_n ⟨_, rfl, stps_ok [.keep [], .take 2] (by kernel_rfl)⟩
    · intro J
      clear h
      rcases Bool.eq_false_or_eq_true y2 with hb | hb
      · have h := cond_t hb gy3; clear gy3
        refine WO_ent (ent_bool (T' := [(21, .cell (.c (.bool true))), (2, .cell (.op 0 0 8 0 0)), (3, .cell (.op 1 0 2 0 0))]) 21 hb (by kernel_rfl) (by kernel_rfl)) ?_
        obtain rfl := Option.some.inj h
        refine WO_exk (σ' := [some (.lit 0 27 [.c (.int .i64 a0_0), .c (.int .i64 a0_1), .c (.int .i64 a0_2), .c (.int .i64 a0_3), .c (slC e28 a0_4), .c (slC e72 a0_5), .c (slC e65 a0_6), .c (slC e77 a0_7)]), some (.lit 0 65 [.c (slC e62 a1_0), .c (slC e62 a1_1)])]) (T' := [(2, .cell (.op 0 0 8 0 0)), (3, .cell (.op 1 0 2 0 0)), (29, .cell (.c (.bool true)))]) (Φ := True) 8 [2, 3, 29] (by kernel_rfl) trivial J
      · have h := cond_f hb gy3; clear gy3
        refine WO_ent (ent_bool (T' := [(21, .cell (.c (.bool false))), (2, .cell (.op 0 0 8 0 0)), (3, .cell (.op 1 0 2 0 0))]) 21 hb (by kernel_rfl) (by kernel_rfl)) ?_
        obtain ⟨c13, h⟩ := ck_bind h
        refine WO_exk (σ' := [some (.lit 0 27 [.c (.int .i64 a0_0), .c (.int .i64 a0_1), .c (.int .i64 a0_2), .c (.int .i64 a0_3), .c (slC e28 a0_4), .c (slC e72 a0_5), .c (slC e65 a0_6), .c (slC e77 a0_7)]), some (.lit 0 65 [.c (slC e62 a1_0), .c (slC e62 a1_1)])]) (T' := [(2, .cell (.op 0 0 8 0 0)), (3, .cell (.op 1 0 2 0 0)), (21, .cell (.c (.bool false))), (26, .cell (.c (.int .i64 ((a1_0.getD (0 : Int).toNat e62.d).length : Int))))]) (Φ := (0 ≤ (0 : Int) ∧ (0 : Int) < (a1_0.length : Int)) ∧ (True)) 5 [2, 3, 21, 26] (by kernel_rfl) ⟨c13, trivial⟩ ?_
        obtain ⟨r14, gr14, h⟩ := bind_some h
        refine WO_call (f := 45) (all := [.cell (.c (.int .i64 ((a1_0.getD (0 : Int).toNat e62.d).length : Int))), .cell (.c (.int .i64 (1 : Int))), .cell (.c (.int .i64 (4 : Int)))]) (d := some 27) (r := .cell (.c (.bool r14))) (by kernel_rfl) (by kernel_rfl) (by kernel_rfl) Tryd.call45 (p45 L _ _ _ _ gr14) ?_
        refine WO_exk (σ' := [some (.lit 0 27 [.c (.int .i64 a0_0), .c (.int .i64 a0_1), .c (.int .i64 a0_2), .c (.int .i64 a0_3), .c (slC e28 a0_4), .c (slC e72 a0_5), .c (slC e65 a0_6), .c (slC e77 a0_7)]), some (.lit 0 65 [.c (slC e62 a1_0), .c (slC e62 a1_1)])]) (T' := [(2, .cell (.op 0 0 8 0 0)), (3, .cell (.op 1 0 2 0 0)), (21, .cell (.c (.bool false))), (28, .cell (.c (.bool (!r14))))]) (Φ := (True)) 1 [2, 3, 21, 28] (by kernel_rfl) trivial ?_
        obtain rfl := Option.some.inj h
        refine WO_exk (σ' := [some (.lit 0 27 [.c (.int .i64 a0_0), .c (.int .i64 a0_1), .c (.int .i64 a0_2), .c (.int .i64 a0_3), .c (slC e28 a0_4), .c (slC e72 a0_5), .c (slC e65 a0_6), .c (slC e77 a0_7)]), some (.lit 0 65 [.c (slC e62 a1_0), .c (slC e62 a1_1)])]) (T' := [(2, .cell (.op 0 0 8 0 0)), (3, .cell (.op 1 0 2 0 0)), (29, .cell (.c (.bool (!r14))))]) (Φ := True) 1 [2, 3, 29] (by kernel_rfl) trivial J
  · intro J
    clear h
    rcases Bool.eq_false_or_eq_true (!r1) with hb | hb
    · have h := cond_t hb gy2; clear gy2
      refine WO_ent (ent_bool (T' := [(12, .cell (.c (.bool true))), (2, .cell (.op 0 0 8 0 0)), (3, .cell (.op 1 0 2 0 0))]) 12 hb (by kernel_rfl) (by kernel_rfl)) ?_
      obtain rfl := Option.some.inj h
      refine WO_exk (σ' := [some (.lit 0 27 [.c (.int .i64 a0_0), .c (.int .i64 a0_1), .c (.int .i64 a0_2), .c (.int .i64 a0_3), .c (slC e28 a0_4), .c (slC e72 a0_5), .c (slC e65 a0_6), .c (slC e77 a0_7)]), some (.lit 0 65 [.c (slC e62 a1_0), .c (slC e62 a1_1)])]) (T' := [(2, .cell (.op 0 0 8 0 0)), (3, .cell (.op 1 0 2 0 0)), (20, .cell (.c (.bool true)))]) (Φ := True) 8 [2, 3, 20] (by kernel_rfl) trivial J
    · have h := cond_f hb gy2; clear gy2
      refine WO_ent (ent_bool (T' := [(12, .cell (.c (.bool false))), (2, .cell (.op 0 0 8 0 0)), (3, .cell (.op 1 0 2 0 0))]) 12 hb (by kernel_rfl) (by kernel_rfl)) ?_
      refine WO_exk (σ' := [some (.lit 0 27 [.c (.int .i64 a0_0), .c (.int .i64 a0_1), .c (.int .i64 a0_2), .c (.int .i64 a0_3), .c (slC e28 a0_4), .c (slC e72 a0_5), .c (slC e65 a0_6), .c (slC e77 a0_7)]), some (.lit 0 65 [.c (slC e62 a1_0), .c (slC e62 a1_1)])]) (T' := [(2, .cell (.op 0 0 8 0 0)), (3, .cell (.op 1 0 2 0 0)), (12, .cell (.c (.bool false))), (19, .cell (.c (.bool (!(decide ((a1_1.length : Int) = (a1_0.length : Int)))))))]) (Φ := (True)) 7 [2, 3, 12, 19] (by kernel_rfl) trivial ?_
      obtain rfl := Option.some.inj h
      refine WO_exk (σ' := [some (.lit 0 27 [.c (.int .i64 a0_0), .c (.int .i64 a0_1), .c (.int .i64 a0_2), .c (.int .i64 a0_3), .c (slC e28 a0_4), .c (slC e72 a0_5), .c (slC e65 a0_6), .c (slC e77 a0_7)]), some (.lit 0 65 [.c (slC e62 a1_0), .c (slC e62 a1_1)])]) (T' := [(2, .cell (.op 0 0 8 0 0)), (3, .cell (.op 1 0 2 0 0)), (20, .cell (.c (.bool (!(decide ((a1_1.length : Int) = (a1_0.length : Int)))))))]) (Φ := True) 1 [2, 3, 20] (by kernel_rfl) trivial J

end Go.Proofs.YtkbpafipbhaknaaDoor
