/- What functions compute. -/
import Derived.Test.YtkbpafipbhaknaaDoorQ3S2
namespace Go.Proofs.YtkbpafipbhaknaaDoor
open Go Go.Av
set_option maxRecDepth 100000
set_option linter.unusedVariables false
/- attestorlaw13.live -/
def s11 (L : LP) : Option Bool :=
  (s40 L (2 : Int)).bind fun r1 =>
  (s41 L [(5 : Int), (6 : Int)]).bind fun r2 =>
  (s39 L r1.1 r1.2.1 r1.2.2.1 r1.2.2.2.1 r1.2.2.2.2.1 r1.2.2.2.2.2.1 r1.2.2.2.2.2.2.1 r1.2.2.2.2.2.2.2 r2.1 r2.2).bind fun r3 =>
  (s40 L (2 : Int)).bind fun r4 =>
  (s41 L [(5 : Int), (5 : Int)]).bind fun r5 =>
  (s42 L r4.1 r4.2.1 r4.2.2.1 r4.2.2.2.1 r4.2.2.2.2.1 r4.2.2.2.2.2.1 r4.2.2.2.2.2.2.1 r4.2.2.2.2.2.2.2 r5.1 r5.2).bind fun r6 =>
  (bif r3.1 then some (decide (r3.2 = (0 : Int)))
  else some false).bind fun y7 =>
  (bif y7 then some (decide (r6.2 = (0 : Int)))
  else some false).bind fun y8 =>
  (bif y8 then (s43 L r6.1 [((0 : Int), (0 : Int))]).bind fun r10 =>
  some r10
  else some false).bind fun y9 =>
  some y9
theorem p11 (L : LP)  (r : Bool) (h : s11 L = some r) : Pure X 11 [] (.cell (.c (.bool r))) := by
  refine Pure_of_W (c := cd Tryd.f11 []) Tryd.func11 (by kernel_rfl) (N := 34) (by kernel_rfl) (Nat.le_of_ble_eq_true (by kernel_rfl)) ?_
  unfold s11 at h
  refine W_seq_at (by kernel_rfl) ?_
  refine W_region_at (by kernel_rfl) ?_
  refine WO_fin (σ' := []) (T' := []) (Φ := (True)) 1 [] (by kernel_rfl) trivial (by kernel_rfl) ?_
  refine thenQ_n ?_
  refine W_seq_at (by kernel_rfl) ?_
  refine W_region_at (by kernel_rfl) ?_
  obtain ⟨r1, gr1, h⟩ := bind_some h
  refine WO_call (f := 40) (all := [.cell (.c (.int .u8 (2 : Int)))]) (d := some 6) (r := .agg [.c (.int .i64 r1.1), .c (.int .i64 r1.2.1), .c (.int .i64 r1.2.2.1), .c (.int .i64 r1.2.2.2.1), .c (slC e28 r1.2.2.2.2.1), .c (slC e72 r1.2.2.2.2.2.1), .c (slC e65 r1.2.2.2.2.2.2.1), .c (slC e77 r1.2.2.2.2.2.2.2)]) (by kernel_rfl) (by kernel_rfl) (by kernel_rfl) Tryd.call40 (p40 L _ _ gr1) ?_
  refine WO_q1 (r := .cell (.c (rawC 2 1 [.int .u64 (5 : Int), .int .u64 (6 : Int)]))) (r' := .cell (.c (slC e44 [(5 : Int), (6 : Int)]))) (d := some 7) (φ := True) (raw_weak e44 (xs := [(5 : Int), (6 : Int)]) rfl rfl (by kernel_rfl) (by kernel_rfl)) (by kernel_rfl) trivial ?_
  obtain ⟨r2, gr2, h⟩ := bind_some h
  refine WO_call (f := 41) (all := [.cell (.c (slC e44 [(5 : Int), (6 : Int)]))]) (d := some 8) (r := .agg [.c (slC e44 r2.1), .c (slC e28 r2.2)]) (by kernel_rfl) (by kernel_rfl) (by kernel_rfl) Tryd.call41 (p41 L _ _ gr2) ?_
  obtain ⟨r3, gr3, h⟩ := bind_some h
  refine WO_call (f := 39) (all := [.agg [.c (.int .i64 r1.1), .c (.int .i64 r1.2.1), .c (.int .i64 r1.2.2.1), .c (.int .i64 r1.2.2.2.1), .c (slC e28 r1.2.2.2.2.1), .c (slC e72 r1.2.2.2.2.2.1), .c (slC e65 r1.2.2.2.2.2.2.1), .c (slC e77 r1.2.2.2.2.2.2.2)], .agg [.c (slC e44 r2.1), .c (slC e28 r2.2)]]) (d := some 9) (r := tupV [.cell (.c (.bool r3.1)), .cell (.c (.int .i64 r3.2))]) (by kernel_rfl) (by kernel_rfl) (by kernel_rfl) Tryd.call39 (p39 L _ _ _ _ _ _ _ _ _ _ _ gr3) ?_
  refine WO_fin (σ' := []) (T' := [(1, .cell (.c (.bool r3.1))), (2, .cell (.c (.int .i64 r3.2)))]) (Φ := (True)) 5 [1, 2] (by kernel_rfl) trivial (by kernel_rfl) ?_
  refine thenQ_n ?_
  refine W_seq_at (by kernel_rfl) ?_
  refine W_region_at (by kernel_rfl) ?_
  obtain ⟨r4, gr4, h⟩ := bind_some h
  refine WO_call (f := 40) (all := [.cell (.c (.int .u8 (2 : Int)))]) (d := some 13) (r := .agg [.c (.int .i64 r4.1), .c (.int .i64 r4.2.1), .c (.int .i64 r4.2.2.1), .c (.int .i64 r4.2.2.2.1), .c (slC e28 r4.2.2.2.2.1), .c (slC e72 r4.2.2.2.2.2.1), .c (slC e65 r4.2.2.2.2.2.2.1), .c (slC e77 r4.2.2.2.2.2.2.2)]) (by kernel_rfl) (by kernel_rfl) (by kernel_rfl) Tryd.call40 (p40 L _ _ gr4) ?_
  refine WO_q1 (r := .cell (.c (rawC 2 1 [.int .u64 (5 : Int), .int .u64 (5 : Int)]))) (r' := .cell (.c (slC e44 [(5 : Int), (5 : Int)]))) (d := some 14) (φ := True) (raw_weak e44 (xs := [(5 : Int), (5 : Int)]) rfl rfl (by kernel_rfl) (by kernel_rfl)) (by kernel_rfl) trivial ?_
  obtain ⟨r5, gr5, h⟩ := bind_some h
  refine WO_call (f := 41) (all := [.cell (.c (slC e44 [(5 : Int), (5 : Int)]))]) (d := some 15) (r := .agg [.c (slC e44 r5.1), .c (slC e28 r5.2)]) (by kernel_rfl) (by kernel_rfl) (by kernel_rfl) Tryd.call41 (p41 L _ _ gr5) ?_
  obtain ⟨r6, gr6, h⟩ := bind_some h
  refine WO_call (f := 42) (all := [.agg [.c (.int .i64 r4.1), .c (.int .i64 r4.2.1), .c (.int .i64 r4.2.2.1), .c (.int .i64 r4.2.2.2.1), .c (slC e28 r4.2.2.2.2.1), .c (slC e72 r4.2.2.2.2.2.1), .c (slC e65 r4.2.2.2.2.2.2.1), .c (slC e77 r4.2.2.2.2.2.2.2)], .agg [.c (slC e44 r5.1), .c (slC e28 r5.2)]]) (d := some 16) (r := tupV [.cell (.c (slC e85 r6.1)), .cell (.c (.int .i64 r6.2))]) (by kernel_rfl) (by kernel_rfl) (by kernel_rfl) Tryd.call42 (p42 L _ _ _ _ _ _ _ _ _ _ _ gr6) ?_
  refine WO_fin (σ' := []) (T' := [(1, .cell (.c (.bool r3.1))), (2, .cell (.c (.int .i64 r3.2))), (3, .cell (.c (slC e85 r6.1))), (4, .cell (.c (.int .i64 r6.2)))]) (Φ := (True)) 5 [1, 2, 3, 4] (by kernel_rfl) trivial (by kernel_rfl) ?_
  refine thenQ_n ?_
  refine W_seq_at (by kernel_rfl) ?_
  refine W_region_at (by kernel_rfl) ?_
  refine WO_exk (σ' := []) (T' := [(2, .cell (.c (.int .i64 r3.2))), (3, .cell (.c (slC e85 r6.1))), (4, .cell (.c (.int .i64 r6.2))), (20, .cell (.c (.bool r3.1)))]) (Φ := (True)) 2 [2, 3, 4, 20] (by kernel_rfl) trivial ?_
  obtain ⟨y7, gy7, h⟩ := bind_some h
  refine WO_join 5 [] [(3, .cell (.c (slC e85 r6.1))), (4, .cell (.c (.int .i64 r6.2))), (23, .cell (.c (.bool y7)))] ?_ ?_
  · clear gy7
    refine WO_exk (σ' := []) (T' := [(3, .cell (.c (slC e85 r6.1))), (4, .cell (.c (.int .i64 r6.2))), (24, .cell (.c (.bool y7)))]) (Φ := (True)) 1 [3, 4, 24] (by kernel_rfl) trivial ?_
    obtain ⟨y8, gy8, h⟩ := bind_some h
    refine WO_join 9 [] [(3, .cell (.c (slC e85 r6.1))), (27, .cell (.c (.bool y8)))] ?_ ?_
    · clear gy8
      refine WO_exk (σ' := []) (T' := [(3, .cell (.c (slC e85 r6.1))), (28, .cell (.c (.bool y8)))]) (Φ := (True)) 1 [3, 28] (by kernel_rfl) trivial ?_
      obtain ⟨y9, gy9, h⟩ := bind_some h
      refine WO_join 15 [] [(33, .cell (.c (.bool y9)))] ?_ ?_
      · clear gy9
        refine WO_fin (σ' := []) (T' := [(0, .cell (.c (.bool y9)))]) (Φ := (True)) 1 [0] (by kernel_rfl) trivial (by kernel_rfl) ?_
        refine thenQ_n ?_
        refine W_ret_at (by kernel_rfl) ?_
        obtain rfl := Option.some.inj h
        exact qret [.cell (.c (.bool y9))] (by kernel_rfl) (by kernel_rfl) ([]) (by kernel_rfl)
      · intro J
        clear h
        rcases Bool.eq_false_or_eq_true y8 with hb | hb
        · have h := cond_t hb gy9; clear gy9
          refine WO_ent (ent_bool (T' := [(28, .cell (.c (.bool true))), (3, .cell (.c (slC e85 r6.1)))]) 28 hb (by kernel_rfl) (by kernel_rfl)) ?_
          refine WO_exk (σ' := []) (T' := [(28, .cell (.c (.bool true))), (29, .cell (.c (slC e85 r6.1))), (30, .agg [.c (.int .i64 (0 : Int)), .c (.int .i64 (0 : Int))])]) (Φ := (True)) 2 [28, 29, 30] (by kernel_rfl) trivial ?_
          refine WO_q1 (r := .cell (.c (rawC 1 2 [.int .i64 (0 : Int), .int .i64 (0 : Int)]))) (r' := .cell (.c (slC e85 [((0 : Int), (0 : Int))]))) (d := some 31) (φ := True) (raw_weak e85 (xs := [((0 : Int), (0 : Int))]) rfl rfl (by kernel_rfl) (by kernel_rfl)) (by kernel_rfl) trivial ?_
          obtain ⟨r10, gr10, h⟩ := bind_some h
          refine WO_call (f := 43) (all := [.cell (.c (slC e85 r6.1)), .cell (.c (slC e85 [((0 : Int), (0 : Int))]))]) (d := some 32) (r := .cell (.c (.bool r10))) (by kernel_rfl) (by kernel_rfl) (by kernel_rfl) Tryd.call43 (p43 L _ _ _ gr10) ?_
          obtain rfl := Option.some.inj h
          refine WO_exk (σ' := []) (T' := [(33, .cell (.c (.bool r10)))]) (Φ := True) 1 [33] (by kernel_rfl) trivial J
        · have h := cond_f hb gy9; clear gy9
          refine WO_ent (ent_bool (T' := [(28, .cell (.c (.bool false))), (3, .cell (.c (slC e85 r6.1)))]) 28 hb (by kernel_rfl) (by kernel_rfl)) ?_
          obtain rfl := Option.some.inj h
          refine WO_exk (σ' := []) (T' := [(33, .cell (.c (.bool false)))]) (Φ := True) 5 [33] (by kernel_rfl) trivial J
    · intro J
      clear h
      rcases Bool.eq_false_or_eq_true y7 with hb | hb
      · have h := cond_t hb gy8; clear gy8
        refine WO_ent (ent_bool (T' := [(24, .cell (.c (.bool true))), (3, .cell (.c (slC e85 r6.1))), (4, .cell (.c (.int .i64 r6.2)))]) 24 hb (by kernel_rfl) (by kernel_rfl)) ?_
        refine WO_exk (σ' := []) (T' := [(3, .cell (.c (slC e85 r6.1))), (24, .cell (.c (.bool true))), (26, .cell (.c (.bool (decide (r6.2 = (0 : Int))))))]) (Φ := (True)) 2 [3, 24, 26] (by kernel_rfl) trivial ?_
        obtain rfl := Option.some.inj h
        refine WO_exk (σ' := []) (T' := [(3, .cell (.c (slC e85 r6.1))), (27, .cell (.c (.bool (decide (r6.2 = (0 : Int))))))]) (Φ := True) 1 [3, 27] (by kernel_rfl) trivial J
      · have h := cond_f hb gy8; clear gy8
        refine WO_ent (ent_bool (T' := [(24, .cell (.c (.bool false))), (3, .cell (.c (slC e85 r6.1))), (4, .cell (.c (.int .i64 r6.2)))]) 24 hb (by kernel_rfl) (by kernel_rfl)) ?_
        obtain rfl := Option.some.inj h
        refine WO_exk (σ' := []) (T' := [(3, .cell (.c (slC e85 r6.1))), (27, .cell (.c (.bool false)))]) (Φ := True) 3 [3, 27] (by kernel_rfl) trivial J
  · intro J
    clear h
    rcases Bool.eq_false_or_eq_true r3.1 with hb | hb
    · have h := cond_t hb gy7; clear gy7
      refine WO_ent (ent_bool (T' := [(20, .cell (.c (.bool true))), (2, .cell (.c (.int .i64 r3.2))), (3, .cell (.c (slC e85 r6.1))), (4, .cell (.c (.int .i64 r6.2)))]) 20 hb (by kernel_rfl) (by kernel_rfl)) ?_
      refine WO_exk (σ' := []) (T' := [(3, .cell (.c (slC e85 r6.1))), (4, .cell (.c (.int .i64 r6.2))), (20, .cell (.c (.bool true))), (22, .cell (.c (.bool (decide (r3.2 = (0 : Int))))))]) (Φ := (True)) 2 [3, 4, 20, 22] (by kernel_rfl) trivial ?_
      obtain rfl := Option.some.inj h
      refine WO_exk (σ' := []) (T' := [(3, .cell (.c (slC e85 r6.1))), (4, .cell (.c (.int .i64 r6.2))), (23, .cell (.c (.bool (decide (r3.2 = (0 : Int))))))]) (Φ := True) 1 [3, 4, 23] (by kernel_rfl) trivial J
    · have h := cond_f hb gy7; clear gy7
      refine WO_ent (ent_bool (T' := [(20, .cell (.c (.bool false))), (2, .cell (.c (.int .i64 r3.2))), (3, .cell (.c (slC e85 r6.1))), (4, .cell (.c (.int .i64 r6.2)))]) 20 hb (by kernel_rfl) (by kernel_rfl)) ?_
      obtain rfl := Option.some.inj h
      refine WO_exk (σ' := []) (T' := [(3, .cell (.c (slC e85 r6.1))), (4, .cell (.c (.int .i64 r6.2))), (23, .cell (.c (.bool false)))]) (Φ := True) 3 [3, 4, 23] (by kernel_rfl) trivial J

/- system.Env -/
def s12 (L : LP) (a0_0 : Int) (a0_1 : Int) (a0_2 : Int) (a0_3 : Int) (a0_4 : (List (List Int))) (a0_5 : (List (Int × (List (Int × (List (Int × Int))))))) (a0_6 : (List ((List (List (Int × Int))) × (List (List (Int × Int)))))) (a0_7 : (List ((List (Int × Int)) × (List (Int × Int)) × Int × Int))) (a1_0 : (List Int)) (a1_1 : (List (List Int))) (a2 : Int) : Option ((List Int) × (List Int) × (List Int) × (List Int) × (List Int) × (List Int) × (List Int) × Int) :=
  (s44 L a0_0 a0_1 a0_2 a0_3 a0_4 a0_5 a0_6 a0_7 a1_0 a1_1).bind fun r1 =>
  (bif (!r1) then
  some ([], [], [], [], [], [], [], (1 : Int))
  else (ck (0 ≤ a0_1 ∧ a0_1 < ((IntKind.bits .i64 : Nat) : Int) ∧ inR .i64 ((1 : Int) * 2 ^ a0_1.toNat))).bind fun _ =>
  (ck (inR .i64 (((1 : Int) * 2 ^ a0_1.toNat) - (1 : Int)))).bind fun _ =>
  (s45 L a2 (0 : Int) (((1 : Int) * 2 ^ a0_1.toNat) - (1 : Int))).bind fun r4 =>
  (bif (!r4) then
  some ([], [], [], [], [], [], [], (2 : Int))
  else (s46 L a0_0 a0_1 a0_2 a0_3 a0_4 a0_5 a0_6 a0_7 a1_0 a1_1 a2).bind fun r5 =>
  some (r5.1, r5.2.1, r5.2.2.1, r5.2.2.2.1, r5.2.2.2.2.1, r5.2.2.2.2.2.1, r5.2.2.2.2.2.2, (0 : Int))))
theorem p12 (L : LP) (a0_0 : Int) (a0_1 : Int) (a0_2 : Int) (a0_3 : Int) (a0_4 : (List (List Int))) (a0_5 : (List (Int × (List (Int × (List (Int × Int))))))) (a0_6 : (List ((List (List (Int × Int))) × (List (List (Int × Int)))))) (a0_7 : (List ((List (Int × Int)) × (List (Int × Int)) × Int × Int))) (a1_0 : (List Int)) (a1_1 : (List (List Int))) (a2 : Int) (r : ((List Int) × (List Int) × (List Int) × (List Int) × (List Int) × (List Int) × (List Int) × Int)) (h : s12 L a0_0 a0_1 a0_2 a0_3 a0_4 a0_5 a0_6 a0_7 a1_0 a1_1 a2 = some r) : Pure X 12 [.agg [.c (.int .i64 a0_0), .c (.int .i64 a0_1), .c (.int .i64 a0_2), .c (.int .i64 a0_3), .c (slC e28 a0_4), .c (slC e72 a0_5), .c (slC e65 a0_6), .c (slC e77 a0_7)], .agg [.c (slC e44 a1_0), .c (slC e28 a1_1)], .cell (.c (.int .i64 a2))] (tupV [.agg [.c (slC e44 r.1), .c (slC e44 r.2.1), .c (slC e44 r.2.2.1), .c (slC e44 r.2.2.2.1), .c (slC e44 r.2.2.2.2.1), .c (slC e44 r.2.2.2.2.2.1), .c (slC e44 r.2.2.2.2.2.2.1)], .cell (.c (.int .i64 r.2.2.2.2.2.2.2))]) := by
  refine Pure_of_W (c := cd Tryd.f12 []) Tryd.func12 (by kernel_rfl) (N := 25) (by kernel_rfl) (Nat.le_of_ble_eq_true (by kernel_rfl)) ?_
  unfold s12 at h
  refine W_seq_at (by kernel_rfl) ?_
  refine W_region_at (by kernel_rfl) ?_
  refine WO_fin (σ' := [some (.lit 0 27 [.c (.int .i64 a0_0), .c (.int .i64 a0_1), .c (.int .i64 a0_2), .c (.int .i64 a0_3), .c (slC e28 a0_4), .c (slC e72 a0_5), .c (slC e65 a0_6), .c (slC e77 a0_7)]), some (.lit 0 30 [.c (slC e44 a1_0), .c (slC e28 a1_1)]), some (.lit 0 35 [.c (.nsl), .c (.nsl), .c (.nsl), .c (.nsl), .c (.nsl), .c (.nsl), .c (.nsl)])]) (T' := [(2, .cell (.c (.int .i64 a2))), (3, .cell (.op 0 0 8 0 0)), (4, .cell (.op 1 0 2 0 0)), (6, .cell (.op 2 0 7 0 0))]) (Φ := (True)) 4 [2, 3, 4, 6] (by kernel_rfl) trivial (by kernel_rfl) ?_
  refine thenQ_n ?_
  refine W_seq_at (by kernel_rfl) ?_
  refine W_seq_at (by kernel_rfl) ?_
  refine W_region_at (by kernel_rfl) ?_
  refine WO_exk (σ' := [some (.lit 0 27 [.c (.int .i64 a0_0), .c (.int .i64 a0_1), .c (.int .i64 a0_2), .c (.int .i64 a0_3), .c (slC e28 a0_4), .c (slC e72 a0_5), .c (slC e65 a0_6), .c (slC e77 a0_7)]), some (.lit 0 30 [.c (slC e44 a1_0), .c (slC e28 a1_1)]), some (.lit 0 35 [.c (.nsl), .c (.nsl), .c (.nsl), .c (.nsl), .c (.nsl), .c (.nsl), .c (.nsl)])]) (T' := [(2, .cell (.c (.int .i64 a2))), (3, .cell (.op 0 0 8 0 0)), (4, .cell (.op 1 0 2 0 0)), (6, .cell (.op 2 0 7 0 0)), (8, .agg [.c (.int .i64 a0_0), .c (.int .i64 a0_1), .c (.int .i64 a0_2), .c (.int .i64 a0_3), .c (slC e28 a0_4), .c (slC e72 a0_5), .c (slC e65 a0_6), .c (slC e77 a0_7)]), (9, .agg [.c (slC e44 a1_0), .c (slC e28 a1_1)])]) (Φ := (True)) 2 [2, 3, 4, 6, 8, 9] (by kernel_rfl) trivial ?_
  obtain ⟨r1, gr1, h⟩ := bind_some h
  refine WO_call (f := 44) (all := [.agg [.c (.int .i64 a0_0), .c (.int .i64 a0_1), .c (.int .i64 a0_2), .c (.int .i64 a0_3), .c (slC e28 a0_4), .c (slC e72 a0_5), .c (slC e65 a0_6), .c (slC e77 a0_7)], .agg [.c (slC e44 a1_0), .c (slC e28 a1_1)]]) (d := some 10) (r := .cell (.c (.bool r1))) (by kernel_rfl) (by kernel_rfl) (by kernel_rfl) Tryd.call44 (p44 L _ _ _ _ _ _ _ _ _ _ _ gr1) ?_
  refine WO_fin (σ' := [some (.lit 0 27 [.c (.int .i64 a0_0), .c (.int .i64 a0_1), .c (.int .i64 a0_2), .c (.int .i64 a0_3), .c (slC e28 a0_4), .c (slC e72 a0_5), .c (slC e65 a0_6), .c (slC e77 a0_7)]), some (.lit 0 30 [.c (slC e44 a1_0), .c (slC e28 a1_1)]), some (.lit 0 35 [.c (.nsl), .c (.nsl), .c (.nsl), .c (.nsl), .c (.nsl), .c (.nsl), .c (.nsl)])]) (T' := [(2, .cell (.c (.int .i64 a2))), (3, .cell (.op 0 0 8 0 0)), (4, .cell (.op 1 0 2 0 0)), (6, .cell (.op 2 0 7 0 0)), (11, .cell (.c (.bool (!r1))))]) (Φ := (True)) 1 [2, 3, 4, 6, 11] (by kernel_rfl) trivial (by kernel_rfl) ?_
  refine thenQ_n ?_
  refine W_cond_at (b := (!r1)) (by kernel_rfl) (fun hb => ?_) (fun hb => ?_)
  · have h := cond_t hb h
    refine W_seq_at (by kernel_rfl) ?_
    refine W_region_at (by kernel_rfl) ?_
    refine WO_fin (σ' := [some (.lit 0 27 [.c (.int .i64 a0_0), .c (.int .i64 a0_1), .c (.int .i64 a0_2), .c (.int .i64 a0_3), .c (slC e28 a0_4), .c (slC e72 a0_5), .c (slC e65 a0_6), .c (slC e77 a0_7)]), some (.lit 0 30 [.c (slC e44 a1_0), .c (slC e28 a1_1)]), some (.lit 0 35 [.c (.nsl), .c (.nsl), .c (.nsl), .c (.nsl), .c (.nsl), .c (.nsl), .c (.nsl)])]) (T' := [(6, .cell (.op 2 0 7 0 0)), (7, .cell (.c (.int .i64 (1 : Int))))]) (Φ := (True)) 3 [6, 7] (by kernel_rfl) trivial (by kernel_rfl) ?_
    refine thenQ_n ?_
    refine W_ret_at (by kernel_rfl) ?_
    refine thenQ_r ?_
    obtain rfl := Option.some.inj h
    exact qret [.agg [.c (.nsl), .c (.nsl), .c (.nsl), .c (.nsl), .c (.nsl), .c (.nsl), .c (.nsl)], .cell (.c (.int .i64 (1 : Int)))] (by kernel_rfl) (by kernel_rfl) ([.agg [.sl 1 (fun i j => (e44.row (([] : List Int).getD i e44.d)).getD j .jk), .sl 1 (fun i j => (e44.row (([] : List Int).getD i e44.d)).getD j .jk), .sl 1 (fun i j => (e44.row (([] : List Int).getD i e44.d)).getD j .jk), .sl 1 (fun i j => (e44.row (([] : List Int).getD i e44.d)).getD j .jk), .sl 1 (fun i j => (e44.row (([] : List Int).getD i e44.d)).getD j .jk), .sl 1 (fun i j => (e44.row (([] : List Int).getD i e44.d)).getD j .jk), .sl 1 (fun i j => (e44.row (([] : List Int).getD i e44.d)).getD j .jk)], .no]) (by kernel_rfl)
  · have h := cond_f hb h
    refine W_skip_at (by kernel_rfl) ?_
    refine thenQ_n ?_
    refine W_seq_at (by kernel_rfl) ?_
    refine W_seq_at (by kernel_rfl) ?_
    refine W_region_at (by kernel_rfl) ?_
    obtain ⟨c2, h⟩ := ck_bind h
    obtain ⟨c3, h⟩ := ck_bind h
    refine WO_exk (σ' := [some (.lit 0 27 [.c (.int .i64 a0_0), .c (.int .i64 a0_1), .c (.int .i64 a0_2), .c (.int .i64 a0_3), .c (slC e28 a0_4), .c (slC e72 a0_5), .c (slC e65 a0_6), .c (slC e77 a0_7)]), some (.lit 0 30 [.c (slC e44 a1_0), .c (slC e28 a1_1)]), some (.lit 0 35 [.c (.nsl), .c (.nsl), .c (.nsl), .c (.nsl), .c (.nsl), .c (.nsl), .c (.nsl)])]) (T' := [(2, .cell (.c (.int .i64 a2))), (3, .cell (.op 0 0 8 0 0)), (4, .cell (.op 1 0 2 0 0)), (6, .cell (.op 2 0 7 0 0)), (13, .cell (.c (.int .i64 a2))), (17, .cell (.c (.int .i64 (((1 : Int) * 2 ^ a0_1.toNat) - (1 : Int)))))]) (Φ := (0 ≤ a0_1 ∧ a0_1 < ((IntKind.bits .i64 : Nat) : Int) ∧ inR .i64 ((1 : Int) * 2 ^ a0_1.toNat)) ∧ (inR .i64 (((1 : Int) * 2 ^ a0_1.toNat) - (1 : Int))) ∧ (True)) 5 [2, 3, 4, 6, 13, 17] (by kernel_rfl) ⟨c2, c3, trivial⟩ ?_
    obtain ⟨r4, gr4, h⟩ := bind_some h
    refine WO_call (f := 45) (all := [.cell (.c (.int .i64 a2)), .cell (.c (.int .i64 (0 : Int))), .cell (.c (.int .i64 (((1 : Int) * 2 ^ a0_1.toNat) - (1 : Int))))]) (d := some 18) (r := .cell (.c (.bool r4))) (by kernel_rfl) (by kernel_rfl) (by kernel_rfl) Tryd.call45 (p45 L _ _ _ _ gr4) ?_
    refine WO_fin (σ' := [some (.lit 0 27 [.c (.int .i64 a0_0), .c (.int .i64 a0_1), .c (.int .i64 a0_2), .c (.int .i64 a0_3), .c (slC e28 a0_4), .c (slC e72 a0_5), .c (slC e65 a0_6), .c (slC e77 a0_7)]), some (.lit 0 30 [.c (slC e44 a1_0), .c (slC e28 a1_1)]), some (.lit 0 35 [.c (.nsl), .c (.nsl), .c (.nsl), .c (.nsl), .c (.nsl), .c (.nsl), .c (.nsl)])]) (T' := [(2, .cell (.c (.int .i64 a2))), (3, .cell (.op 0 0 8 0 0)), (4, .cell (.op 1 0 2 0 0)), (6, .cell (.op 2 0 7 0 0)), (19, .cell (.c (.bool (!r4))))]) (Φ := (True)) 1 [2, 3, 4, 6, 19] (by kernel_rfl) trivial (by kernel_rfl) ?_
    refine thenQ_n ?_
    refine W_cond_at (b := (!r4)) (by kernel_rfl) (fun hb => ?_) (fun hb => ?_)
    · have h := cond_t hb h
      refine W_seq_at (by kernel_rfl) ?_
      refine W_region_at (by kernel_rfl) ?_
      refine WO_fin (σ' := [some (.lit 0 27 [.c (.int .i64 a0_0), .c (.int .i64 a0_1), .c (.int .i64 a0_2), .c (.int .i64 a0_3), .c (slC e28 a0_4), .c (slC e72 a0_5), .c (slC e65 a0_6), .c (slC e77 a0_7)]), some (.lit 0 30 [.c (slC e44 a1_0), .c (slC e28 a1_1)]), some (.lit 0 35 [.c (.nsl), .c (.nsl), .c (.nsl), .c (.nsl), .c (.nsl), .c (.nsl), .c (.nsl)])]) (T' := [(6, .cell (.op 2 0 7 0 0)), (7, .cell (.c (.int .i64 (2 : Int))))]) (Φ := (True)) 3 [6, 7] (by kernel_rfl) trivial (by kernel_rfl) ?_
      refine thenQ_n ?_
      refine W_ret_at (by kernel_rfl) ?_
      refine thenQ_r ?_
      obtain rfl := Option.some.inj h
      exact qret [.agg [.c (.nsl), .c (.nsl), .c (.nsl), .c (.nsl), .c (.nsl), .c (.nsl), .c (.nsl)], .cell (.c (.int .i64 (2 : Int)))] (by kernel_rfl) (by kernel_rfl) ([.agg [.sl 1 (fun i j => (e44.row (([] : List Int).getD i e44.d)).getD j .jk), .sl 1 (fun i j => (e44.row (([] : List Int).getD i e44.d)).getD j .jk), .sl 1 (fun i j => (e44.row (([] : List Int).getD i e44.d)).getD j .jk), .sl 1 (fun i j => (e44.row (([] : List Int).getD i e44.d)).getD j .jk), .sl 1 (fun i j => (e44.row (([] : List Int).getD i e44.d)).getD j .jk), .sl 1 (fun i j => (e44.row (([] : List Int).getD i e44.d)).getD j .jk), .sl 1 (fun i j => (e44.row (([] : List Int).getD i e44.d)).getD j .jk)], .no]) (by kernel_rfl)
    · have h := cond_f hb h
      refine W_skip_at (by kernel_rfl) ?_
      refine thenQ_n ?_
      refine W_seq_at (by kernel_rfl) ?_
      refine W_region_at (by kernel_rfl) ?_
      refine WO_exk (σ' := [some (.lit 0 27 [.c (.int .i64 a0_0), .c (.int .i64 a0_1), .c (.int .i64 a0_2), .c (.int .i64 a0_3), .c (slC e28 a0_4), .c (slC e72 a0_5), .c (slC e65 a0_6), .c (slC e77 a0_7)]), some (.lit 0 30 [.c (slC e44 a1_0), .c (slC e28 a1_1)]), some (.lit 0 35 [.c (.nsl), .c (.nsl), .c (.nsl), .c (.nsl), .c (.nsl), .c (.nsl), .c (.nsl)])]) (T' := [(6, .cell (.op 2 0 7 0 0)), (21, .agg [.c (.int .i64 a0_0), .c (.int .i64 a0_1), .c (.int .i64 a0_2), .c (.int .i64 a0_3), .c (slC e28 a0_4), .c (slC e72 a0_5), .c (slC e65 a0_6), .c (slC e77 a0_7)]), (22, .agg [.c (slC e44 a1_0), .c (slC e28 a1_1)]), (23, .cell (.c (.int .i64 a2)))]) (Φ := (True)) 3 [6, 21, 22, 23] (by kernel_rfl) trivial ?_
      obtain ⟨r5, gr5, h⟩ := bind_some h
      refine WO_call (f := 46) (all := [.agg [.c (.int .i64 a0_0), .c (.int .i64 a0_1), .c (.int .i64 a0_2), .c (.int .i64 a0_3), .c (slC e28 a0_4), .c (slC e72 a0_5), .c (slC e65 a0_6), .c (slC e77 a0_7)], .agg [.c (slC e44 a1_0), .c (slC e28 a1_1)], .cell (.c (.int .i64 a2))]) (d := some 24) (r := .agg [.c (slC e44 r5.1), .c (slC e44 r5.2.1), .c (slC e44 r5.2.2.1), .c (slC e44 r5.2.2.2.1), .c (slC e44 r5.2.2.2.2.1), .c (slC e44 r5.2.2.2.2.2.1), .c (slC e44 r5.2.2.2.2.2.2)]) (by kernel_rfl) (by kernel_rfl) (by kernel_rfl) Tryd.call46 (p46 L _ _ _ _ _ _ _ _ _ _ _ _ gr5) ?_
      refine WO_fin (σ' := [some (.lit 0 27 [.c (.int .i64 a0_0), .c (.int .i64 a0_1), .c (.int .i64 a0_2), .c (.int .i64 a0_3), .c (slC e28 a0_4), .c (slC e72 a0_5), .c (slC e65 a0_6), .c (slC e77 a0_7)]), some (.lit 0 30 [.c (slC e44 a1_0), .c (slC e28 a1_1)]), some (.lit 0 35 [.c (slC e44 r5.1), .c (slC e44 r5.2.1), .c (slC e44 r5.2.2.1), .c (slC e44 r5.2.2.2.1), .c (slC e44 r5.2.2.2.2.1), .c (slC e44 r5.2.2.2.2.2.1), .c (slC e44 r5.2.2.2.2.2.2)])]) (T' := [(6, .cell (.op 2 0 7 0 0)), (7, .cell (.c (.int .i64 (0 : Int))))]) (Φ := (True)) 2 [6, 7] (by kernel_rfl) trivial (by kernel_rfl) ?_
      refine thenQ_n ?_
      refine W_ret_at (by kernel_rfl) ?_
      obtain rfl := Option.some.inj h
      exact qret [.agg [.c (slC e44 r5.1), .c (slC e44 r5.2.1), .c (slC e44 r5.2.2.1), .c (slC e44 r5.2.2.2.1), .c (slC e44 r5.2.2.2.2.1), .c (slC e44 r5.2.2.2.2.2.1), .c (slC e44 r5.2.2.2.2.2.2)], .cell (.c (.int .i64 (0 : Int)))] (by kernel_rfl) (by kernel_rfl) ([]) (by kernel_rfl)

/- attestorref13.Size -/
def s28_0 (L : LP) (a0_1 : Int) (y2 : (Int × Int)) : Option ((Int × Int) ⊕ Int) :=
  (bif (decide (y2.2 < a0_1)) then
  (ck (inR .i64 ((2 : Int) * y2.1))).bind fun _ =>
  (ck (inR .i64 (y2.2 + (1 : Int)))).bind fun _ =>
  some (.inl (((2 : Int) * y2.1), (y2.2 + (1 : Int))))
  else some (.inr y2.1))
def s28 (L : LP) (a0_0 : Int) (a0_1 : Int) (a0_2 : Int) (a0_3 : Int) (a0_4 : (List (List Int))) (a0_5 : (List (Int × (List (Int × (List (Int × Int))))))) (a0_6 : (List ((List (List (Int × Int))) × (List (List (Int × Int)))))) (a0_7 : (List ((List (Int × Int)) × (List (Int × Int)) × Int × Int))) : Option Int :=
  ((L.run (s28_0 L a0_1) ((1 : Int), (0 : Int))).bind (fun (v : Int) => some v)).bind fun (y1 : Int) =>
  some y1
theorem p28 (L : LP) (a0_0 : Int) (a0_1 : Int) (a0_2 : Int) (a0_3 : Int) (a0_4 : (List (List Int))) (a0_5 : (List (Int × (List (Int × (List (Int × Int))))))) (a0_6 : (List ((List (List (Int × Int))) × (List (List (Int × Int)))))) (a0_7 : (List ((List (Int × Int)) × (List (Int × Int)) × Int × Int))) (r : Int) (h : s28 L a0_0 a0_1 a0_2 a0_3 a0_4 a0_5 a0_6 a0_7 = some r) : Pure X 28 [.agg [.c (.int .i64 a0_0), .c (.int .i64 a0_1), .c (.int .i64 a0_2), .c (.int .i64 a0_3), .c (slC e28 a0_4), .c (slC e72 a0_5), .c (slC e65 a0_6), .c (slC e77 a0_7)]] (.cell (.c (.int .i64 r))) := by
  refine Pure_of_W (c := cd Tryd.f28 []) Tryd.func28 (by kernel_rfl) (N := 14) (by kernel_rfl) (Nat.le_of_ble_eq_true (by kernel_rfl)) ?_
  unfold s28 at h
  refine W_seq_at (by kernel_rfl) ?_
  refine W_region_at (by kernel_rfl) ?_
  refine WO_fin (σ' := [some (.lit 0 27 [.c (.int .i64 a0_0), .c (.int .i64 a0_1), .c (.int .i64 a0_2), .c (.int .i64 a0_3), .c (slC e28 a0_4), .c (slC e72 a0_5), .c (slC e65 a0_6), .c (slC e77 a0_7)])]) (T' := [(1, .cell (.op 0 0 8 0 0))]) (Φ := (True)) 2 [1] (by kernel_rfl) trivial (by kernel_rfl) ?_
  refine thenQ_n ?_
  refine W_seq_at (by kernel_rfl) ?_
  refine W_region_at (by kernel_rfl) ?_
  refine WO_fin (σ' := [some (.lit 0 27 [.c (.int .i64 a0_0), .c (.int .i64 a0_1), .c (.int .i64 a0_2), .c (.int .i64 a0_3), .c (slC e28 a0_4), .c (slC e72 a0_5), .c (slC e65 a0_6), .c (slC e77 a0_7)])]) (T' := [(1, .cell (.op 0 0 8 0 0)), (3, .cell (.c (.int .i64 (1 : Int))))]) (Φ := (True)) 1 [1, 3] (by kernel_rfl) trivial (by kernel_rfl) ?_
  refine thenQ_n ?_
  obtain ⟨y1, gy1, ky1⟩ := bind_some h
  refine W_cut (by kernel_rfl) [some (.lit 0 27 [.c (.int .i64 a0_0), .c (.int .i64 a0_1), .c (.int .i64 a0_2), .c (.int .i64 a0_3), .c (slC e28 a0_4), .c (slC e72 a0_5), .c (slC e65 a0_6), .c (slC e77 a0_7)])] [(3, .cell (.c (.int .i64 y1)))] ?_ ?_
  · have h := ky1; clear gy1 ky1
    refine W_seq_at (by kernel_rfl) ?_
    refine W_region_at (by kernel_rfl) ?_
    refine WO_fin (σ' := [some (.lit 0 27 [.c (.int .i64 a0_0), .c (.int .i64 a0_1), .c (.int .i64 a0_2), .c (.int .i64 a0_3), .c (slC e28 a0_4), .c (slC e72 a0_5), .c (slC e65 a0_6), .c (slC e77 a0_7)])]) (T' := [(2, .cell (.c (.int .i64 y1)))]) (Φ := (True)) 2 [2] (by kernel_rfl) trivial (by kernel_rfl) ?_
    refine thenQ_n ?_
    refine W_ret_at (by kernel_rfl) ?_
    obtain rfl := Option.some.inj h
    exact qret [.cell (.c (.int .i64 y1))] (by kernel_rfl) (by kernel_rfl) ([]) (by kernel_rfl)
  · have h := gy1; clear gy1 ky1
    refine W_seq_at (by kernel_rfl) ?_
    refine W_region_at (by kernel_rfl) ?_
    refine WO_fin (σ' := [some (.lit 0 27 [.c (.int .i64 a0_0), .c (.int .i64 a0_1), .c (.int .i64 a0_2), .c (.int .i64 a0_3), .c (slC e28 a0_4), .c (slC e72 a0_5), .c (slC e65 a0_6), .c (slC e77 a0_7)])]) (T' := [(1, .cell (.op 0 0 8 0 0)), (3, .cell (.c (.int .i64 (1 : Int)))), (4, .cell (.c (.int .i64 (0 : Int))))]) (Φ := (True)) 1 [1, 3, 4] (by kernel_rfl) trivial (by kernel_rfl) ?_
    refine thenQ_n ?_
    refine W_block_at 0 (by kernel_rfl) (by kernel_rfl) ?_
    obtain ⟨b3, gb3, kb3⟩ := bind_some h
    refine W_loop_at (S := fun (y2 : (Int × Int)) => ([some (.lit 0 27 [.c (.int .i64 a0_0), .c (.int .i64 a0_1), .c (.int .i64 a0_2), .c (.int .i64 a0_3), .c (slC e28 a0_4), .c (slC e72 a0_5), .c (slC e65 a0_6), .c (slC e77 a0_7)])], [(1, .cell (.op 0 0 8 0 0)), (3, .cell (.c (.int .i64 y2.1))), (4, .cell (.c (.int .i64 y2.2)))])) (step := _) (x0 := ((1 : Int), (0 : Int))) (b := b3) (L.ok _ _ _ gb3) (by kernel_rfl) (stps_ok [.keep [1, 3, 4], .take 1] (by kernel_rfl)) ?_
    clear gb3 h; intro y2 o h; unfold s28_0 at h
    refine W_seq_at (by kernel_rfl) ?_
    refine W_seq_at (by kernel_rfl) ?_
    refine W_region_at (by kernel_rfl) ?_
    refine WO_fin (σ' := [some (.lit 0 27 [.c (.int .i64 a0_0), .c (.int .i64 a0_1), .c (.int .i64 a0_2), .c (.int .i64 a0_3), .c (slC e28 a0_4), .c (slC e72 a0_5), .c (slC e65 a0_6), .c (slC e77 a0_7)])]) (T' := [(1, .cell (.op 0 0 8 0 0)), (3, .cell (.c (.int .i64 y2.1))), (4, .cell (.c (.int .i64 y2.2))), (8, .cell (.c (.bool (decide (y2.2 < a0_1)))))]) (Φ := (True)) 4 [1, 3, 4, 8] (by kernel_rfl) trivial (by kernel_rfl) ?_
    refine thenQ_n ?_
    refine W_cond_at (b := (decide (y2.2 < a0_1))) (by kernel_rfl) (fun hb => ?_) (fun hb => ?_)
    · have h := cond_t hb h
      refine W_skip_at (by kernel_rfl) ?_
      refine thenQ_n ?_
      refine W_seq_at (by kernel_rfl) ?_
      refine W_block_at 1 (by kernel_rfl) (by kernel_rfl) ?_
      refine W_region_at (by kernel_rfl) ?_
      obtain ⟨c4, h⟩ := ck_bind h
      refine WO_fin (σ' := [some (.lit 0 27 [.c (.int .i64 a0_0), .c (.int .i64 a0_1), .c (.int .i64 a0_2), .c (.int .i64 a0_3), .c (slC e28 a0_4), .c (slC e72 a0_5), .c (slC e65 a0_6), .c (slC e77 a0_7)])]) (T' := [(1, .cell (.op 0 0 8 0 0)), (3, .cell (.c (.int .i64 ((2 : Int) * y2.1)))), (4, .cell (.c (.int .i64 y2.2)))]) (Φ := (inR .i64 ((2 : Int) * y2.1)) ∧ (True)) 3 [1, 3, 4] (by kernel_rfl) ⟨c4, trivial⟩ (by kernel_rfl) ?_
      refine blockQ_n ?_
      refine thenQ_n ?_
      refine W_region_at (by kernel_rfl) ?_
      obtain ⟨c5, h⟩ := ck_bind h
      refine WO_fin (σ' := [some (.lit 0 27 [.c (.int .i64 a0_0), .c (.int .i64 a0_1), .c (.int .i64 a0_2), .c (.int .i64 a0_3), .c (slC e28 a0_4), .c (slC e72 a0_5), .c (slC e65 a0_6), .c (slC e77 a0_7)])]) (T' := [(1, .cell (.op 0 0 8 0 0)), (3, .cell (.c (.int .i64 ((2 : Int) * y2.1)))), (4, .cell (.c (.int .i64 (y2.2 + (1 : Int)))))]) (Φ := (inR .i64 (y2.2 + (1 : Int))) ∧ (True)) 3 [1, 3, 4] (by kernel_rfl) ⟨c5, trivial⟩ (by kernel_rfl) ?_
      obtain rfl := Option.some.inj h
      exact round_n _ rfl (stps_ok [.keep [1, 3, 4], .take 1] (by kernel_rfl))
    · have h := cond_f hb h
      refine W_exit_at 0 (by kernel_rfl) (by kernel_rfl) ?_
      refine thenQ_e ?_
      obtain rfl := Option.some.inj h; refine round_e rfl (fun hb => ?_); subst hb; have h := kb3
      refine blockQ_hit ?_
      obtain rfl := Option.some.inj h
      exact thenQ_n (stps_ok [.keep [3], .take 1] (by kernel_rfl))

/- attestorref01.Valid -/
def s48 (L : LP) (a0 : Int) : Option Bool :=
  (bif (decide (a0 ≥ (0 : Int))) then some (decide (a0 ≤ (3 : Int)))
  else some false).bind fun y1 =>
  some y1
theorem p48 (L : LP) (a0 : Int) (r : Bool) (h : s48 L a0 = some r) : Pure X 48 [.cell (.c (.int .i64 a0))] (.cell (.c (.bool r))) := by
  refine Pure_of_W (c := cd Tryd.f48 []) Tryd.func48 (by kernel_rfl) (N := 9) (by kernel_rfl) (Nat.le_of_ble_eq_true (by kernel_rfl)) ?_
  unfold s48 at h
  refine W_seq_at (by kernel_rfl) ?_
  refine W_region_at (by kernel_rfl) ?_
  refine WO_fin (σ' := []) (T' := [(0, .cell (.c (.int .i64 a0)))]) (Φ := (True)) 1 [0] (by kernel_rfl) trivial (by kernel_rfl) ?_
  refine thenQ_n ?_
  refine W_seq_at (by kernel_rfl) ?_
  refine W_region_at (by kernel_rfl) ?_
  refine WO_exk (σ' := []) (T' := [(0, .cell (.c (.int .i64 a0))), (5, .cell (.c (.bool (decide (a0 ≥ (0 : Int))))))]) (Φ := (True)) 3 [0, 5] (by kernel_rfl) trivial ?_
  obtain ⟨y1, gy1, h⟩ := bind_some h
  refine WO_join 6 [] [(8, .cell (.c (.bool y1)))] ?_ ?_
  · clear gy1
    refine WO_fin (σ' := []) (T' := [(2, .cell (.c (.bool y1)))]) (Φ := (True)) 1 [2] (by kernel_rfl) trivial (by kernel_rfl) ?_
    refine thenQ_n ?_
    refine W_ret_at (by kernel_rfl) ?_
    obtain rfl := Option.some.inj h
    exact qret [.cell (.c (.bool y1))] (by kernel_rfl) (by kernel_rfl) ([]) (by kernel_rfl)
  · intro J
    clear h
    rcases Bool.eq_false_or_eq_true (decide (a0 ≥ (0 : Int))) with hb | hb
    · have h := cond_t hb gy1; clear gy1
      refine WO_ent (ent_bool (T' := [(5, .cell (.c (.bool true))), (0, .cell (.c (.int .i64 a0)))]) 5 hb (by kernel_rfl) (by kernel_rfl)) ?_
      refine WO_exk (σ' := []) (T' := [(5, .cell (.c (.bool true))), (7, .cell (.c (.bool (decide (a0 ≤ (3 : Int))))))]) (Φ := (True)) 2 [5, 7] (by kernel_rfl) trivial ?_
      obtain rfl := Option.some.inj h
      refine WO_exk (σ' := []) (T' := [(8, .cell (.c (.bool (decide (a0 ≤ (3 : Int))))))]) (Φ := True) 1 [8] (by kernel_rfl) trivial J
    · have h := cond_f hb gy1; clear gy1
      refine WO_ent (ent_bool (T' := [(5, .cell (.c (.bool false))), (0, .cell (.c (.int .i64 a0)))]) 5 hb (by kernel_rfl) (by kernel_rfl)) ?_
      obtain rfl := Option.some.inj h
      refine WO_exk (σ' := []) (T' := [(8, .cell (.c (.bool false)))]) (Φ := True) 3 [8] (by kernel_rfl) trivial J

/- attestorref01.Twos -/
def s49 (L : LP) (a0 : Int) : Option Int :=
  (bif (decide (a0 = (0 : Int))) then
  some (5 : Int)
  else (bif (decide (a0 = (1 : Int))) then
  some (8 : Int)
  else (bif (decide (a0 = (2 : Int))) then
  some (12 : Int)
  else (bif (decide (a0 = (3 : Int))) then
  some (23 : Int)
  else some (0 : Int)))))
theorem p49 (L : LP) (a0 : Int) (r : Int) (h : s49 L a0 = some r) : Pure X 49 [.cell (.c (.int .i64 a0))] (.cell (.c (.int .i64 r))) := by
  refine Pure_of_W (c := cd Tryd.f49 []) Tryd.func49 (by kernel_rfl) (N := 12) (by kernel_rfl) (Nat.le_of_ble_eq_true (by kernel_rfl)) ?_
  unfold s49 at h
  refine W_seq_at (by kernel_rfl) ?_
  refine W_region_at (by kernel_rfl) ?_
  refine WO_fin (σ' := []) (T' := [(0, .cell (.c (.int .i64 a0)))]) (Φ := (True)) 1 [0] (by kernel_rfl) trivial (by kernel_rfl) ?_
  refine thenQ_n ?_
  refine W_seq_at (by kernel_rfl) ?_
  refine W_seq_at (by kernel_rfl) ?_
  refine W_region_at (by kernel_rfl) ?_
  refine WO_fin (σ' := []) (T' := [(3, .cell (.c (.int .i64 a0)))]) (Φ := (True)) 1 [3] (by kernel_rfl) trivial (by kernel_rfl) ?_
  refine thenQ_n ?_
  refine W_block_at 0 (by kernel_rfl) (by kernel_rfl) ?_
  refine W_seq_at (by kernel_rfl) ?_
  refine W_region_at (by kernel_rfl) ?_
  refine WO_fin (σ' := []) (T' := [(3, .cell (.c (.int .i64 a0))), (4, .cell (.c (.bool (decide (a0 = (0 : Int))))))]) (Φ := (True)) 2 [3, 4] (by kernel_rfl) trivial (by kernel_rfl) ?_
  refine thenQ_n ?_
  refine W_cond_at (b := (decide (a0 = (0 : Int)))) (by kernel_rfl) (fun hb => ?_) (fun hb => ?_)
  · have h := cond_t hb h
    refine W_seq_at (by kernel_rfl) ?_
    refine W_region_at (by kernel_rfl) ?_
    refine WO_fin (σ' := []) (T' := [(2, .cell (.c (.int .i64 (5 : Int))))]) (Φ := (True)) 1 [2] (by kernel_rfl) trivial (by kernel_rfl) ?_
    refine thenQ_n ?_
    refine W_ret_at (by kernel_rfl) ?_
    refine blockQ_r ?_
    refine thenQ_r ?_
    obtain rfl := Option.some.inj h
    exact qret [.cell (.c (.int .i64 (5 : Int)))] (by kernel_rfl) (by kernel_rfl) ([]) (by kernel_rfl)
  · have h := cond_f hb h
    refine W_seq_at (by kernel_rfl) ?_
    refine W_region_at (by kernel_rfl) ?_
    refine WO_fin (σ' := []) (T' := [(3, .cell (.c (.int .i64 a0))), (6, .cell (.c (.bool (decide (a0 = (1 : Int))))))]) (Φ := (True)) 2 [3, 6] (by kernel_rfl) trivial (by kernel_rfl) ?_
    refine thenQ_n ?_
    refine W_cond_at (b := (decide (a0 = (1 : Int)))) (by kernel_rfl) (fun hb => ?_) (fun hb => ?_)
    · have h := cond_t hb h
      refine W_seq_at (by kernel_rfl) ?_
      refine W_region_at (by kernel_rfl) ?_
      refine WO_fin (σ' := []) (T' := [(2, .cell (.c (.int .i64 (8 : Int))))]) (Φ := (True)) 1 [2] (by kernel_rfl) trivial (by kernel_rfl) ?_
      refine thenQ_n ?_
      refine W_ret_at (by kernel_rfl) ?_
      refine blockQ_r ?_
      refine thenQ_r ?_
      obtain rfl := Option.some.inj h
      exact qret [.cell (.c (.int .i64 (8 : Int)))] (by kernel_rfl) (by kernel_rfl) ([]) (by kernel_rfl)
    · have h := cond_f hb h
      refine W_seq_at (by kernel_rfl) ?_
      refine W_region_at (by kernel_rfl) ?_
      refine WO_fin (σ' := []) (T' := [(3, .cell (.c (.int .i64 a0))), (8, .cell (.c (.bool (decide (a0 = (2 : Int))))))]) (Φ := (True)) 2 [3, 8] (by kernel_rfl) trivial (by kernel_rfl) ?_
      refine thenQ_n ?_
      refine W_cond_at (b := (decide (a0 = (2 : Int)))) (by kernel_rfl) (fun hb => ?_) (fun hb => ?_)
      · have h := cond_t hb h
        refine W_seq_at (by kernel_rfl) ?_
        refine W_region_at (by kernel_rfl) ?_
        refine WO_fin (σ' := []) (T' := [(2, .cell (.c (.int .i64 (12 : Int))))]) (Φ := (True)) 1 [2] (by kernel_rfl) trivial (by kernel_rfl) ?_
        refine thenQ_n ?_
        refine W_ret_at (by kernel_rfl) ?_
        refine blockQ_r ?_
        refine thenQ_r ?_
        obtain rfl := Option.some.inj h
        exact qret [.cell (.c (.int .i64 (12 : Int)))] (by kernel_rfl) (by kernel_rfl) ([]) (by kernel_rfl)
      · have h := cond_f hb h
        refine W_seq_at (by kernel_rfl) ?_
        refine W_region_at (by kernel_rfl) ?_
        refine WO_fin (σ' := []) (T' := [(10, .cell (.c (.bool (decide (a0 = (3 : Int))))))]) (Φ := (True)) 2 [10] (by kernel_rfl) trivial (by kernel_rfl) ?_
        refine thenQ_n ?_
        refine W_cond_at (b := (decide (a0 = (3 : Int)))) (by kernel_rfl) (fun hb => ?_) (fun hb => ?_)
        · have h := cond_t hb h
          refine W_seq_at (by kernel_rfl) ?_
          refine W_region_at (by kernel_rfl) ?_
          refine WO_fin (σ' := []) (T' := [(2, .cell (.c (.int .i64 (23 : Int))))]) (Φ := (True)) 1 [2] (by kernel_rfl) trivial (by kernel_rfl) ?_
          refine thenQ_n ?_
          refine W_ret_at (by kernel_rfl) ?_
          refine blockQ_r ?_
          refine thenQ_r ?_
          obtain rfl := Option.some.inj h
          exact qret [.cell (.c (.int .i64 (23 : Int)))] (by kernel_rfl) (by kernel_rfl) ([]) (by kernel_rfl)
        · have h := cond_f hb h
          refine W_skip_at (by kernel_rfl) ?_
          refine blockQ_n ?_
          refine thenQ_n ?_
          refine W_seq_at (by kernel_rfl) ?_
          refine W_region_at (by kernel_rfl) ?_
          refine WO_fin (σ' := []) (T' := [(2, .cell (.c (.int .i64 (0 : Int))))]) (Φ := (True)) 1 [2] (by kernel_rfl) trivial (by kernel_rfl) ?_
          refine thenQ_n ?_
          refine W_ret_at (by kernel_rfl) ?_
          obtain rfl := Option.some.inj h
          exact qret [.cell (.c (.int .i64 (0 : Int)))] (by kernel_rfl) (by kernel_rfl) ([]) (by kernel_rfl)

/- attestorref01.P -/
def s86 (L : LP) (a0 : Int) : Option Int :=
  (bif (decide (a0 = (0 : Int))) then
  some (97 : Int)
  else (bif (decide (a0 = (1 : Int))) then
  some (257 : Int)
  else (bif (decide (a0 = (2 : Int))) then
  some (12289 : Int)
  else (bif (decide (a0 = (3 : Int))) then
  some (998244353 : Int)
  else some (0 : Int)))))
theorem p86 (L : LP) (a0 : Int) (r : Int) (h : s86 L a0 = some r) : Pure X 86 [.cell (.c (.int .i64 a0))] (.cell (.c (.int .u64 r))) := by
  refine Pure_of_W (c := cd Tryd.f86 []) Tryd.func86 (by kernel_rfl) (N := 12) (by kernel_rfl) (Nat.le_of_ble_eq_true (by kernel_rfl)) ?_
  unfold s86 at h
  refine W_seq_at (by kernel_rfl) ?_
  refine W_region_at (by kernel_rfl) ?_
  refine WO_fin (σ' := []) (T' := [(0, .cell (.c (.int .i64 a0)))]) (Φ := (True)) 1 [0] (by kernel_rfl) trivial (by kernel_rfl) ?_
  refine thenQ_n ?_
  refine W_seq_at (by kernel_rfl) ?_
  refine W_seq_at (by kernel_rfl) ?_
  refine W_region_at (by kernel_rfl) ?_
  refine WO_fin (σ' := []) (T' := [(3, .cell (.c (.int .i64 a0)))]) (Φ := (True)) 1 [3] (by kernel_rfl) trivial (by kernel_rfl) ?_
  refine thenQ_n ?_
  refine W_block_at 0 (by kernel_rfl) (by kernel_rfl) ?_
  refine W_seq_at (by kernel_rfl) ?_
  refine W_region_at (by kernel_rfl) ?_
  refine WO_fin (σ' := []) (T' := [(3, .cell (.c (.int .i64 a0))), (4, .cell (.c (.bool (decide (a0 = (0 : Int))))))]) (Φ := (True)) 2 [3, 4] (by kernel_rfl) trivial (by kernel_rfl) ?_
  refine thenQ_n ?_
  refine W_cond_at (b := (decide (a0 = (0 : Int)))) (by kernel_rfl) (fun hb => ?_) (fun hb => ?_)
  · have h := cond_t hb h
    refine W_seq_at (by kernel_rfl) ?_
    refine W_region_at (by kernel_rfl) ?_
    refine WO_fin (σ' := []) (T' := [(2, .cell (.c (.int .u64 (97 : Int))))]) (Φ := (True)) 1 [2] (by kernel_rfl) trivial (by kernel_rfl) ?_
    refine thenQ_n ?_
    refine W_ret_at (by kernel_rfl) ?_
    refine blockQ_r ?_
    refine thenQ_r ?_
    obtain rfl := Option.some.inj h
    exact qret [.cell (.c (.int .u64 (97 : Int)))] (by kernel_rfl) (by kernel_rfl) ([]) (by kernel_rfl)
  · have h := cond_f hb h
    refine W_seq_at (by kernel_rfl) ?_
    refine W_region_at (by kernel_rfl) ?_
    refine WO_fin (σ' := []) (T' := [(3, .cell (.c (.int .i64 a0))), (6, .cell (.c (.bool (decide (a0 = (1 : Int))))))]) (Φ := (True)) 2 [3, 6] (by kernel_rfl) trivial (by kernel_rfl) ?_
    refine thenQ_n ?_
    refine W_cond_at (b := (decide (a0 = (1 : Int)))) (by kernel_rfl) (fun hb => ?_) (fun hb => ?_)
    · have h := cond_t hb h
      refine W_seq_at (by kernel_rfl) ?_
      refine W_region_at (by kernel_rfl) ?_
      refine WO_fin (σ' := []) (T' := [(2, .cell (.c (.int .u64 (257 : Int))))]) (Φ := (True)) 1 [2] (by kernel_rfl) trivial (by kernel_rfl) ?_
      refine thenQ_n ?_
      refine W_ret_at (by kernel_rfl) ?_
      refine blockQ_r ?_
      refine thenQ_r ?_
      obtain rfl := Option.some.inj h
      exact qret [.cell (.c (.int .u64 (257 : Int)))] (by kernel_rfl) (by kernel_rfl) ([]) (by kernel_rfl)
    · have h := cond_f hb h
      refine W_seq_at (by kernel_rfl) ?_
      refine W_region_at (by kernel_rfl) ?_
      refine WO_fin (σ' := []) (T' := [(3, .cell (.c (.int .i64 a0))), (8, .cell (.c (.bool (decide (a0 = (2 : Int))))))]) (Φ := (True)) 2 [3, 8] (by kernel_rfl) trivial (by kernel_rfl) ?_
      refine thenQ_n ?_
      refine W_cond_at (b := (decide (a0 = (2 : Int)))) (by kernel_rfl) (fun hb => ?_) (fun hb => ?_)
      · have h := cond_t hb h
        refine W_seq_at (by kernel_rfl) ?_
        refine W_region_at (by kernel_rfl) ?_
        refine WO_fin (σ' := []) (T' := [(2, .cell (.c (.int .u64 (12289 : Int))))]) (Φ := (True)) 1 [2] (by kernel_rfl) trivial (by kernel_rfl) ?_
        refine thenQ_n ?_
        refine W_ret_at (by kernel_rfl) ?_
        refine blockQ_r ?_
        refine thenQ_r ?_
        obtain rfl := Option.some.inj h
        exact qret [.cell (.c (.int .u64 (12289 : Int)))] (by kernel_rfl) (by kernel_rfl) ([]) (by kernel_rfl)
      · have h := cond_f hb h
        refine W_seq_at (by kernel_rfl) ?_
        refine W_region_at (by kernel_rfl) ?_
        refine WO_fin (σ' := []) (T' := [(10, .cell (.c (.bool (decide (a0 = (3 : Int))))))]) (Φ := (True)) 2 [10] (by kernel_rfl) trivial (by kernel_rfl) ?_
        refine thenQ_n ?_
        refine W_cond_at (b := (decide (a0 = (3 : Int)))) (by kernel_rfl) (fun hb => ?_) (fun hb => ?_)
        · have h := cond_t hb h
          refine W_seq_at (by kernel_rfl) ?_
          refine W_region_at (by kernel_rfl) ?_
          refine WO_fin (σ' := []) (T' := [(2, .cell (.c (.int .u64 (998244353 : Int))))]) (Φ := (True)) 1 [2] (by kernel_rfl) trivial (by kernel_rfl) ?_
          refine thenQ_n ?_
          refine W_ret_at (by kernel_rfl) ?_
          refine blockQ_r ?_
          refine thenQ_r ?_
          obtain rfl := Option.some.inj h
          exact qret [.cell (.c (.int .u64 (998244353 : Int)))] (by kernel_rfl) (by kernel_rfl) ([]) (by kernel_rfl)
        · have h := cond_f hb h
          refine W_skip_at (by kernel_rfl) ?_
          refine blockQ_n ?_
          refine thenQ_n ?_
          refine W_seq_at (by kernel_rfl) ?_
          refine W_region_at (by kernel_rfl) ?_
          refine WO_fin (σ' := []) (T' := [(2, .cell (.c (.int .u64 (0 : Int))))]) (Φ := (True)) 1 [2] (by kernel_rfl) trivial (by kernel_rfl) ?_
          refine thenQ_n ?_
          refine W_ret_at (by kernel_rfl) ?_
          obtain rfl := Option.some.inj h
          exact qret [.cell (.c (.int .u64 (0 : Int)))] (by kernel_rfl) (by kernel_rfl) ([]) (by kernel_rfl)

/- attestorref13.elements -/
def s50_0 (L : LP) (a0 : Int) (a1 : (List Int)) (y3 : Int) : Option (Int ⊕ (Bool ⊕ Unit)) :=
  (bif (decide (y3 < (a1.length : Int))) then
  (ck (0 ≤ y3 ∧ y3 < (a1.length : Int))).bind fun _ =>
  (s86 L a0).bind fun r6 =>
  (bif (decide ((a1.getD y3.toNat e44.d) ≥ r6)) then
  some (.inr (.inl false))
  else (ck (inR .i64 (y3 + (1 : Int)))).bind fun _ =>
  some (.inl (y3 + (1 : Int))))
  else some (.inr (.inr ())))
def s50 (L : LP) (a0 : Int) (a1 : (List Int)) : Option Bool :=
  ((L.run (s50_0 L a0 a1) (0 : Int)).bind (fun (b : Bool ⊕ Unit) => (match b with
  | .inl v => some (.inr v)
  | .inr v => some (.inl ())))).bind fun (y1 : Unit ⊕ Bool) => (match y1 with
  | .inl v2 => some true
  | .inr v2 => some v2)
theorem p50 (L : LP) (a0 : Int) (a1 : (List Int)) (r : Bool) (h : s50 L a0 a1 = some r) : Pure X 50 [.cell (.c (.int .i64 a0)), .cell (.c (slC e44 a1))] (.cell (.c (.bool r))) := by
  refine Pure_of_W (c := cd Tryd.f50 []) Tryd.func50 (by kernel_rfl) (N := 19) (by kernel_rfl) (Nat.le_of_ble_eq_true (by kernel_rfl)) ?_
  unfold s50 at h
  refine W_seq_at (by kernel_rfl) ?_
  refine W_region_at (by kernel_rfl) ?_
  refine WO_fin (σ' := []) (T' := [(0, .cell (.c (.int .i64 a0))), (1, .cell (.c (slC e44 a1)))]) (Φ := (True)) 1 [0, 1] (by kernel_rfl) trivial (by kernel_rfl) ?_
  refine thenQ_n ?_
  obtain ⟨y1, gy1, ky1⟩ := bind_some h
  refine W_cutE (by kernel_rfl) (fun v2 => y1 = .inl v2) (fun v2 => ([], [])) ?_ ?_
  · intro v2 hv; subst hv; have h := ky1; clear gy1 ky1; dsimp only at h
    refine W_seq_at (by kernel_rfl) ?_
    refine W_region_at (by kernel_rfl) ?_
    refine WO_fin (σ' := []) (T' := [(4, .cell (.c (.bool true)))]) (Φ := (True)) 1 [4] (by kernel_rfl) trivial (by kernel_rfl) ?_
    refine thenQ_n ?_
    refine W_ret_at (by kernel_rfl) ?_
    obtain rfl := Option.some.inj h
    exact qret [.cell (.c (.bool true))] (by kernel_rfl) (by kernel_rfl) ([]) (by kernel_rfl)
  · have h := gy1; clear gy1
    refine W_seq_at (by kernel_rfl) ?_
    refine W_region_at (by kernel_rfl) ?_
    refine WO_fin (σ' := []) (T' := [(0, .cell (.c (.int .i64 a0))), (1, .cell (.c (slC e44 a1))), (5, .cell (.c (.int .i64 (0 : Int))))]) (Φ := (True)) 1 [0, 1, 5] (by kernel_rfl) trivial (by kernel_rfl) ?_
    refine thenQ_n ?_
    refine W_block_at 0 (by kernel_rfl) (by kernel_rfl) ?_
    obtain ⟨b4, gb4, kb4⟩ := bind_some h
    refine W_loop_at (S := fun (y3 : Int) => ([], [(0, .cell (.c (.int .i64 a0))), (1, .cell (.c (slC e44 a1))), (5, .cell (.c (.int .i64 y3)))])) (step := _) (x0 := (0 : Int)) (b := b4) (L.ok _ _ _ gb4) (by kernel_rfl) (stps_ok [.keep [0, 1, 5], .take 0] (by kernel_rfl)) ?_
    clear gb4 h; intro y3 o h; unfold s50_0 at h
    refine W_seq_at (by kernel_rfl) ?_
    refine W_seq_at (by kernel_rfl) ?_
    refine W_region_at (by kernel_rfl) ?_
    refine WO_fin (σ' := []) (T' := [(0, .cell (.c (.int .i64 a0))), (1, .cell (.c (slC e44 a1))), (5, .cell (.c (.int .i64 y3))), (9, .cell (.c (.bool (decide (y3 < (a1.length : Int))))))]) (Φ := (True)) 4 [0, 1, 5, 9] (by kernel_rfl) trivial (by kernel_rfl) ?_
    refine thenQ_n ?_
    refine W_cond_at (b := (decide (y3 < (a1.length : Int)))) (by kernel_rfl) (fun hb => ?_) (fun hb => ?_)
    · have h := cond_t hb h
      refine W_skip_at (by kernel_rfl) ?_
      refine thenQ_n ?_
      refine W_seq_at (by kernel_rfl) ?_
      refine W_block_at 1 (by kernel_rfl) (by kernel_rfl) ?_
      refine W_seq_at (by kernel_rfl) ?_
      refine W_drawK 6 (by kernel_rfl) mixed (by kernel_rfl) ?_
      obtain ⟨c5, h⟩ := ck_bind h
      refine WQ_exk (n' := 1) (T' := [(0, .cell (.c (.int .i64 a0))), (1, .cell (.c (slC e44 a1))), (5, .cell (.c (.int .i64 y3))), (15, .cell (.c (.int .u64 (a1.getD y3.toNat e44.d)))), (16, .cell (.c (.int .i64 a0)))]) (Φ := (0 ≤ y3 ∧ y3 < (a1.length : Int)) ∧ (True)) 5 [0, 1, 5, 15, 16] (by kernel_rfl) ⟨c5, trivial⟩ ?_
      obtain ⟨r6, gr6, h⟩ := bind_some h
      refine WQ_call (f := 86) (all := [.cell (.c (.int .i64 a0))]) (d := some 17) (r := .cell (.c (.int .u64 r6))) (by kernel_rfl) (by kernel_rfl) (by kernel_rfl) Tryd.call86 (p86 L _ _ gr6) ?_
      refine WQ_done ?_
      refine WO_fin (σ' := []) (T' := [(0, .cell (.c (.int .i64 a0))), (1, .cell (.c (slC e44 a1))), (5, .cell (.c (.int .i64 y3))), (18, .cell (.c (.bool (decide ((a1.getD y3.toNat e44.d) ≥ r6)))))]) (Φ := (True)) 1 [0, 1, 5, 18] (by kernel_rfl) trivial (by kernel_rfl) ?_
      refine thenQ_n ?_
      refine W_cond_at (b := (decide ((a1.getD y3.toNat e44.d) ≥ r6))) (by kernel_rfl) (fun hb => ?_) (fun hb => ?_)
      · have h := cond_t hb h
        refine W_seq_at (by kernel_rfl) ?_
        refine W_region_at (by kernel_rfl) ?_
        refine WO_fin (σ' := []) (T' := [(4, .cell (.c (.bool false)))]) (Φ := (True)) 1 [4] (by kernel_rfl) trivial (by kernel_rfl) ?_
        refine thenQ_n ?_
        refine W_ret_at (by kernel_rfl) ?_
        refine blockQ_r ?_
        refine thenQ_r ?_
        obtain rfl := Option.some.inj h; refine round_r rfl (fun hb => ?_); subst hb; have h := kb4; dsimp only at h
        refine blockQ_r ?_
        obtain rfl := Option.some.inj h; have h := ky1; dsimp only at h; refine thenQ_r ?_
        obtain rfl := Option.some.inj h
        exact qret [.cell (.c (.bool false))] (by kernel_rfl) (by kernel_rfl) ([]) (by kernel_rfl)
      · have h := cond_f hb h
        refine W_skip_at (by kernel_rfl) ?_
        refine blockQ_n ?_
        refine thenQ_n ?_
        refine W_region_at (by kernel_rfl) ?_
        obtain ⟨c7, h⟩ := ck_bind h
        refine WO_fin (σ' := []) (T' := [(0, .cell (.c (.int .i64 a0))), (1, .cell (.c (slC e44 a1))), (5, .cell (.c (.int .i64 (y3 + (1 : Int)))))]) (Φ := (inR .i64 (y3 + (1 : Int))) ∧ (True)) 3 [0, 1, 5] (by kernel_rfl) ⟨c7, trivial⟩ (by kernel_rfl) ?_
        obtain rfl := Option.some.inj h
        exact round_n _ rfl (stps_ok [.keep [0, 1, 5], .take 0] (by kernel_rfl))
    · have h := cond_f hb h
      refine W_exit_at 0 (by kernel_rfl) (by kernel_rfl) ?_
      refine thenQ_e ?_
      obtain rfl := Option.some.inj h; refine round_e rfl (fun hb => ?_); subst hb; have h := kb4; dsimp only at h
      refine blockQ_hit ?_
      obtain rfl := Option.some.inj h
      exact thenQ_n ⟨_, rfl, stps_ok [.keep [], .take 0] (by kernel_rfl)⟩

/- attestorref12.counts -/
def s112 (L : LP) (a0 : Int) : Option Bool :=
  (bif (decide (a0 = (1 : Int))) then some true
  else some (decide (a0 = (2 : Int)))).bind fun y1 =>
  (bif y1 then some true
  else some (decide (a0 = (3 : Int)))).bind fun y2 =>
  (bif y2 then some true
  else some (decide (a0 = (5 : Int)))).bind fun y3 =>
  (bif y3 then some true
  else some (decide (a0 = (6 : Int)))).bind fun y4 =>
  some y4
theorem p112 (L : LP) (a0 : Int) (r : Bool) (h : s112 L a0 = some r) : Pure X 112 [.cell (.c (.int .u8 a0))] (.cell (.c (.bool r))) := by
  refine Pure_of_W (c := cd Tryd.f112 []) Tryd.func112 (by kernel_rfl) (N := 21) (by kernel_rfl) (Nat.le_of_ble_eq_true (by kernel_rfl)) ?_
  unfold s112 at h
  refine W_seq_at (by kernel_rfl) ?_
  refine W_region_at (by kernel_rfl) ?_
  refine WO_fin (σ' := []) (T' := [(0, .cell (.c (.int .u8 a0)))]) (Φ := (True)) 1 [0] (by kernel_rfl) trivial (by kernel_rfl) ?_
  refine thenQ_n ?_
  refine W_seq_at (by kernel_rfl) ?_
  refine W_region_at (by kernel_rfl) ?_
  refine WO_exk (σ' := []) (T' := [(0, .cell (.c (.int .u8 a0))), (5, .cell (.c (.bool (decide (a0 = (1 : Int))))))]) (Φ := (True)) 3 [0, 5] (by kernel_rfl) trivial ?_
  obtain ⟨y1, gy1, h⟩ := bind_some h
  refine WO_join 6 [] [(0, .cell (.c (.int .u8 a0))), (8, .cell (.c (.bool y1)))] ?_ ?_
  · clear gy1
    refine WO_exk (σ' := []) (T' := [(0, .cell (.c (.int .u8 a0))), (9, .cell (.c (.bool y1)))]) (Φ := (True)) 1 [0, 9] (by kernel_rfl) trivial ?_
    obtain ⟨y2, gy2, h⟩ := bind_some h
    refine WO_join 10 [] [(0, .cell (.c (.int .u8 a0))), (12, .cell (.c (.bool y2)))] ?_ ?_
    · clear gy2
      refine WO_exk (σ' := []) (T' := [(0, .cell (.c (.int .u8 a0))), (13, .cell (.c (.bool y2)))]) (Φ := (True)) 1 [0, 13] (by kernel_rfl) trivial ?_
      obtain ⟨y3, gy3, h⟩ := bind_some h
      refine WO_join 14 [] [(0, .cell (.c (.int .u8 a0))), (16, .cell (.c (.bool y3)))] ?_ ?_
      · clear gy3
        refine WO_exk (σ' := []) (T' := [(0, .cell (.c (.int .u8 a0))), (17, .cell (.c (.bool y3)))]) (Φ := (True)) 1 [0, 17] (by kernel_rfl) trivial ?_
        obtain ⟨y4, gy4, h⟩ := bind_some h
        refine WO_join 18 [] [(20, .cell (.c (.bool y4)))] ?_ ?_
        · clear gy4
          refine WO_fin (σ' := []) (T' := [(2, .cell (.c (.bool y4)))]) (Φ := (True)) 1 [2] (by kernel_rfl) trivial (by kernel_rfl) ?_
          refine thenQ_n ?_
          refine W_ret_at (by kernel_rfl) ?_
          obtain rfl := Option.some.inj h
          exact qret [.cell (.c (.bool y4))] (by kernel_rfl) (by kernel_rfl) ([]) (by kernel_rfl)
        · intro J
          clear h
          rcases Bool.eq_false_or_eq_true y3 with hb | hb
          · have h := cond_t hb gy4; clear gy4
            refine WO_ent (ent_bool (T' := [(17, .cell (.c (.bool true))), (0, .cell (.c (.int .u8 a0)))]) 17 hb (by kernel_rfl) (by kernel_rfl)) ?_
            obtain rfl := Option.some.inj h
            refine WO_exk (σ' := []) (T' := [(20, .cell (.c (.bool true)))]) (Φ := True) 3 [20] (by kernel_rfl) trivial J
          · have h := cond_f hb gy4; clear gy4
            refine WO_ent (ent_bool (T' := [(17, .cell (.c (.bool false))), (0, .cell (.c (.int .u8 a0)))]) 17 hb (by kernel_rfl) (by kernel_rfl)) ?_
            refine WO_exk (σ' := []) (T' := [(17, .cell (.c (.bool false))), (19, .cell (.c (.bool (decide (a0 = (6 : Int))))))]) (Φ := (True)) 2 [17, 19] (by kernel_rfl) trivial ?_
            obtain rfl := Option.some.inj h
            refine WO_exk (σ' := []) (T' := [(20, .cell (.c (.bool (decide (a0 = (6 : Int))))))]) (Φ := True) 1 [20] (by kernel_rfl) trivial J
      · intro J
        clear h
        rcases Bool.eq_false_or_eq_true y2 with hb | hb
        · have h := cond_t hb gy3; clear gy3
          refine WO_ent (ent_bool (T' := [(13, .cell (.c (.bool true))), (0, .cell (.c (.int .u8 a0)))]) 13 hb (by kernel_rfl) (by kernel_rfl)) ?_
          obtain rfl := Option.some.inj h
          refine WO_exk (σ' := []) (T' := [(0, .cell (.c (.int .u8 a0))), (16, .cell (.c (.bool true)))]) (Φ := True) 3 [0, 16] (by kernel_rfl) trivial J
        · have h := cond_f hb gy3; clear gy3
          refine WO_ent (ent_bool (T' := [(13, .cell (.c (.bool false))), (0, .cell (.c (.int .u8 a0)))]) 13 hb (by kernel_rfl) (by kernel_rfl)) ?_
          refine WO_exk (σ' := []) (T' := [(0, .cell (.c (.int .u8 a0))), (13, .cell (.c (.bool false))), (15, .cell (.c (.bool (decide (a0 = (5 : Int))))))]) (Φ := (True)) 2 [0, 13, 15] (by kernel_rfl) trivial ?_
          obtain rfl := Option.some.inj h
          refine WO_exk (σ' := []) (T' := [(0, .cell (.c (.int .u8 a0))), (16, .cell (.c (.bool (decide (a0 = (5 : Int))))))]) (Φ := True) 1 [0, 16] (by kernel_rfl) trivial J
    · intro J
      clear h
      rcases Bool.eq_false_or_eq_true y1 with hb | hb
      · have h := cond_t hb gy2; clear gy2
        refine WO_ent (ent_bool (T' := [(9, .cell (.c (.bool true))), (0, .cell (.c (.int .u8 a0)))]) 9 hb (by kernel_rfl) (by kernel_rfl)) ?_
        obtain rfl := Option.some.inj h
        refine WO_exk (σ' := []) (T' := [(0, .cell (.c (.int .u8 a0))), (12, .cell (.c (.bool true)))]) (Φ := True) 3 [0, 12] (by kernel_rfl) trivial J
      · have h := cond_f hb gy2; clear gy2
        refine WO_ent (ent_bool (T' := [(9, .cell (.c (.bool false))), (0, .cell (.c (.int .u8 a0)))]) 9 hb (by kernel_rfl) (by kernel_rfl)) ?_
        refine WO_exk (σ' := []) (T' := [(0, .cell (.c (.int .u8 a0))), (9, .cell (.c (.bool false))), (11, .cell (.c (.bool (decide (a0 = (3 : Int))))))]) (Φ := (True)) 2 [0, 9, 11] (by kernel_rfl) trivial ?_
        obtain rfl := Option.some.inj h
        refine WO_exk (σ' := []) (T' := [(0, .cell (.c (.int .u8 a0))), (12, .cell (.c (.bool (decide (a0 = (3 : Int))))))]) (Φ := True) 1 [0, 12] (by kernel_rfl) trivial J
  · intro J
    clear h
    rcases Bool.eq_false_or_eq_true (decide (a0 = (1 : Int))) with hb | hb
    · have h := cond_t hb gy1; clear gy1
      refine WO_ent (ent_bool (T' := [(5, .cell (.c (.bool true))), (0, .cell (.c (.int .u8 a0)))]) 5 hb (by kernel_rfl) (by kernel_rfl)) ?_
      obtain rfl := Option.some.inj h
      refine WO_exk (σ' := []) (T' := [(0, .cell (.c (.int .u8 a0))), (8, .cell (.c (.bool true)))]) (Φ := True) 3 [0, 8] (by kernel_rfl) trivial J
    · have h := cond_f hb gy1; clear gy1
      refine WO_ent (ent_bool (T' := [(5, .cell (.c (.bool false))), (0, .cell (.c (.int .u8 a0)))]) 5 hb (by kernel_rfl) (by kernel_rfl)) ?_
      refine WO_exk (σ' := []) (T' := [(0, .cell (.c (.int .u8 a0))), (5, .cell (.c (.bool false))), (7, .cell (.c (.bool (decide (a0 = (2 : Int))))))]) (Φ := (True)) 2 [0, 5, 7] (by kernel_rfl) trivial ?_
      obtain rfl := Option.some.inj h
      refine WO_exk (σ' := []) (T' := [(0, .cell (.c (.int .u8 a0))), (8, .cell (.c (.bool (decide (a0 = (2 : Int))))))]) (Φ := True) 1 [0, 8] (by kernel_rfl) trivial J

/- attestorref12.Degree -/
def s67_1 (L : LP) (a0 : (List (Int × (List (Int × Int))))) (y2 : (Int × Int)) (y6 : (Int × Int)) : Option ((Int × Int) ⊕ Int) :=
  (ck (0 ≤ y2.2 ∧ y2.2 < (a0.length : Int))).bind fun _ =>
  (bif (decide (y6.2 < (((a0.getD y2.2.toNat e74.d).2).length : Int))) then
  ((ck (0 ≤ y2.2 ∧ y2.2 < (a0.length : Int))).bind fun _ =>
  (ck (0 ≤ y6.2 ∧ y6.2 < (((a0.getD y2.2.toNat e74.d).2).length : Int))).bind fun _ =>
  (s112 L ((((a0.getD y2.2.toNat e74.d).2).getD y6.2.toNat e61.d).1)).bind fun r13 =>
  (bif r13 then
  (ck (inR .i64 (y6.1 + (1 : Int)))).bind fun _ =>
  some (y6.1 + (1 : Int))
  else some y6.1)).bind fun (y9 : Int) =>
  (ck (inR .i64 (y6.2 + (1 : Int)))).bind fun _ =>
  some (.inl (y9, (y6.2 + (1 : Int))))
  else some (.inr y6.1))
def s67_0 (L : LP) (a0 : (List (Int × (List (Int × Int))))) (y2 : (Int × Int)) : Option ((Int × Int) ⊕ Int) :=
  (bif (decide (y2.2 < (a0.length : Int))) then
  ((L.run (s67_1 L a0 y2) ((0 : Int), (0 : Int))).bind (fun (v : Int) => some v)).bind fun (y4 : Int) =>
  (ck (inR .i64 (y2.2 + (1 : Int)))).bind fun _ =>
  some (.inl ((if y4 > y2.1 then y4 else y2.1), (y2.2 + (1 : Int))))
  else some (.inr y2.1))
def s67 (L : LP) (a0 : (List (Int × (List (Int × Int))))) : Option Int :=
  ((L.run (s67_0 L a0) ((0 : Int), (0 : Int))).bind (fun (v : Int) => some v)).bind fun (y1 : Int) =>
  some y1
theorem p67 (L : LP) (a0 : (List (Int × (List (Int × Int))))) (r : Int) (h : s67 L a0 = some r) : Pure X 67 [.cell (.c (slC e74 a0))] (.cell (.c (.int .i64 r))) := by
  refine Pure_of_W (c := cd Tryd.f67 []) Tryd.func67 (by kernel_rfl) (N := 39) (by kernel_rfl) (Nat.le_of_ble_eq_true (by kernel_rfl)) ?_
  unfold s67 at h
  refine W_seq_at (by kernel_rfl) ?_
  refine W_region_at (by kernel_rfl) ?_
  refine WO_fin (σ' := []) (T' := [(0, .cell (.c (slC e74 a0)))]) (Φ := (True)) 1 [0] (by kernel_rfl) trivial (by kernel_rfl) ?_
  refine thenQ_n ?_
  refine W_seq_at (by kernel_rfl) ?_
  refine W_region_at (by kernel_rfl) ?_
  refine WO_fin (σ' := []) (T' := [(0, .cell (.c (slC e74 a0))), (3, .cell (.c (.int .i64 (0 : Int))))]) (Φ := (True)) 1 [0, 3] (by kernel_rfl) trivial (by kernel_rfl) ?_
  refine thenQ_n ?_
  obtain ⟨y1, gy1, ky1⟩ := bind_some h
  refine W_cut (by kernel_rfl) [] [(3, .cell (.c (.int .i64 y1)))] ?_ ?_
  · have h := ky1; clear gy1 ky1
    refine W_seq_at (by kernel_rfl) ?_
    refine W_region_at (by kernel_rfl) ?_
    refine WO_fin (σ' := []) (T' := [(2, .cell (.c (.int .i64 y1)))]) (Φ := (True)) 2 [2] (by kernel_rfl) trivial (by kernel_rfl) ?_
    refine thenQ_n ?_
    refine W_ret_at (by kernel_rfl) ?_
    obtain rfl := Option.some.inj h
    exact qret [.cell (.c (.int .i64 y1))] (by kernel_rfl) (by kernel_rfl) ([]) (by kernel_rfl)
  · have h := gy1; clear gy1 ky1
    refine W_seq_at (by kernel_rfl) ?_
    refine W_region_at (by kernel_rfl) ?_
    refine WO_fin (σ' := []) (T' := [(0, .cell (.c (slC e74 a0))), (3, .cell (.c (.int .i64 (0 : Int)))), (4, .cell (.c (.int .i64 (0 : Int))))]) (Φ := (True)) 1 [0, 3, 4] (by kernel_rfl) trivial (by kernel_rfl) ?_
    refine thenQ_n ?_
    refine W_block_at 0 (by kernel_rfl) (by kernel_rfl) ?_
    obtain ⟨b3, gb3, kb3⟩ := bind_some h
    refine W_loop_at (S := fun (y2 : (Int × Int)) => ([], [(0, .cell (.c (slC e74 a0))), (3, .cell (.c (.int .i64 y2.1))), (4, .cell (.c (.int .i64 y2.2)))])) (step := _) (x0 := ((0 : Int), (0 : Int))) (b := b3) (L.ok _ _ _ gb3) (by kernel_rfl) (stps_ok [.keep [0, 3, 4], .take 0] (by kernel_rfl)) ?_
    clear gb3 h; intro y2 o h; unfold s67_0 at h
    refine W_seq_at (by kernel_rfl) ?_
    refine W_seq_at (by kernel_rfl) ?_
    refine W_region_at (by kernel_rfl) ?_
    refine WO_fin (σ' := []) (T' := [(0, .cell (.c (slC e74 a0))), (3, .cell (.c (.int .i64 y2.1))), (4, .cell (.c (.int .i64 y2.2))), (10, .cell (.c (.bool (decide (y2.2 < (a0.length : Int))))))]) (Φ := (True)) 4 [0, 3, 4, 10] (by kernel_rfl) trivial (by kernel_rfl) ?_
    refine thenQ_n ?_
    refine W_cond_at (b := (decide (y2.2 < (a0.length : Int)))) (by kernel_rfl) (fun hb => ?_) (fun hb => ?_)
    · have h := cond_t hb h
      refine W_skip_at (by kernel_rfl) ?_
      refine thenQ_n ?_
      refine W_seq_at (by kernel_rfl) ?_
      refine W_block_at 1 (by kernel_rfl) (by kernel_rfl) ?_
      refine W_seq_at (by kernel_rfl) ?_
      refine W_region_at (by kernel_rfl) ?_
      refine WO_fin (σ' := []) (T' := [(0, .cell (.c (slC e74 a0))), (3, .cell (.c (.int .i64 y2.1))), (4, .cell (.c (.int .i64 y2.2))), (5, .cell (.c (.int .i64 (0 : Int))))]) (Φ := (True)) 1 [0, 3, 4, 5] (by kernel_rfl) trivial (by kernel_rfl) ?_
      refine thenQ_n ?_
      obtain ⟨y4, gy4, ky4⟩ := bind_some h
      refine W_cut (by kernel_rfl) [] [(0, .cell (.c (slC e74 a0))), (3, .cell (.c (.int .i64 y2.1))), (4, .cell (.c (.int .i64 y2.2))), (5, .cell (.c (.int .i64 y4)))] ?_ ?_
      · have h := ky4; clear gy4 ky4
        refine W_region_at (by kernel_rfl) ?_
        refine WO_fin (σ' := []) (T' := [(0, .cell (.c (slC e74 a0))), (3, .cell (.c (.int .i64 (if y4 > y2.1 then y4 else y2.1)))), (4, .cell (.c (.int .i64 y2.2)))]) (Φ := (True)) 4 [0, 3, 4] (by kernel_rfl) trivial (by kernel_rfl) ?_
        refine blockQ_n ?_
        refine thenQ_n ?_
        refine W_region_at (by kernel_rfl) ?_
        obtain ⟨c5, h⟩ := ck_bind h
        refine WO_fin (σ' := []) (T' := [(0, .cell (.c (slC e74 a0))), (3, .cell (.c (.int .i64 (if y4 > y2.1 then y4 else y2.1)))), (4, .cell (.c (.int .i64 (y2.2 + (1 : Int)))))]) (Φ := (inR .i64 (y2.2 + (1 : Int))) ∧ (True)) 3 [0, 3, 4] (by kernel_rfl) ⟨c5, trivial⟩ (by kernel_rfl) ?_
        obtain rfl := Option.some.inj h
        exact round_n _ rfl (stps_ok [.keep [0, 3, 4], .take 0] (by kernel_rfl))
      · have h := gy4; clear gy4 ky4
        refine W_seq_at (by kernel_rfl) ?_
        refine W_region_at (by kernel_rfl) ?_
        refine WO_fin (σ' := []) (T' := [(0, .cell (.c (slC e74 a0))), (3, .cell (.c (.int .i64 y2.1))), (4, .cell (.c (.int .i64 y2.2))), (5, .cell (.c (.int .i64 (0 : Int)))), (6, .cell (.c (.int .i64 (0 : Int))))]) (Φ := (True)) 1 [0, 3, 4, 5, 6] (by kernel_rfl) trivial (by kernel_rfl) ?_
        refine thenQ_n ?_
        refine W_block_at 2 (by kernel_rfl) (by kernel_rfl) ?_
        obtain ⟨b7, gb7, kb7⟩ := bind_some h
        refine W_loop_at (S := fun (y6 : (Int × Int)) => ([], [(0, .cell (.c (slC e74 a0))), (3, .cell (.c (.int .i64 y2.1))), (4, .cell (.c (.int .i64 y2.2))), (5, .cell (.c (.int .i64 y6.1))), (6, .cell (.c (.int .i64 y6.2)))])) (step := _) (x0 := ((0 : Int), (0 : Int))) (b := b7) (L.ok _ _ _ gb7) (by kernel_rfl) (stps_ok [.keep [0, 3, 4, 5, 6], .take 0] (by kernel_rfl)) ?_
        clear gb7 h; intro y6 o h; unfold s67_1 at h
        refine W_seq_at (by kernel_rfl) ?_
        refine W_seq_at (by kernel_rfl) ?_
        refine W_region_at (by kernel_rfl) ?_
        obtain ⟨c8, h⟩ := ck_bind h
        refine WO_fin (σ' := []) (T' := [(0, .cell (.c (slC e74 a0))), (3, .cell (.c (.int .i64 y2.1))), (4, .cell (.c (.int .i64 y2.2))), (5, .cell (.c (.int .i64 y6.1))), (6, .cell (.c (.int .i64 y6.2))), (20, .cell (.c (.bool (decide (y6.2 < (((a0.getD y2.2.toNat e74.d).2).length : Int))))))]) (Φ := (0 ≤ y2.2 ∧ y2.2 < (a0.length : Int)) ∧ (True)) 8 [0, 3, 4, 5, 6, 20] (by kernel_rfl) ⟨c8, trivial⟩ (by kernel_rfl) ?_
        refine thenQ_n ?_
        refine W_cond_at (b := (decide (y6.2 < (((a0.getD y2.2.toNat e74.d).2).length : Int)))) (by kernel_rfl) (fun hb => ?_) (fun hb => ?_)
        · have h := cond_t hb h
          refine W_skip_at (by kernel_rfl) ?_
          refine thenQ_n ?_
          obtain ⟨y9, gy9, ky9⟩ := bind_some h
          refine W_cut (by kernel_rfl) [] [(0, .cell (.c (slC e74 a0))), (3, .cell (.c (.int .i64 y2.1))), (4, .cell (.c (.int .i64 y2.2))), (5, .cell (.c (.int .i64 y9))), (6, .cell (.c (.int .i64 y6.2)))] ?_ ?_
          · have h := ky9; clear gy9 ky9
            refine W_region_at (by kernel_rfl) ?_
            obtain ⟨c10, h⟩ := ck_bind h
            refine WO_fin (σ' := []) (T' := [(0, .cell (.c (slC e74 a0))), (3, .cell (.c (.int .i64 y2.1))), (4, .cell (.c (.int .i64 y2.2))), (5, .cell (.c (.int .i64 y9))), (6, .cell (.c (.int .i64 (y6.2 + (1 : Int)))))]) (Φ := (inR .i64 (y6.2 + (1 : Int))) ∧ (True)) 3 [0, 3, 4, 5, 6] (by kernel_rfl) ⟨c10, trivial⟩ (by kernel_rfl) ?_
            obtain rfl := Option.some.inj h
            exact round_n _ rfl (stps_ok [.keep [0, 3, 4, 5, 6], .take 0] (by kernel_rfl))
          · have h := gy9; clear gy9 ky9
            refine W_block_at 3 (by kernel_rfl) (by kernel_rfl) ?_
            refine W_seq_at (by kernel_rfl) ?_
            refine W_region_at (by kernel_rfl) ?_
            obtain ⟨c11, h⟩ := ck_bind h
            obtain ⟨c12, h⟩ := ck_bind h
            refine WO_exk (σ' := []) (T' := [(0, .cell (.c (slC e74 a0))), (3, .cell (.c (.int .i64 y2.1))), (4, .cell (.c (.int .i64 y2.2))), (5, .cell (.c (.int .i64 y6.1))), (6, .cell (.c (.int .i64 y6.2))), (31, .cell (.c (.int .u8 ((((a0.getD y2.2.toNat e74.d).2).getD y6.2.toNat e61.d).1))))]) (Φ := (0 ≤ y2.2 ∧ y2.2 < (a0.length : Int)) ∧ (0 ≤ y6.2 ∧ y6.2 < (((a0.getD y2.2.toNat e74.d).2).length : Int)) ∧ (True)) 9 [0, 3, 4, 5, 6, 31] (by kernel_rfl) ⟨c11, c12, trivial⟩ ?_
            obtain ⟨r13, gr13, h⟩ := bind_some h
            refine WO_call (f := 112) (all := [.cell (.c (.int .u8 ((((a0.getD y2.2.toNat e74.d).2).getD y6.2.toNat e61.d).1)))]) (d := some 32) (r := .cell (.c (.bool r13))) (by kernel_rfl) (by kernel_rfl) (by kernel_rfl) Tryd.call112 (p112 L _ _ gr13) ?_
            refine WO_fin (σ' := []) (T' := [(0, .cell (.c (slC e74 a0))), (3, .cell (.c (.int .i64 y2.1))), (4, .cell (.c (.int .i64 y2.2))), (5, .cell (.c (.int .i64 y6.1))), (6, .cell (.c (.int .i64 y6.2))), (32, .cell (.c (.bool r13)))]) (Φ := True) 0 [0, 3, 4, 5, 6, 32] (by kernel_rfl) trivial (by kernel_rfl) ?_
            refine thenQ_n ?_
            refine W_cond_at (b := r13) (by kernel_rfl) (fun hb => ?_) (fun hb => ?_)
            · have h := cond_t hb h
              refine W_region_at (by kernel_rfl) ?_
              obtain ⟨c14, h⟩ := ck_bind h
              refine WO_fin (σ' := []) (T' := [(0, .cell (.c (slC e74 a0))), (3, .cell (.c (.int .i64 y2.1))), (4, .cell (.c (.int .i64 y2.2))), (5, .cell (.c (.int .i64 (y6.1 + (1 : Int))))), (6, .cell (.c (.int .i64 y6.2)))]) (Φ := (inR .i64 (y6.1 + (1 : Int))) ∧ (True)) 3 [0, 3, 4, 5, 6] (by kernel_rfl) ⟨c14, trivial⟩ (by kernel_rfl) ?_
              refine blockQ_n ?_
              obtain rfl := Option.some.inj h
              exact thenQ_n (stps_ok [.keep [0, 3, 4, 5, 6], .take 0] (by kernel_rfl))
            · have h := cond_f hb h
              refine W_skip_at (by kernel_rfl) ?_
              refine blockQ_n ?_
              obtain rfl := Option.some.inj h
              exact thenQ_n (stps_ok [.keep [0, 3, 4, 5, 6], .take 0] (by kernel_rfl))
        · have h := cond_f hb h
          refine W_exit_at 2 (by kernel_rfl) (by kernel_rfl) ?_
          refine thenQ_e ?_
          obtain rfl := Option.some.inj h; refine round_e rfl (fun hb => ?_); subst hb; have h := kb7
          refine blockQ_hit ?_
          obtain rfl := Option.some.inj h
          exact thenQ_n (stps_ok [.keep [0, 3, 4, 5], .take 0] (by kernel_rfl))
    · have h := cond_f hb h
      refine W_exit_at 0 (by kernel_rfl) (by kernel_rfl) ?_
      refine thenQ_e ?_
      obtain rfl := Option.some.inj h; refine round_e rfl (fun hb => ?_); subst hb; have h := kb3
      refine blockQ_hit ?_
      obtain rfl := Option.some.inj h
      exact thenQ_n (stps_ok [.keep [3], .take 0] (by kernel_rfl))

/- attestorref13.within -/
def s101 (L : LP) (a0_0 : Int) (a0_1 : Int) (a0_2 : Int) (a0_3 : Int) (a0_4 : (List (List Int))) (a0_5 : (List (Int × (List (Int × (List (Int × Int))))))) (a0_6 : (List ((List (List (Int × Int))) × (List (List (Int × Int)))))) (a0_7 : (List ((List (Int × Int)) × (List (Int × Int)) × Int × Int))) (a1_0 : Int) (a1_1 : Int) : Option Bool :=
  (bif (decide (a1_1 < (0 : Int))) then
  some false
  else ((bif (decide (a1_0 = (1 : Int))) then
  some (decide (a1_0 = (1 : Int)))
  else some (decide (a1_0 = (2 : Int))))).bind fun (y1 : Bool) =>
  (bif y1 then
  some (decide (a1_1 < a0_2))
  else (bif (decide (a1_0 = (3 : Int))) then
  some (decide (a1_1 < (a0_4.length : Int)))
  else (bif (decide (a1_0 = (4 : Int))) then
  some (decide (a1_1 < a0_3))
  else some false))))
theorem p101 (L : LP) (a0_0 : Int) (a0_1 : Int) (a0_2 : Int) (a0_3 : Int) (a0_4 : (List (List Int))) (a0_5 : (List (Int × (List (Int × (List (Int × Int))))))) (a0_6 : (List ((List (List (Int × Int))) × (List (List (Int × Int)))))) (a0_7 : (List ((List (Int × Int)) × (List (Int × Int)) × Int × Int))) (a1_0 : Int) (a1_1 : Int) (r : Bool) (h : s101 L a0_0 a0_1 a0_2 a0_3 a0_4 a0_5 a0_6 a0_7 a1_0 a1_1 = some r) : Pure X 101 [.agg [.c (.int .i64 a0_0), .c (.int .i64 a0_1), .c (.int .i64 a0_2), .c (.int .i64 a0_3), .c (slC e28 a0_4), .c (slC e72 a0_5), .c (slC e65 a0_6), .c (slC e77 a0_7)], .agg [.c (.int .u8 a1_0), .c (.int .i64 a1_1)]] (.cell (.c (.bool r))) := by
  refine Pure_of_W (c := cd Tryd.f101 []) Tryd.func101 (by kernel_rfl) (N := 33) (by kernel_rfl) (Nat.le_of_ble_eq_true (by kernel_rfl)) ?_
  unfold s101 at h
  refine W_seq_at (by kernel_rfl) ?_
  refine W_region_at (by kernel_rfl) ?_
  refine WO_fin (σ' := [some (.lit 0 27 [.c (.int .i64 a0_0), .c (.int .i64 a0_1), .c (.int .i64 a0_2), .c (.int .i64 a0_3), .c (slC e28 a0_4), .c (slC e72 a0_5), .c (slC e65 a0_6), .c (slC e77 a0_7)]), some (.lit 0 61 [.c (.int .u8 a1_0), .c (.int .i64 a1_1)])]) (T' := [(2, .cell (.op 0 0 8 0 0)), (3, .cell (.op 1 0 2 0 0))]) (Φ := (True)) 3 [2, 3] (by kernel_rfl) trivial (by kernel_rfl) ?_
  refine thenQ_n ?_
  refine W_seq_at (by kernel_rfl) ?_
  refine W_seq_at (by kernel_rfl) ?_
  refine W_region_at (by kernel_rfl) ?_
  refine WO_fin (σ' := [some (.lit 0 27 [.c (.int .i64 a0_0), .c (.int .i64 a0_1), .c (.int .i64 a0_2), .c (.int .i64 a0_3), .c (slC e28 a0_4), .c (slC e72 a0_5), .c (slC e65 a0_6), .c (slC e77 a0_7)]), some (.lit 0 61 [.c (.int .u8 a1_0), .c (.int .i64 a1_1)])]) (T' := [(2, .cell (.op 0 0 8 0 0)), (3, .cell (.op 1 0 2 0 0)), (7, .cell (.c (.bool (decide (a1_1 < (0 : Int))))))]) (Φ := (True)) 3 [2, 3, 7] (by kernel_rfl) trivial (by kernel_rfl) ?_
  refine thenQ_n ?_
  refine W_cond_at (b := (decide (a1_1 < (0 : Int)))) (by kernel_rfl) (fun hb => ?_) (fun hb => ?_)
  · have h := cond_t hb h
    refine W_seq_at (by kernel_rfl) ?_
    refine W_region_at (by kernel_rfl) ?_
    refine WO_fin (σ' := [some (.lit 0 27 [.c (.int .i64 a0_0), .c (.int .i64 a0_1), .c (.int .i64 a0_2), .c (.int .i64 a0_3), .c (slC e28 a0_4), .c (slC e72 a0_5), .c (slC e65 a0_6), .c (slC e77 a0_7)]), some (.lit 0 61 [.c (.int .u8 a1_0), .c (.int .i64 a1_1)])]) (T' := [(4, .cell (.c (.bool false)))]) (Φ := (True)) 1 [4] (by kernel_rfl) trivial (by kernel_rfl) ?_
    refine thenQ_n ?_
    refine W_ret_at (by kernel_rfl) ?_
    refine thenQ_r ?_
    obtain rfl := Option.some.inj h
    exact qret [.cell (.c (.bool false))] (by kernel_rfl) (by kernel_rfl) ([]) (by kernel_rfl)
  · have h := cond_f hb h
    refine W_skip_at (by kernel_rfl) ?_
    refine thenQ_n ?_
    refine W_seq_at (by kernel_rfl) ?_
    refine W_seq_at (by kernel_rfl) ?_
    refine W_region_at (by kernel_rfl) ?_
    refine WO_fin (σ' := [some (.lit 0 27 [.c (.int .i64 a0_0), .c (.int .i64 a0_1), .c (.int .i64 a0_2), .c (.int .i64 a0_3), .c (slC e28 a0_4), .c (slC e72 a0_5), .c (slC e65 a0_6), .c (slC e77 a0_7)]), some (.lit 0 61 [.c (.int .u8 a1_0), .c (.int .i64 a1_1)])]) (T' := [(2, .cell (.op 0 0 8 0 0)), (3, .cell (.op 1 0 2 0 0)), (9, .cell (.c (.int .u8 a1_0)))]) (Φ := (True)) 2 [2, 3, 9] (by kernel_rfl) trivial (by kernel_rfl) ?_
    refine thenQ_n ?_
    refine W_block_at 0 (by kernel_rfl) (by kernel_rfl) ?_
    obtain ⟨y1, gy1, ky1⟩ := bind_some h
    refine W_cut (by kernel_rfl) [some (.lit 0 27 [.c (.int .i64 a0_0), .c (.int .i64 a0_1), .c (.int .i64 a0_2), .c (.int .i64 a0_3), .c (slC e28 a0_4), .c (slC e72 a0_5), .c (slC e65 a0_6), .c (slC e77 a0_7)]), some (.lit 0 61 [.c (.int .u8 a1_0), .c (.int .i64 a1_1)])] [(2, .cell (.op 0 0 8 0 0)), (3, .cell (.op 1 0 2 0 0)), (9, .cell (.c (.int .u8 a1_0))), (10, .cell (.c (.bool y1)))] ?_ ?_
    · have h := ky1; clear gy1 ky1
      refine W_cond_at (b := y1) (by kernel_rfl) (fun hb => ?_) (fun hb => ?_)
      · have h := cond_t hb h
        refine W_seq_at (by kernel_rfl) ?_
        refine W_region_at (by kernel_rfl) ?_
        refine WO_fin (σ' := [some (.lit 0 27 [.c (.int .i64 a0_0), .c (.int .i64 a0_1), .c (.int .i64 a0_2), .c (.int .i64 a0_3), .c (slC e28 a0_4), .c (slC e72 a0_5), .c (slC e65 a0_6), .c (slC e77 a0_7)]), some (.lit 0 61 [.c (.int .u8 a1_0), .c (.int .i64 a1_1)])]) (T' := [(4, .cell (.c (.bool (decide (a1_1 < a0_2)))))]) (Φ := (True)) 6 [4] (by kernel_rfl) trivial (by kernel_rfl) ?_
        refine thenQ_n ?_
        refine W_ret_at (by kernel_rfl) ?_
        refine blockQ_r ?_
        refine thenQ_r ?_
        obtain rfl := Option.some.inj h
        exact qret [.cell (.c (.bool (decide (a1_1 < a0_2))))] (by kernel_rfl) (by kernel_rfl) ([]) (by kernel_rfl)
      · have h := cond_f hb h
        refine W_seq_at (by kernel_rfl) ?_
        refine W_region_at (by kernel_rfl) ?_
        refine WO_fin (σ' := [some (.lit 0 27 [.c (.int .i64 a0_0), .c (.int .i64 a0_1), .c (.int .i64 a0_2), .c (.int .i64 a0_3), .c (slC e28 a0_4), .c (slC e72 a0_5), .c (slC e65 a0_6), .c (slC e77 a0_7)]), some (.lit 0 61 [.c (.int .u8 a1_0), .c (.int .i64 a1_1)])]) (T' := [(2, .cell (.op 0 0 8 0 0)), (3, .cell (.op 1 0 2 0 0)), (9, .cell (.c (.int .u8 a1_0))), (18, .cell (.c (.bool (decide (a1_0 = (3 : Int))))))]) (Φ := (True)) 2 [2, 3, 9, 18] (by kernel_rfl) trivial (by kernel_rfl) ?_
        refine thenQ_n ?_
        refine W_cond_at (b := (decide (a1_0 = (3 : Int)))) (by kernel_rfl) (fun hb => ?_) (fun hb => ?_)
        · have h := cond_t hb h
          refine W_seq_at (by kernel_rfl) ?_
          refine W_region_at (by kernel_rfl) ?_
          refine WO_fin (σ' := [some (.lit 0 27 [.c (.int .i64 a0_0), .c (.int .i64 a0_1), .c (.int .i64 a0_2), .c (.int .i64 a0_3), .c (slC e28 a0_4), .c (slC e72 a0_5), .c (slC e65 a0_6), .c (slC e77 a0_7)]), some (.lit 0 61 [.c (.int .u8 a1_0), .c (.int .i64 a1_1)])]) (T' := [(4, .cell (.c (.bool (decide (a1_1 < (a0_4.length : Int))))))]) (Φ := (True)) 7 [4] (by kernel_rfl) trivial (by kernel_rfl) ?_
          refine thenQ_n ?_
          refine W_ret_at (by kernel_rfl) ?_
          refine blockQ_r ?_
          refine thenQ_r ?_
          obtain rfl := Option.some.inj h
          exact qret [.cell (.c (.bool (decide (a1_1 < (a0_4.length : Int)))))] (by kernel_rfl) (by kernel_rfl) ([]) (by kernel_rfl)
        · have h := cond_f hb h
          refine W_seq_at (by kernel_rfl) ?_
          refine W_region_at (by kernel_rfl) ?_
          refine WO_fin (σ' := [some (.lit 0 27 [.c (.int .i64 a0_0), .c (.int .i64 a0_1), .c (.int .i64 a0_2), .c (.int .i64 a0_3), .c (slC e28 a0_4), .c (slC e72 a0_5), .c (slC e65 a0_6), .c (slC e77 a0_7)]), some (.lit 0 61 [.c (.int .u8 a1_0), .c (.int .i64 a1_1)])]) (T' := [(2, .cell (.op 0 0 8 0 0)), (3, .cell (.op 1 0 2 0 0)), (26, .cell (.c (.bool (decide (a1_0 = (4 : Int))))))]) (Φ := (True)) 2 [2, 3, 26] (by kernel_rfl) trivial (by kernel_rfl) ?_
          refine thenQ_n ?_
          refine W_cond_at (b := (decide (a1_0 = (4 : Int)))) (by kernel_rfl) (fun hb => ?_) (fun hb => ?_)
          · have h := cond_t hb h
            refine W_seq_at (by kernel_rfl) ?_
            refine W_region_at (by kernel_rfl) ?_
            refine WO_fin (σ' := [some (.lit 0 27 [.c (.int .i64 a0_0), .c (.int .i64 a0_1), .c (.int .i64 a0_2), .c (.int .i64 a0_3), .c (slC e28 a0_4), .c (slC e72 a0_5), .c (slC e65 a0_6), .c (slC e77 a0_7)]), some (.lit 0 61 [.c (.int .u8 a1_0), .c (.int .i64 a1_1)])]) (T' := [(4, .cell (.c (.bool (decide (a1_1 < a0_3)))))]) (Φ := (True)) 6 [4] (by kernel_rfl) trivial (by kernel_rfl) ?_
            refine thenQ_n ?_
            refine W_ret_at (by kernel_rfl) ?_
            refine blockQ_r ?_
            refine thenQ_r ?_
            obtain rfl := Option.some.inj h
            exact qret [.cell (.c (.bool (decide (a1_1 < a0_3))))] (by kernel_rfl) (by kernel_rfl) ([]) (by kernel_rfl)
          · have h := cond_f hb h
            refine W_skip_at (by kernel_rfl) ?_
            refine blockQ_n ?_
            refine thenQ_n ?_
            refine W_seq_at (by kernel_rfl) ?_
            refine W_region_at (by kernel_rfl) ?_
            refine WO_fin (σ' := [some (.lit 0 27 [.c (.int .i64 a0_0), .c (.int .i64 a0_1), .c (.int .i64 a0_2), .c (.int .i64 a0_3), .c (slC e28 a0_4), .c (slC e72 a0_5), .c (slC e65 a0_6), .c (slC e77 a0_7)]), some (.lit 0 61 [.c (.int .u8 a1_0), .c (.int .i64 a1_1)])]) (T' := [(4, .cell (.c (.bool false)))]) (Φ := (True)) 1 [4] (by kernel_rfl) trivial (by kernel_rfl) ?_
            refine thenQ_n ?_
            refine W_ret_at (by kernel_rfl) ?_
            obtain rfl := Option.some.inj h
            exact qret [.cell (.c (.bool false))] (by kernel_rfl) (by kernel_rfl) ([]) (by kernel_rfl)
    · have h := gy1; clear gy1 ky1
      refine W_seq_at (by kernel_rfl) ?_
      refine W_region_at (by kernel_rfl) ?_
      refine WO_fin (σ' := [some (.lit 0 27 [.c (.int .i64 a0_0), .c (.int .i64 a0_1), .c (.int .i64 a0_2), .c (.int .i64 a0_3), .c (slC e28 a0_4), .c (slC e72 a0_5), .c (slC e65 a0_6), .c (slC e77 a0_7)]), some (.lit 0 61 [.c (.int .u8 a1_0), .c (.int .i64 a1_1)])]) (T' := [(2, .cell (.op 0 0 8 0 0)), (3, .cell (.op 1 0 2 0 0)), (9, .cell (.c (.int .u8 a1_0))), (10, .cell (.c (.bool (decide (a1_0 = (1 : Int))))))]) (Φ := (True)) 2 [2, 3, 9, 10] (by kernel_rfl) trivial (by kernel_rfl) ?_
      refine thenQ_n ?_
      refine W_cond_at (b := (decide (a1_0 = (1 : Int)))) (by kernel_rfl) (fun hb => ?_) (fun hb => ?_)
      · have h := cond_t hb h
        refine W_skip_at (by kernel_rfl) ?_
        obtain rfl := Option.some.inj h
        exact thenQ_n (stps_ok [.keep [2, 3, 9, 10], .take 2] (by kernel_rfl))
      · have h := cond_f hb h
        refine W_region_at (by kernel_rfl) ?_
        refine WO_fin (σ' := [some (.lit 0 27 [.c (.int .i64 a0_0), .c (.int .i64 a0_1), .c (.int .i64 a0_2), .c (.int .i64 a0_3), .c (slC e28 a0_4), .c (slC e72 a0_5), .c (slC e65 a0_6), .c (slC e77 a0_7)]), some (.lit 0 61 [.c (.int .u8 a1_0), .c (.int .i64 a1_1)])]) (T' := [(2, .cell (.op 0 0 8 0 0)), (3, .cell (.op 1 0 2 0 0)), (9, .cell (.c (.int .u8 a1_0))), (10, .cell (.c (.bool (decide (a1_0 = (2 : Int))))))]) (Φ := (True)) 2 [2, 3, 9, 10] (by kernel_rfl) trivial (by kernel_rfl) ?_
        obtain rfl := Option.some.inj h
        exact thenQ_n (stps_ok [.keep [2, 3, 9, 10], .take 2] (by kernel_rfl))

/- attestorref13.rule -/
def s51_1 (L : LP) (a0_0 : Int) (a0_1 : Int) (a0_2 : Int) (a0_3 : Int) (a0_4 : (List (List Int))) (a0_5 : (List (Int × (List (Int × (List (Int × Int))))))) (a0_6 : (List ((List (List (Int × Int))) × (List (List (Int × Int)))))) (a0_7 : (List ((List (Int × Int)) × (List (Int × Int)) × Int × Int))) (a1_1 : (List (Int × (List (Int × Int))))) (y3 : Bool) (y8 : Int) (y16 : Int) : Option (Int ⊕ (Bool ⊕ Unit)) :=
  (bif (decide (y16 < (((a1_1.getD y8.toNat e74.d).2).length : Int))) then
  (ck (0 ≤ y16 ∧ y16 < (((a1_1.getD y8.toNat e74.d).2).length : Int))).bind fun _ =>
  (s101 L a0_0 a0_1 a0_2 a0_3 a0_4 a0_5 a0_6 a0_7 ((((a1_1.getD y8.toNat e74.d).2).getD y16.toNat e61.d).1) ((((a1_1.getD y8.toNat e74.d).2).getD y16.toNat e61.d).2)).bind fun r19 =>
  (bif (!r19) then some true
  else (bif y3 then (ck (0 ≤ y16 ∧ y16 < (((a1_1.getD y8.toNat e74.d).2).length : Int))).bind fun _ =>
  some (decide (((((a1_1.getD y8.toNat e74.d).2).getD y16.toNat e61.d).1) = (2 : Int)))
  else some false).bind fun y22 =>
  some y22).bind fun y20 =>
  (bif y20 then
  some (.inr (.inl false))
  else (ck (inR .i64 (y16 + (1 : Int)))).bind fun _ =>
  some (.inl (y16 + (1 : Int))))
  else some (.inr (.inr ())))
def s51_0 (L : LP) (a0_0 : Int) (a0_1 : Int) (a0_2 : Int) (a0_3 : Int) (a0_4 : (List (List Int))) (a0_5 : (List (Int × (List (Int × (List (Int × Int))))))) (a0_6 : (List ((List (List (Int × Int))) × (List (List (Int × Int)))))) (a0_7 : (List ((List (Int × Int)) × (List (Int × Int)) × Int × Int))) (a1_1 : (List (Int × (List (Int × Int))))) (y3 : Bool) (y8 : Int) : Option (Int ⊕ (Bool ⊕ Unit)) :=
  (bif (decide (y8 < (a1_1.length : Int))) then
  ((ck (0 ≤ y8 ∧ y8 < (a1_1.length : Int))).bind fun _ =>
  (s86 L a0_0).bind fun r14 =>
  (bif (decide (((a1_1.getD y8.toNat e74.d).1) ≥ r14)) then some true
  else some (decide ((((a1_1.getD y8.toNat e74.d).2).length : Int) > (8 : Int)))).bind fun y15 =>
  (bif y15 then
  some (.inr false)
  else (L.run (s51_1 L a0_0 a0_1 a0_2 a0_3 a0_4 a0_5 a0_6 a0_7 a1_1 y3 y8) (0 : Int)).bind (fun (b : Bool ⊕ Unit) => (match b with
  | .inl v => some (.inr v)
  | .inr v => some (.inl ()))))).bind fun (y10 : Unit ⊕ Bool) => (match y10 with
  | .inl v11 => (ck (inR .i64 (y8 + (1 : Int)))).bind fun _ =>
  some (.inl (y8 + (1 : Int)))
  | .inr v11 => some (.inr (.inl v11)))
  else some (.inr (.inr ())))
def s51 (L : LP) (a0_0 : Int) (a0_1 : Int) (a0_2 : Int) (a0_3 : Int) (a0_4 : (List (List Int))) (a0_5 : (List (Int × (List (Int × (List (Int × Int))))))) (a0_6 : (List ((List (List (Int × Int))) × (List (List (Int × Int)))))) (a0_7 : (List ((List (Int × Int)) × (List (Int × Int)) × Int × Int))) (a1_0 : Int) (a1_1 : (List (Int × (List (Int × Int))))) : Option Bool :=
  (bif (decide (a1_0 < (1 : Int))) then some true
  else some (decide (a1_0 > (4 : Int)))).bind fun y1 =>
  (bif y1 then some true
  else some (decide ((a1_1.length : Int) > (64 : Int)))).bind fun y2 =>
  (bif y2 then
  some false
  else (bif (decide (a1_0 = (3 : Int))) then some true
  else some (decide (a1_0 = (4 : Int)))).bind fun y3 =>
  ((L.run (s51_0 L a0_0 a0_1 a0_2 a0_3 a0_4 a0_5 a0_6 a0_7 a1_1 y3) (0 : Int)).bind (fun (b : Bool ⊕ Unit) => (match b with
  | .inl v => some (.inr v)
  | .inr v => some (.inl ())))).bind fun (y4 : Unit ⊕ Bool) => (match y4 with
  | .inl v5 => (bif (!y3) then some true
  else (s67 L a1_1).bind fun r7 =>
  some (decide (r7 ≤ (1 : Int)))).bind fun y6 =>
  some y6
  | .inr v5 => some v5))
theorem p51 (L : LP) (a0_0 : Int) (a0_1 : Int) (a0_2 : Int) (a0_3 : Int) (a0_4 : (List (List Int))) (a0_5 : (List (Int × (List (Int × (List (Int × Int))))))) (a0_6 : (List ((List (List (Int × Int))) × (List (List (Int × Int)))))) (a0_7 : (List ((List (Int × Int)) × (List (Int × Int)) × Int × Int))) (a1_0 : Int) (a1_1 : (List (Int × (List (Int × Int))))) (r : Bool) (h : s51 L a0_0 a0_1 a0_2 a0_3 a0_4 a0_5 a0_6 a0_7 a1_0 a1_1 = some r) : Pure X 51 [.agg [.c (.int .i64 a0_0), .c (.int .i64 a0_1), .c (.int .i64 a0_2), .c (.int .i64 a0_3), .c (slC e28 a0_4), .c (slC e72 a0_5), .c (slC e65 a0_6), .c (slC e77 a0_7)], .agg [.c (.int .u8 a1_0), .c (slC e74 a1_1)]] (.cell (.c (.bool r))) := by
  refine Pure_of_W (c := cd Tryd.f51 []) Tryd.func51 (by kernel_rfl) (N := 90) (by kernel_rfl) (Nat.le_of_ble_eq_true (by kernel_rfl)) ?_
  unfold s51 at h
  refine W_seq_at (by kernel_rfl) ?_
  refine W_region_at (by kernel_rfl) ?_
  refine WO_fin (σ' := [some (.lit 0 27 [.c (.int .i64 a0_0), .c (.int .i64 a0_1), .c (.int .i64 a0_2), .c (.int .i64 a0_3), .c (slC e28 a0_4), .c (slC e72 a0_5), .c (slC e65 a0_6), .c (slC e77 a0_7)]), some (.lit 0 72 [.c (.int .u8 a1_0), .c (slC e74 a1_1)])]) (T' := [(2, .cell (.op 0 0 8 0 0)), (3, .cell (.op 1 0 2 0 0))]) (Φ := (True)) 3 [2, 3] (by kernel_rfl) trivial (by kernel_rfl) ?_
  refine thenQ_n ?_
  refine W_seq_at (by kernel_rfl) ?_
  refine W_seq_at (by kernel_rfl) ?_
  refine W_region_at (by kernel_rfl) ?_
  refine WO_exk (σ' := [some (.lit 0 27 [.c (.int .i64 a0_0), .c (.int .i64 a0_1), .c (.int .i64 a0_2), .c (.int .i64 a0_3), .c (slC e28 a0_4), .c (slC e72 a0_5), .c (slC e65 a0_6), .c (slC e77 a0_7)]), some (.lit 0 72 [.c (.int .u8 a1_0), .c (slC e74 a1_1)])]) (T' := [(2, .cell (.op 0 0 8 0 0)), (3, .cell (.op 1 0 2 0 0)), (12, .cell (.c (.bool (decide (a1_0 < (1 : Int))))))]) (Φ := (True)) 4 [2, 3, 12] (by kernel_rfl) trivial ?_
  obtain ⟨y1, gy1, h⟩ := bind_some h
  refine WO_join 8 [some (.lit 0 27 [.c (.int .i64 a0_0), .c (.int .i64 a0_1), .c (.int .i64 a0_2), .c (.int .i64 a0_3), .c (slC e28 a0_4), .c (slC e72 a0_5), .c (slC e65 a0_6), .c (slC e77 a0_7)]), some (.lit 0 72 [.c (.int .u8 a1_0), .c (slC e74 a1_1)])] [(2, .cell (.op 0 0 8 0 0)), (3, .cell (.op 1 0 2 0 0)), (16, .cell (.c (.bool y1)))] ?_ ?_
  · clear gy1
    refine WO_exk (σ' := [some (.lit 0 27 [.c (.int .i64 a0_0), .c (.int .i64 a0_1), .c (.int .i64 a0_2), .c (.int .i64 a0_3), .c (slC e28 a0_4), .c (slC e72 a0_5), .c (slC e65 a0_6), .c (slC e77 a0_7)]), some (.lit 0 72 [.c (.int .u8 a1_0), .c (slC e74 a1_1)])]) (T' := [(2, .cell (.op 0 0 8 0 0)), (3, .cell (.op 1 0 2 0 0)), (17, .cell (.c (.bool y1)))]) (Φ := (True)) 1 [2, 3, 17] (by kernel_rfl) trivial ?_
    obtain ⟨y2, gy2, h⟩ := bind_some h
    refine WO_join 14 [some (.lit 0 27 [.c (.int .i64 a0_0), .c (.int .i64 a0_1), .c (.int .i64 a0_2), .c (.int .i64 a0_3), .c (slC e28 a0_4), .c (slC e72 a0_5), .c (slC e65 a0_6), .c (slC e77 a0_7)]), some (.lit 0 72 [.c (.int .u8 a1_0), .c (slC e74 a1_1)])] [(2, .cell (.op 0 0 8 0 0)), (3, .cell (.op 1 0 2 0 0)), (22, .cell (.c (.bool y2)))] ?_ ?_
    · clear gy2
      refine WO_fin (σ' := [some (.lit 0 27 [.c (.int .i64 a0_0), .c (.int .i64 a0_1), .c (.int .i64 a0_2), .c (.int .i64 a0_3), .c (slC e28 a0_4), .c (slC e72 a0_5), .c (slC e65 a0_6), .c (slC e77 a0_7)]), some (.lit 0 72 [.c (.int .u8 a1_0), .c (slC e74 a1_1)])]) (T' := [(2, .cell (.op 0 0 8 0 0)), (3, .cell (.op 1 0 2 0 0)), (22, .cell (.c (.bool y2)))]) (Φ := True) 0 [2, 3, 22] (by kernel_rfl) trivial (by kernel_rfl) ?_
      refine thenQ_n ?_
      refine W_cond_at (b := y2) (by kernel_rfl) (fun hb => ?_) (fun hb => ?_)
      · have h := cond_t hb h
        refine W_seq_at (by kernel_rfl) ?_
        refine W_region_at (by kernel_rfl) ?_
        refine WO_fin (σ' := [some (.lit 0 27 [.c (.int .i64 a0_0), .c (.int .i64 a0_1), .c (.int .i64 a0_2), .c (.int .i64 a0_3), .c (slC e28 a0_4), .c (slC e72 a0_5), .c (slC e65 a0_6), .c (slC e77 a0_7)]), some (.lit 0 72 [.c (.int .u8 a1_0), .c (slC e74 a1_1)])]) (T' := [(4, .cell (.c (.bool false)))]) (Φ := (True)) 1 [4] (by kernel_rfl) trivial (by kernel_rfl) ?_
        refine thenQ_n ?_
        refine W_ret_at (by kernel_rfl) ?_
        refine thenQ_r ?_
        obtain rfl := Option.some.inj h
        exact qret [.cell (.c (.bool false))] (by kernel_rfl) (by kernel_rfl) ([]) (by kernel_rfl)
      · have h := cond_f hb h
        refine W_skip_at (by kernel_rfl) ?_
        refine thenQ_n ?_
        refine W_seq_at (by kernel_rfl) ?_
        refine W_region_at (by kernel_rfl) ?_
        refine WO_exk (σ' := [some (.lit 0 27 [.c (.int .i64 a0_0), .c (.int .i64 a0_1), .c (.int .i64 a0_2), .c (.int .i64 a0_3), .c (slC e28 a0_4), .c (slC e72 a0_5), .c (slC e65 a0_6), .c (slC e77 a0_7)]), some (.lit 0 72 [.c (.int .u8 a1_0), .c (slC e74 a1_1)])]) (T' := [(2, .cell (.op 0 0 8 0 0)), (3, .cell (.op 1 0 2 0 0)), (26, .cell (.c (.bool (decide (a1_0 = (3 : Int))))))]) (Φ := (True)) 4 [2, 3, 26] (by kernel_rfl) trivial ?_
        obtain ⟨y3, gy3, h⟩ := bind_some h
        refine WO_join 8 [some (.lit 0 27 [.c (.int .i64 a0_0), .c (.int .i64 a0_1), .c (.int .i64 a0_2), .c (.int .i64 a0_3), .c (slC e28 a0_4), .c (slC e72 a0_5), .c (slC e65 a0_6), .c (slC e77 a0_7)]), some (.lit 0 72 [.c (.int .u8 a1_0), .c (slC e74 a1_1)])] [(2, .cell (.op 0 0 8 0 0)), (3, .cell (.op 1 0 2 0 0)), (30, .cell (.c (.bool y3)))] ?_ ?_
        · clear gy3
          refine WO_fin (σ' := [some (.lit 0 27 [.c (.int .i64 a0_0), .c (.int .i64 a0_1), .c (.int .i64 a0_2), .c (.int .i64 a0_3), .c (slC e28 a0_4), .c (slC e72 a0_5), .c (slC e65 a0_6), .c (slC e77 a0_7)]), some (.lit 0 72 [.c (.int .u8 a1_0), .c (slC e74 a1_1)])]) (T' := [(2, .cell (.op 0 0 8 0 0)), (3, .cell (.op 1 0 2 0 0)), (5, .cell (.c (.bool y3)))]) (Φ := (True)) 1 [2, 3, 5] (by kernel_rfl) trivial (by kernel_rfl) ?_
          refine thenQ_n ?_
          obtain ⟨y4, gy4, ky4⟩ := bind_some h
          refine W_cutE (by kernel_rfl) (fun v5 => y4 = .inl v5) (fun v5 => ([some (.lit 0 27 [.c (.int .i64 a0_0), .c (.int .i64 a0_1), .c (.int .i64 a0_2), .c (.int .i64 a0_3), .c (slC e28 a0_4), .c (slC e72 a0_5), .c (slC e65 a0_6), .c (slC e77 a0_7)]), some (.lit 0 72 [.c (.int .u8 a1_0), .c (slC e74 a1_1)])], [(3, .cell (.op 1 0 2 0 0)), (5, .cell (.c (.bool y3)))])) ?_ ?_
          · intro v5 hv; subst hv; have h := ky4; clear gy4 ky4; dsimp only at h
            refine W_seq_at (by kernel_rfl) ?_
            refine W_region_at (by kernel_rfl) ?_
            refine WO_exk (σ' := [some (.lit 0 27 [.c (.int .i64 a0_0), .c (.int .i64 a0_1), .c (.int .i64 a0_2), .c (.int .i64 a0_3), .c (slC e28 a0_4), .c (slC e72 a0_5), .c (slC e65 a0_6), .c (slC e77 a0_7)]), some (.lit 0 72 [.c (.int .u8 a1_0), .c (slC e74 a1_1)])]) (T' := [(3, .cell (.op 1 0 2 0 0)), (84, .cell (.c (.bool (!y3))))]) (Φ := (True)) 3 [3, 84] (by kernel_rfl) trivial ?_
            obtain ⟨y6, gy6, h⟩ := bind_some h
            refine WO_join 8 [some (.lit 0 27 [.c (.int .i64 a0_0), .c (.int .i64 a0_1), .c (.int .i64 a0_2), .c (.int .i64 a0_3), .c (slC e28 a0_4), .c (slC e72 a0_5), .c (slC e65 a0_6), .c (slC e77 a0_7)]), some (.lit 0 72 [.c (.int .u8 a1_0), .c (slC e74 a1_1)])] [(89, .cell (.c (.bool y6)))] ?_ ?_
            · clear gy6
              refine WO_fin (σ' := [some (.lit 0 27 [.c (.int .i64 a0_0), .c (.int .i64 a0_1), .c (.int .i64 a0_2), .c (.int .i64 a0_3), .c (slC e28 a0_4), .c (slC e72 a0_5), .c (slC e65 a0_6), .c (slC e77 a0_7)]), some (.lit 0 72 [.c (.int .u8 a1_0), .c (slC e74 a1_1)])]) (T' := [(4, .cell (.c (.bool y6)))]) (Φ := (True)) 1 [4] (by kernel_rfl) trivial (by kernel_rfl) ?_
              refine thenQ_n ?_
              refine W_ret_at (by kernel_rfl) ?_
              obtain rfl := Option.some.inj h
              exact qret [.cell (.c (.bool y6))] (by kernel_rfl) (by kernel_rfl) ([]) (by kernel_rfl)
            · intro J
              clear h
              rcases Bool.eq_false_or_eq_true (!y3) with hb | hb
              · have h := cond_t hb gy6; clear gy6
                refine WO_ent (ent_bool (T' := [(84, .cell (.c (.bool true))), (3, .cell (.op 1 0 2 0 0))]) 84 hb (by kernel_rfl) (by kernel_rfl)) ?_
                obtain rfl := Option.some.inj h
                refine WO_exk (σ' := [some (.lit 0 27 [.c (.int .i64 a0_0), .c (.int .i64 a0_1), .c (.int .i64 a0_2), .c (.int .i64 a0_3), .c (slC e28 a0_4), .c (slC e72 a0_5), .c (slC e65 a0_6), .c (slC e77 a0_7)]), some (.lit 0 72 [.c (.int .u8 a1_0), .c (slC e74 a1_1)])]) (T' := [(89, .cell (.c (.bool true)))]) (Φ := True) 5 [89] (by kernel_rfl) trivial J
              · have h := cond_f hb gy6; clear gy6
                refine WO_ent (ent_bool (T' := [(84, .cell (.c (.bool false))), (3, .cell (.op 1 0 2 0 0))]) 84 hb (by kernel_rfl) (by kernel_rfl)) ?_
                refine WO_exk (σ' := [some (.lit 0 27 [.c (.int .i64 a0_0), .c (.int .i64 a0_1), .c (.int .i64 a0_2), .c (.int .i64 a0_3), .c (slC e28 a0_4), .c (slC e72 a0_5), .c (slC e65 a0_6), .c (slC e77 a0_7)]), some (.lit 0 72 [.c (.int .u8 a1_0), .c (slC e74 a1_1)])]) (T' := [(84, .cell (.c (.bool false))), (86, .cell (.c (slC e74 a1_1)))]) (Φ := (True)) 2 [84, 86] (by kernel_rfl) trivial ?_
                obtain ⟨r7, gr7, h⟩ := bind_some h
                refine WO_call (f := 67) (all := [.cell (.c (slC e74 a1_1))]) (d := some 87) (r := .cell (.c (.int .i64 r7))) (by kernel_rfl) (by kernel_rfl) (by kernel_rfl) Tryd.call67 (p67 L _ _ gr7) ?_
                refine WO_exk (σ' := [some (.lit 0 27 [.c (.int .i64 a0_0), .c (.int .i64 a0_1), .c (.int .i64 a0_2), .c (.int .i64 a0_3), .c (slC e28 a0_4), .c (slC e72 a0_5), .c (slC e65 a0_6), .c (slC e77 a0_7)]), some (.lit 0 72 [.c (.int .u8 a1_0), .c (slC e74 a1_1)])]) (T' := [(84, .cell (.c (.bool false))), (88, .cell (.c (.bool (decide (r7 ≤ (1 : Int))))))]) (Φ := (True)) 1 [84, 88] (by kernel_rfl) trivial ?_
                obtain rfl := Option.some.inj h
                refine WO_exk (σ' := [some (.lit 0 27 [.c (.int .i64 a0_0), .c (.int .i64 a0_1), .c (.int .i64 a0_2), .c (.int .i64 a0_3), .c (slC e28 a0_4), .c (slC e72 a0_5), .c (slC e65 a0_6), .c (slC e77 a0_7)]), some (.lit 0 72 [.c (.int .u8 a1_0), .c (slC e74 a1_1)])]) (T' := [(89, .cell (.c (.bool (decide (r7 ≤ (1 : Int))))))]) (Φ := True) 1 [89] (by kernel_rfl) trivial J
          · have h := gy4; clear gy4
            refine W_seq_at (by kernel_rfl) ?_
            refine W_region_at (by kernel_rfl) ?_
            refine WO_fin (σ' := [some (.lit 0 27 [.c (.int .i64 a0_0), .c (.int .i64 a0_1), .c (.int .i64 a0_2), .c (.int .i64 a0_3), .c (slC e28 a0_4), .c (slC e72 a0_5), .c (slC e65 a0_6), .c (slC e77 a0_7)]), some (.lit 0 72 [.c (.int .u8 a1_0), .c (slC e74 a1_1)])]) (T' := [(2, .cell (.op 0 0 8 0 0)), (3, .cell (.op 1 0 2 0 0)), (5, .cell (.c (.bool y3))), (6, .cell (.c (.int .i64 (0 : Int))))]) (Φ := (True)) 1 [2, 3, 5, 6] (by kernel_rfl) trivial (by kernel_rfl) ?_
            refine thenQ_n ?_
            refine W_block_at 0 (by kernel_rfl) (by kernel_rfl) ?_
            obtain ⟨b9, gb9, kb9⟩ := bind_some h
            refine W_loop_at (S := fun (y8 : Int) => ([some (.lit 0 27 [.c (.int .i64 a0_0), .c (.int .i64 a0_1), .c (.int .i64 a0_2), .c (.int .i64 a0_3), .c (slC e28 a0_4), .c (slC e72 a0_5), .c (slC e65 a0_6), .c (slC e77 a0_7)]), some (.lit 0 72 [.c (.int .u8 a1_0), .c (slC e74 a1_1)])], [(2, .cell (.op 0 0 8 0 0)), (3, .cell (.op 1 0 2 0 0)), (5, .cell (.c (.bool y3))), (6, .cell (.c (.int .i64 y8)))])) (step := _) (x0 := (0 : Int)) (b := b9) (L.ok _ _ _ gb9) (by kernel_rfl) (stps_ok [.keep [2, 3, 5, 6], .take 2] (by kernel_rfl)) ?_
            clear gb9 h; intro y8 o h; unfold s51_0 at h
            refine W_seq_at (by kernel_rfl) ?_
            refine W_seq_at (by kernel_rfl) ?_
            refine W_region_at (by kernel_rfl) ?_
            refine WO_fin (σ' := [some (.lit 0 27 [.c (.int .i64 a0_0), .c (.int .i64 a0_1), .c (.int .i64 a0_2), .c (.int .i64 a0_3), .c (slC e28 a0_4), .c (slC e72 a0_5), .c (slC e65 a0_6), .c (slC e77 a0_7)]), some (.lit 0 72 [.c (.int .u8 a1_0), .c (slC e74 a1_1)])]) (T' := [(2, .cell (.op 0 0 8 0 0)), (3, .cell (.op 1 0 2 0 0)), (5, .cell (.c (.bool y3))), (6, .cell (.c (.int .i64 y8))), (35, .cell (.c (.bool (decide (y8 < (a1_1.length : Int))))))]) (Φ := (True)) 5 [2, 3, 5, 6, 35] (by kernel_rfl) trivial (by kernel_rfl) ?_
            refine thenQ_n ?_
            refine W_cond_at (b := (decide (y8 < (a1_1.length : Int)))) (by kernel_rfl) (fun hb => ?_) (fun hb => ?_)
            · have h := cond_t hb h
              refine W_skip_at (by kernel_rfl) ?_
              refine thenQ_n ?_
              obtain ⟨y10, gy10, ky10⟩ := bind_some h
              refine W_cutE (by kernel_rfl) (fun v11 => y10 = .inl v11) (fun v11 => ([some (.lit 0 27 [.c (.int .i64 a0_0), .c (.int .i64 a0_1), .c (.int .i64 a0_2), .c (.int .i64 a0_3), .c (slC e28 a0_4), .c (slC e72 a0_5), .c (slC e65 a0_6), .c (slC e77 a0_7)]), some (.lit 0 72 [.c (.int .u8 a1_0), .c (slC e74 a1_1)])], [(2, .cell (.op 0 0 8 0 0)), (3, .cell (.op 1 0 2 0 0)), (5, .cell (.c (.bool y3))), (6, .cell (.c (.int .i64 y8)))])) ?_ ?_
              · intro v11 hv; subst hv; have h := ky10; clear gy10 ky10; dsimp only at h
                refine W_region_at (by kernel_rfl) ?_
                obtain ⟨c12, h⟩ := ck_bind h
                refine WO_fin (σ' := [some (.lit 0 27 [.c (.int .i64 a0_0), .c (.int .i64 a0_1), .c (.int .i64 a0_2), .c (.int .i64 a0_3), .c (slC e28 a0_4), .c (slC e72 a0_5), .c (slC e65 a0_6), .c (slC e77 a0_7)]), some (.lit 0 72 [.c (.int .u8 a1_0), .c (slC e74 a1_1)])]) (T' := [(2, .cell (.op 0 0 8 0 0)), (3, .cell (.op 1 0 2 0 0)), (5, .cell (.c (.bool y3))), (6, .cell (.c (.int .i64 (y8 + (1 : Int)))))]) (Φ := (inR .i64 (y8 + (1 : Int))) ∧ (True)) 3 [2, 3, 5, 6] (by kernel_rfl) ⟨c12, trivial⟩ (by kernel_rfl) ?_
                obtain rfl := Option.some.inj h
                exact round_n _ rfl (stps_ok [.keep [2, 3, 5, 6], .take 2] (by kernel_rfl))
              · have h := gy10; clear gy10
                refine W_block_at 1 (by kernel_rfl) (by kernel_rfl) ?_
                refine W_seq_at (by kernel_rfl) ?_
                refine W_region_at (by kernel_rfl) ?_
                obtain ⟨c13, h⟩ := ck_bind h
                refine WO_fin (σ' := [some (.lit 0 27 [.c (.int .i64 a0_0), .c (.int .i64 a0_1), .c (.int .i64 a0_2), .c (.int .i64 a0_3), .c (slC e28 a0_4), .c (slC e72 a0_5), .c (slC e65 a0_6), .c (slC e77 a0_7)]), some (.lit 0 72 [.c (.int .u8 a1_0), .c (slC e74 a1_1)]), some (.lit 0 74 [.c (.int .u64 ((a1_1.getD y8.toNat e74.d).1)), .c (slC e61 ((a1_1.getD y8.toNat e74.d).2))])]) (T' := [(2, .cell (.op 0 0 8 0 0)), (3, .cell (.op 1 0 2 0 0)), (5, .cell (.c (.bool y3))), (6, .cell (.c (.int .i64 y8))), (7, .cell (.op 2 0 2 0 0))]) (Φ := (0 ≤ y8 ∧ y8 < (a1_1.length : Int)) ∧ (True)) 7 [2, 3, 5, 6, 7] (by kernel_rfl) ⟨c13, trivial⟩ (by kernel_rfl) ?_
                refine thenQ_n ?_
                refine W_seq_at (by kernel_rfl) ?_
                refine W_seq_at (by kernel_rfl) ?_
                refine W_drawK 5 (by kernel_rfl) mixed (by kernel_rfl) ?_
                refine WQ_exk (n' := 1) (T' := [(2, .cell (.op 0 0 8 0 0)), (3, .cell (.op 1 0 2 0 0)), (5, .cell (.c (.bool y3))), (6, .cell (.c (.int .i64 y8))), (7, .cell (.op 2 0 2 0 0)), (44, .cell (.c (.int .u64 ((a1_1.getD y8.toNat e74.d).1)))), (46, .cell (.c (.int .i64 a0_0)))]) (Φ := (True)) 4 [2, 3, 5, 6, 7, 44, 46] (by kernel_rfl) trivial ?_
                obtain ⟨r14, gr14, h⟩ := bind_some h
                refine WQ_call (f := 86) (all := [.cell (.c (.int .i64 a0_0))]) (d := some 47) (r := .cell (.c (.int .u64 r14))) (by kernel_rfl) (by kernel_rfl) (by kernel_rfl) Tryd.call86 (p86 L _ _ gr14) ?_
                refine WQ_done ?_
                refine WO_exk (σ' := [some (.lit 0 27 [.c (.int .i64 a0_0), .c (.int .i64 a0_1), .c (.int .i64 a0_2), .c (.int .i64 a0_3), .c (slC e28 a0_4), .c (slC e72 a0_5), .c (slC e65 a0_6), .c (slC e77 a0_7)]), some (.lit 0 72 [.c (.int .u8 a1_0), .c (slC e74 a1_1)]), some (.lit 0 74 [.c (.int .u64 ((a1_1.getD y8.toNat e74.d).1)), .c (slC e61 ((a1_1.getD y8.toNat e74.d).2))])]) (T' := [(2, .cell (.op 0 0 8 0 0)), (3, .cell (.op 1 0 2 0 0)), (5, .cell (.c (.bool y3))), (6, .cell (.c (.int .i64 y8))), (7, .cell (.op 2 0 2 0 0)), (49, .cell (.c (.bool (decide (((a1_1.getD y8.toNat e74.d).1) ≥ r14)))))]) (Φ := (True)) 2 [2, 3, 5, 6, 7, 49] (by kernel_rfl) trivial ?_
                obtain ⟨y15, gy15, h⟩ := bind_some h
                refine WO_join 12 [some (.lit 0 27 [.c (.int .i64 a0_0), .c (.int .i64 a0_1), .c (.int .i64 a0_2), .c (.int .i64 a0_3), .c (slC e28 a0_4), .c (slC e72 a0_5), .c (slC e65 a0_6), .c (slC e77 a0_7)]), some (.lit 0 72 [.c (.int .u8 a1_0), .c (slC e74 a1_1)]), some (.lit 0 74 [.c (.int .u64 ((a1_1.getD y8.toNat e74.d).1)), .c (slC e61 ((a1_1.getD y8.toNat e74.d).2))])] [(2, .cell (.op 0 0 8 0 0)), (3, .cell (.op 1 0 2 0 0)), (5, .cell (.c (.bool y3))), (6, .cell (.c (.int .i64 y8))), (7, .cell (.op 2 0 2 0 0)), (54, .cell (.c (.bool y15)))] ?_ ?_
                · clear gy15
                  refine WO_fin (σ' := [some (.lit 0 27 [.c (.int .i64 a0_0), .c (.int .i64 a0_1), .c (.int .i64 a0_2), .c (.int .i64 a0_3), .c (slC e28 a0_4), .c (slC e72 a0_5), .c (slC e65 a0_6), .c (slC e77 a0_7)]), some (.lit 0 72 [.c (.int .u8 a1_0), .c (slC e74 a1_1)]), some (.lit 0 74 [.c (.int .u64 ((a1_1.getD y8.toNat e74.d).1)), .c (slC e61 ((a1_1.getD y8.toNat e74.d).2))])]) (T' := [(2, .cell (.op 0 0 8 0 0)), (3, .cell (.op 1 0 2 0 0)), (5, .cell (.c (.bool y3))), (6, .cell (.c (.int .i64 y8))), (7, .cell (.op 2 0 2 0 0)), (54, .cell (.c (.bool y15)))]) (Φ := True) 0 [2, 3, 5, 6, 7, 54] (by kernel_rfl) trivial (by kernel_rfl) ?_
                  refine thenQ_n ?_
                  refine W_cond_at (b := y15) (by kernel_rfl) (fun hb => ?_) (fun hb => ?_)
                  · have h := cond_t hb h
                    refine W_seq_at (by kernel_rfl) ?_
                    refine W_region_at (by kernel_rfl) ?_
                    refine WO_fin (σ' := [some (.lit 0 27 [.c (.int .i64 a0_0), .c (.int .i64 a0_1), .c (.int .i64 a0_2), .c (.int .i64 a0_3), .c (slC e28 a0_4), .c (slC e72 a0_5), .c (slC e65 a0_6), .c (slC e77 a0_7)]), some (.lit 0 72 [.c (.int .u8 a1_0), .c (slC e74 a1_1)]), some (.lit 0 74 [.c (.int .u64 ((a1_1.getD y8.toNat e74.d).1)), .c (slC e61 ((a1_1.getD y8.toNat e74.d).2))])]) (T' := [(4, .cell (.c (.bool false)))]) (Φ := (True)) 1 [4] (by kernel_rfl) trivial (by kernel_rfl) ?_
                    refine thenQ_n ?_
                    refine W_ret_at (by kernel_rfl) ?_
                    refine thenQ_r ?_
                    refine blockQ_r ?_
                    obtain rfl := Option.some.inj h; have h := ky10; dsimp only at h; refine thenQ_r ?_
                    obtain rfl := Option.some.inj h; refine round_r rfl (fun hb => ?_); subst hb; have h := kb9; dsimp only at h
                    refine blockQ_r ?_
                    obtain rfl := Option.some.inj h; have h := ky4; dsimp only at h; refine thenQ_r ?_
                    obtain rfl := Option.some.inj h
                    exact qret [.cell (.c (.bool false))] (by kernel_rfl) (by kernel_rfl) ([]) (by kernel_rfl)
                  · have h := cond_f hb h
                    refine W_skip_at (by kernel_rfl) ?_
                    refine thenQ_n ?_
                    refine W_seq_at (by kernel_rfl) ?_
                    refine W_region_at (by kernel_rfl) ?_
                    refine WO_fin (σ' := [some (.lit 0 27 [.c (.int .i64 a0_0), .c (.int .i64 a0_1), .c (.int .i64 a0_2), .c (.int .i64 a0_3), .c (slC e28 a0_4), .c (slC e72 a0_5), .c (slC e65 a0_6), .c (slC e77 a0_7)]), some (.lit 0 72 [.c (.int .u8 a1_0), .c (slC e74 a1_1)]), some (.lit 0 74 [.c (.int .u64 ((a1_1.getD y8.toNat e74.d).1)), .c (slC e61 ((a1_1.getD y8.toNat e74.d).2))])]) (T' := [(2, .cell (.op 0 0 8 0 0)), (3, .cell (.op 1 0 2 0 0)), (5, .cell (.c (.bool y3))), (6, .cell (.c (.int .i64 y8))), (7, .cell (.op 2 0 2 0 0)), (8, .cell (.c (.int .i64 (0 : Int))))]) (Φ := (True)) 1 [2, 3, 5, 6, 7, 8] (by kernel_rfl) trivial (by kernel_rfl) ?_
                    refine thenQ_n ?_
                    refine W_block_at 2 (by kernel_rfl) (by kernel_rfl) ?_
                    obtain ⟨b17, gb17, kb17⟩ := bind_some h
                    refine W_loop_at (S := fun (y16 : Int) => ([some (.lit 0 27 [.c (.int .i64 a0_0), .c (.int .i64 a0_1), .c (.int .i64 a0_2), .c (.int .i64 a0_3), .c (slC e28 a0_4), .c (slC e72 a0_5), .c (slC e65 a0_6), .c (slC e77 a0_7)]), some (.lit 0 72 [.c (.int .u8 a1_0), .c (slC e74 a1_1)]), some (.lit 0 74 [.c (.int .u64 ((a1_1.getD y8.toNat e74.d).1)), .c (slC e61 ((a1_1.getD y8.toNat e74.d).2))])], [(2, .cell (.op 0 0 8 0 0)), (3, .cell (.op 1 0 2 0 0)), (5, .cell (.c (.bool y3))), (6, .cell (.c (.int .i64 y8))), (7, .cell (.op 2 0 2 0 0)), (8, .cell (.c (.int .i64 y16)))])) (step := _) (x0 := (0 : Int)) (b := b17) (L.ok _ _ _ gb17) (by kernel_rfl) (stps_ok [.keep [2, 3, 5, 6, 7, 8], .take 3] (by kernel_rfl)) ?_
                    clear gb17 h; intro y16 o h; unfold s51_1 at h
                    refine W_seq_at (by kernel_rfl) ?_
                    refine W_seq_at (by kernel_rfl) ?_
                    refine W_region_at (by kernel_rfl) ?_
                    refine WO_fin (σ' := [some (.lit 0 27 [.c (.int .i64 a0_0), .c (.int .i64 a0_1), .c (.int .i64 a0_2), .c (.int .i64 a0_3), .c (slC e28 a0_4), .c (slC e72 a0_5), .c (slC e65 a0_6), .c (slC e77 a0_7)]), some (.lit 0 72 [.c (.int .u8 a1_0), .c (slC e74 a1_1)]), some (.lit 0 74 [.c (.int .u64 ((a1_1.getD y8.toNat e74.d).1)), .c (slC e61 ((a1_1.getD y8.toNat e74.d).2))])]) (T' := [(2, .cell (.op 0 0 8 0 0)), (3, .cell (.op 1 0 2 0 0)), (5, .cell (.c (.bool y3))), (6, .cell (.c (.int .i64 y8))), (7, .cell (.op 2 0 2 0 0)), (8, .cell (.c (.int .i64 y16))), (59, .cell (.c (.bool (decide (y16 < (((a1_1.getD y8.toNat e74.d).2).length : Int))))))]) (Φ := (True)) 5 [2, 3, 5, 6, 7, 8, 59] (by kernel_rfl) trivial (by kernel_rfl) ?_
                    refine thenQ_n ?_
                    refine W_cond_at (b := (decide (y16 < (((a1_1.getD y8.toNat e74.d).2).length : Int)))) (by kernel_rfl) (fun hb => ?_) (fun hb => ?_)
                    · have h := cond_t hb h
                      refine W_skip_at (by kernel_rfl) ?_
                      refine thenQ_n ?_
                      refine W_seq_at (by kernel_rfl) ?_
                      refine W_block_at 3 (by kernel_rfl) (by kernel_rfl) ?_
                      refine W_seq_at (by kernel_rfl) ?_
                      refine W_drawK 20 (by kernel_rfl) mixed (by kernel_rfl) ?_
                      obtain ⟨c18, h⟩ := ck_bind h
                      refine WQ_exk (n' := 14) (T' := [(2, .cell (.op 0 0 8 0 0)), (3, .cell (.op 1 0 2 0 0)), (5, .cell (.c (.bool y3))), (6, .cell (.c (.int .i64 y8))), (7, .cell (.op 2 0 2 0 0)), (8, .cell (.c (.int .i64 y16))), (62, .agg [.c (.int .i64 a0_0), .c (.int .i64 a0_1), .c (.int .i64 a0_2), .c (.int .i64 a0_3), .c (slC e28 a0_4), .c (slC e72 a0_5), .c (slC e65 a0_6), .c (slC e77 a0_7)]), (67, .agg [.c (.int .u8 ((((a1_1.getD y8.toNat e74.d).2).getD y16.toNat e61.d).1)), .c (.int .i64 ((((a1_1.getD y8.toNat e74.d).2).getD y16.toNat e61.d).2))])]) (Φ := (0 ≤ y16 ∧ y16 < (((a1_1.getD y8.toNat e74.d).2).length : Int)) ∧ (True)) 6 [2, 3, 5, 6, 7, 8, 62, 67] (by kernel_rfl) ⟨c18, trivial⟩ ?_
                      obtain ⟨r19, gr19, h⟩ := bind_some h
                      refine WQ_call (f := 101) (all := [.agg [.c (.int .i64 a0_0), .c (.int .i64 a0_1), .c (.int .i64 a0_2), .c (.int .i64 a0_3), .c (slC e28 a0_4), .c (slC e72 a0_5), .c (slC e65 a0_6), .c (slC e77 a0_7)], .agg [.c (.int .u8 ((((a1_1.getD y8.toNat e74.d).2).getD y16.toNat e61.d).1)), .c (.int .i64 ((((a1_1.getD y8.toNat e74.d).2).getD y16.toNat e61.d).2))]]) (d := some 68) (r := .cell (.c (.bool r19))) (by kernel_rfl) (by kernel_rfl) (by kernel_rfl) Tryd.call101 (p101 L _ _ _ _ _ _ _ _ _ _ _ gr19) ?_
                      refine WQ_exk (n' := 11) (T' := [(2, .cell (.op 0 0 8 0 0)), (3, .cell (.op 1 0 2 0 0)), (5, .cell (.c (.bool y3))), (6, .cell (.c (.int .i64 y8))), (7, .cell (.op 2 0 2 0 0)), (8, .cell (.c (.int .i64 y16))), (70, .cell (.c (.bool (!r19))))]) (Φ := (True)) 2 [2, 3, 5, 6, 7, 8, 70] (by kernel_rfl) trivial ?_
                      obtain ⟨y20, gy20, h⟩ := bind_some h
                      refine WQ_join 0 20 [(2, .cell (.op 0 0 8 0 0)), (3, .cell (.op 1 0 2 0 0)), (5, .cell (.c (.bool y3))), (6, .cell (.c (.int .i64 y8))), (7, .cell (.op 2 0 2 0 0)), (8, .cell (.c (.int .i64 y16))), (81, .cell (.c (.bool y20)))] ?_ ?_
                      · clear gy20
                        refine WQ_done ?_
                        refine WO_fin (σ' := [some (.lit 0 27 [.c (.int .i64 a0_0), .c (.int .i64 a0_1), .c (.int .i64 a0_2), .c (.int .i64 a0_3), .c (slC e28 a0_4), .c (slC e72 a0_5), .c (slC e65 a0_6), .c (slC e77 a0_7)]), some (.lit 0 72 [.c (.int .u8 a1_0), .c (slC e74 a1_1)]), some (.lit 0 74 [.c (.int .u64 ((a1_1.getD y8.toNat e74.d).1)), .c (slC e61 ((a1_1.getD y8.toNat e74.d).2))])]) (T' := [(2, .cell (.op 0 0 8 0 0)), (3, .cell (.op 1 0 2 0 0)), (5, .cell (.c (.bool y3))), (6, .cell (.c (.int .i64 y8))), (7, .cell (.op 2 0 2 0 0)), (8, .cell (.c (.int .i64 y16))), (81, .cell (.c (.bool y20)))]) (Φ := True) 0 [2, 3, 5, 6, 7, 8, 81] (by kernel_rfl) trivial (by kernel_rfl) ?_
                        refine thenQ_n ?_
                        refine W_cond_at (b := y20) (by kernel_rfl) (fun hb => ?_) (fun hb => ?_)
                        · have h := cond_t hb h
                          refine W_seq_at (by kernel_rfl) ?_
                          refine W_region_at (by kernel_rfl) ?_
                          refine WO_fin (σ' := [some (.lit 0 27 [.c (.int .i64 a0_0), .c (.int .i64 a0_1), .c (.int .i64 a0_2), .c (.int .i64 a0_3), .c (slC e28 a0_4), .c (slC e72 a0_5), .c (slC e65 a0_6), .c (slC e77 a0_7)]), some (.lit 0 72 [.c (.int .u8 a1_0), .c (slC e74 a1_1)]), some (.lit 0 74 [.c (.int .u64 ((a1_1.getD y8.toNat e74.d).1)), .c (slC e61 ((a1_1.getD y8.toNat e74.d).2))])]) (T' := [(4, .cell (.c (.bool false)))]) (Φ := (True)) 1 [4] (by kernel_rfl) trivial (by kernel_rfl) ?_
                          refine thenQ_n ?_
                          refine W_ret_at (by kernel_rfl) ?_
                          refine blockQ_r ?_
                          refine thenQ_r ?_
                          obtain rfl := Option.some.inj h; refine round_r rfl (fun hb => ?_); subst hb; have h := kb17; dsimp only at h
                          refine blockQ_r ?_
                          refine blockQ_r ?_
                          obtain rfl := Option.some.inj h; have h := ky10; dsimp only at h; refine thenQ_r ?_
                          obtain rfl := Option.some.inj h; refine round_r rfl (fun hb => ?_); subst hb; have h := kb9; dsimp only at h
                          refine blockQ_r ?_
                          obtain rfl := Option.some.inj h; have h := ky4; dsimp only at h; refine thenQ_r ?_
                          obtain rfl := Option.some.inj h
                          exact qret [.cell (.c (.bool false))] (by kernel_rfl) (by kernel_rfl) ([]) (by kernel_rfl)
                        · have h := cond_f hb h
                          refine W_skip_at (by kernel_rfl) ?_
                          refine blockQ_n ?_
                          refine thenQ_n ?_
                          refine W_region_at (by kernel_rfl) ?_
                          obtain ⟨c21, h⟩ := ck_bind h
                          refine WO_fin (σ' := [some (.lit 0 27 [.c (.int .i64 a0_0), .c (.int .i64 a0_1), .c (.int .i64 a0_2), .c (.int .i64 a0_3), .c (slC e28 a0_4), .c (slC e72 a0_5), .c (slC e65 a0_6), .c (slC e77 a0_7)]), some (.lit 0 72 [.c (.int .u8 a1_0), .c (slC e74 a1_1)]), some (.lit 0 74 [.c (.int .u64 ((a1_1.getD y8.toNat e74.d).1)), .c (slC e61 ((a1_1.getD y8.toNat e74.d).2))])]) (T' := [(2, .cell (.op 0 0 8 0 0)), (3, .cell (.op 1 0 2 0 0)), (5, .cell (.c (.bool y3))), (6, .cell (.c (.int .i64 y8))), (7, .cell (.op 2 0 2 0 0)), (8, .cell (.c (.int .i64 (y16 + (1 : Int)))))]) (Φ := (inR .i64 (y16 + (1 : Int))) ∧ (True)) 3 [2, 3, 5, 6, 7, 8] (by kernel_rfl) ⟨c21, trivial⟩ (by kernel_rfl) ?_
                          obtain rfl := Option.some.inj h
                          exact round_n _ rfl (stps_ok [.keep [2, 3, 5, 6, 7, 8], .take 3] (by kernel_rfl))
                      · intro J
                        clear h
                        rcases Bool.eq_false_or_eq_true (!r19) with hb | hb
                        · have h := cond_t hb gy20; clear gy20
                          refine WQ_bool (T' := [(70, .cell (.c (.bool true))), (2, .cell (.op 0 0 8 0 0)), (3, .cell (.op 1 0 2 0 0)), (5, .cell (.c (.bool y3))), (6, .cell (.c (.int .i64 y8))), (7, .cell (.op 2 0 2 0 0)), (8, .cell (.c (.int .i64 y16)))]) 70 hb (by kernel_rfl) (by kernel_rfl) ?_
                          obtain rfl := Option.some.inj h
                          refine WQ_exk (n' := 0) (T' := [(2, .cell (.op 0 0 8 0 0)), (3, .cell (.op 1 0 2 0 0)), (5, .cell (.c (.bool y3))), (6, .cell (.c (.int .i64 y8))), (7, .cell (.op 2 0 2 0 0)), (8, .cell (.c (.int .i64 y16))), (81, .cell (.c (.bool true)))]) (Φ := True) 11 [2, 3, 5, 6, 7, 8, 81] (by kernel_rfl) trivial J
                        · have h := cond_f hb gy20; clear gy20
                          refine WQ_bool (T' := [(70, .cell (.c (.bool false))), (2, .cell (.op 0 0 8 0 0)), (3, .cell (.op 1 0 2 0 0)), (5, .cell (.c (.bool y3))), (6, .cell (.c (.int .i64 y8))), (7, .cell (.op 2 0 2 0 0)), (8, .cell (.c (.int .i64 y16)))]) 70 hb (by kernel_rfl) (by kernel_rfl) ?_
                          refine WQ_exk (n' := 9) (T' := [(2, .cell (.op 0 0 8 0 0)), (3, .cell (.op 1 0 2 0 0)), (5, .cell (.c (.bool y3))), (6, .cell (.c (.int .i64 y8))), (7, .cell (.op 2 0 2 0 0)), (8, .cell (.c (.int .i64 y16))), (70, .cell (.c (.bool false))), (71, .cell (.c (.bool y3))), (72, .cell (.c (.bool y3)))]) (Φ := (True)) 2 [2, 3, 5, 6, 7, 8, 70, 71, 72] (by kernel_rfl) trivial ?_
                          obtain ⟨y22, gy22, h⟩ := bind_some h
                          refine WQ_join 1 19 [(2, .cell (.op 0 0 8 0 0)), (3, .cell (.op 1 0 2 0 0)), (5, .cell (.c (.bool y3))), (6, .cell (.c (.int .i64 y8))), (7, .cell (.op 2 0 2 0 0)), (8, .cell (.c (.int .i64 y16))), (70, .cell (.c (.bool false))), (71, .cell (.c (.bool y3))), (72, .cell (.c (.bool y3))), (80, .cell (.c (.bool y22)))] ?_ ?_
                          · clear gy22
                            obtain rfl := Option.some.inj h
                            refine WQ_exk (n' := 0) (T' := [(2, .cell (.op 0 0 8 0 0)), (3, .cell (.op 1 0 2 0 0)), (5, .cell (.c (.bool y3))), (6, .cell (.c (.int .i64 y8))), (7, .cell (.op 2 0 2 0 0)), (8, .cell (.c (.int .i64 y16))), (81, .cell (.c (.bool y22)))]) (Φ := True) 1 [2, 3, 5, 6, 7, 8, 81] (by kernel_rfl) trivial J
                          · intro J
                            clear h
                            rcases Bool.eq_false_or_eq_true y3 with hb | hb
                            · have h := cond_t hb gy22; clear gy22
                              refine WQ_bool (T' := [(72, .cell (.c (.bool true))), (2, .cell (.op 0 0 8 0 0)), (3, .cell (.op 1 0 2 0 0)), (5, .cell (.c (.bool y3))), (6, .cell (.c (.int .i64 y8))), (7, .cell (.op 2 0 2 0 0)), (8, .cell (.c (.int .i64 y16))), (70, .cell (.c (.bool false))), (71, .cell (.c (.bool y3)))]) 72 hb (by kernel_rfl) (by kernel_rfl) ?_
                              obtain ⟨c23, h⟩ := ck_bind h
                              refine WQ_exk (n' := 2) (T' := [(2, .cell (.op 0 0 8 0 0)), (3, .cell (.op 1 0 2 0 0)), (5, .cell (.c (.bool y3))), (6, .cell (.c (.int .i64 y8))), (7, .cell (.op 2 0 2 0 0)), (8, .cell (.c (.int .i64 y16))), (70, .cell (.c (.bool false))), (71, .cell (.c (.bool y3))), (72, .cell (.c (.bool true))), (73, .cell (.op 2 0 2 0 1)), (74, .cell (.c (slC e61 ((a1_1.getD y8.toNat e74.d).2)))), (75, .cell (.c (.int .i64 y16))), (76, .cell (.c (ptC e61 ((a1_1.getD y8.toNat e74.d).2) y16 0))), (77, .cell (.c (ptC e61 ((a1_1.getD y8.toNat e74.d).2) y16 0))), (78, .cell (.c (.int .u8 ((((a1_1.getD y8.toNat e74.d).2).getD y16.toNat e61.d).1)))), (79, .cell (.c (.bool (decide (((((a1_1.getD y8.toNat e74.d).2).getD y16.toNat e61.d).1) = (2 : Int))))))]) (Φ := (0 ≤ y16 ∧ y16 < (((a1_1.getD y8.toNat e74.d).2).length : Int)) ∧ (True)) 7 [2, 3, 5, 6, 7, 8, 70, 71, 72, 73, 74, 75, 76, 77, 78, 79] (by kernel_rfl) ⟨c23, trivial⟩ ?_
                              obtain rfl := Option.some.inj h
                              refine WQ_exk (n' := 1) (T' := [(2, .cell (.op 0 0 8 0 0)), (3, .cell (.op 1 0 2 0 0)), (5, .cell (.c (.bool y3))), (6, .cell (.c (.int .i64 y8))), (7, .cell (.op 2 0 2 0 0)), (8, .cell (.c (.int .i64 y16))), (70, .cell (.c (.bool false))), (71, .cell (.c (.bool y3))), (72, .cell (.c (.bool true))), (80, .cell (.c (.bool (decide (((((a1_1.getD y8.toNat e74.d).2).getD y16.toNat e61.d).1) = (2 : Int))))))]) (Φ := True) 1 [2, 3, 5, 6, 7, 8, 70, 71, 72, 80] (by kernel_rfl) trivial ?_
                              refine WQ_bool (T' := [(72, .cell (.c (.bool y3))), (2, .cell (.op 0 0 8 0 0)), (3, .cell (.op 1 0 2 0 0)), (5, .cell (.c (.bool y3))), (6, .cell (.c (.int .i64 y8))), (7, .cell (.op 2 0 2 0 0)), (8, .cell (.c (.int .i64 y16))), (70, .cell (.c (.bool false))), (71, .cell (.c (.bool y3))), (80, .cell (.c (.bool (decide (((((a1_1.getD y8.toNat e74.d).2).getD y16.toNat e61.d).1) = (2 : Int))))))]) 72 hb.symm (by kernel_rfl) (by kernel_rfl) ?_
                              exact WQ_keep [2, 3, 5, 6, 7, 8, 70, 71, 72, 80] (by kernel_rfl) J
                            · have h := cond_f hb gy22; clear gy22
                              refine WQ_bool (T' := [(72, .cell (.c (.bool false))), (2, .cell (.op 0 0 8 0 0)), (3, .cell (.op 1 0 2 0 0)), (5, .cell (.c (.bool y3))), (6, .cell (.c (.int .i64 y8))), (7, .cell (.op 2 0 2 0 0)), (8, .cell (.c (.int .i64 y16))), (70, .cell (.c (.bool false))), (71, .cell (.c (.bool y3)))]) 72 hb (by kernel_rfl) (by kernel_rfl) ?_
                              obtain rfl := Option.some.inj h
                              refine WQ_exk (n' := 1) (T' := [(2, .cell (.op 0 0 8 0 0)), (3, .cell (.op 1 0 2 0 0)), (5, .cell (.c (.bool y3))), (6, .cell (.c (.int .i64 y8))), (7, .cell (.op 2 0 2 0 0)), (8, .cell (.c (.int .i64 y16))), (70, .cell (.c (.bool false))), (71, .cell (.c (.bool y3))), (72, .cell (.c (.bool false))), (80, .cell (.c (.bool false)))]) (Φ := True) 8 [2, 3, 5, 6, 7, 8, 70, 71, 72, 80] (by kernel_rfl) trivial ?_
                              refine WQ_bool (T' := [(72, .cell (.c (.bool y3))), (2, .cell (.op 0 0 8 0 0)), (3, .cell (.op 1 0 2 0 0)), (5, .cell (.c (.bool y3))), (6, .cell (.c (.int .i64 y8))), (7, .cell (.op 2 0 2 0 0)), (8, .cell (.c (.int .i64 y16))), (70, .cell (.c (.bool false))), (71, .cell (.c (.bool y3))), (80, .cell (.c (.bool false)))]) 72 hb.symm (by kernel_rfl) (by kernel_rfl) ?_
                              exact WQ_keep [2, 3, 5, 6, 7, 8, 70, 71, 72, 80] (by kernel_rfl) J
                    · have h := cond_f hb h
                      refine W_exit_at 2 (by kernel_rfl) (by kernel_rfl) ?_
                      refine thenQ_e ?_
                      obtain rfl := Option.some.inj h; refine round_e rfl (fun hb => ?_); subst hb; have h := kb17; dsimp only at h
                      refine blockQ_hit ?_
                      refine blockQ_n ?_
                      obtain rfl := Option.some.inj h
                      exact thenQ_n ⟨_, rfl, stps_ok [.keep [2, 3, 5, 6], .take 2] (by kernel_rfl)⟩
                · intro J
                  clear h
                  rcases Bool.eq_false_or_eq_true (decide (((a1_1.getD y8.toNat e74.d).1) ≥ r14)) with hb | hb
                  · have h := cond_t hb gy15; clear gy15
                    refine WO_ent (ent_bool (T' := [(49, .cell (.c (.bool true))), (2, .cell (.op 0 0 8 0 0)), (3, .cell (.op 1 0 2 0 0)), (5, .cell (.c (.bool y3))), (6, .cell (.c (.int .i64 y8))), (7, .cell (.op 2 0 2 0 0))]) 49 hb (by kernel_rfl) (by kernel_rfl)) ?_
                    obtain rfl := Option.some.inj h
                    refine WO_exk (σ' := [some (.lit 0 27 [.c (.int .i64 a0_0), .c (.int .i64 a0_1), .c (.int .i64 a0_2), .c (.int .i64 a0_3), .c (slC e28 a0_4), .c (slC e72 a0_5), .c (slC e65 a0_6), .c (slC e77 a0_7)]), some (.lit 0 72 [.c (.int .u8 a1_0), .c (slC e74 a1_1)]), some (.lit 0 74 [.c (.int .u64 ((a1_1.getD y8.toNat e74.d).1)), .c (slC e61 ((a1_1.getD y8.toNat e74.d).2))])]) (T' := [(2, .cell (.op 0 0 8 0 0)), (3, .cell (.op 1 0 2 0 0)), (5, .cell (.c (.bool y3))), (6, .cell (.c (.int .i64 y8))), (7, .cell (.op 2 0 2 0 0)), (54, .cell (.c (.bool true)))]) (Φ := True) 5 [2, 3, 5, 6, 7, 54] (by kernel_rfl) trivial J
                  · have h := cond_f hb gy15; clear gy15
                    refine WO_ent (ent_bool (T' := [(49, .cell (.c (.bool false))), (2, .cell (.op 0 0 8 0 0)), (3, .cell (.op 1 0 2 0 0)), (5, .cell (.c (.bool y3))), (6, .cell (.c (.int .i64 y8))), (7, .cell (.op 2 0 2 0 0))]) 49 hb (by kernel_rfl) (by kernel_rfl)) ?_
                    refine WO_exk (σ' := [some (.lit 0 27 [.c (.int .i64 a0_0), .c (.int .i64 a0_1), .c (.int .i64 a0_2), .c (.int .i64 a0_3), .c (slC e28 a0_4), .c (slC e72 a0_5), .c (slC e65 a0_6), .c (slC e77 a0_7)]), some (.lit 0 72 [.c (.int .u8 a1_0), .c (slC e74 a1_1)]), some (.lit 0 74 [.c (.int .u64 ((a1_1.getD y8.toNat e74.d).1)), .c (slC e61 ((a1_1.getD y8.toNat e74.d).2))])]) (T' := [(2, .cell (.op 0 0 8 0 0)), (3, .cell (.op 1 0 2 0 0)), (5, .cell (.c (.bool y3))), (6, .cell (.c (.int .i64 y8))), (7, .cell (.op 2 0 2 0 0)), (49, .cell (.c (.bool false))), (50, .cell (.op 2 0 2 0 1)), (51, .cell (.c (slC e61 ((a1_1.getD y8.toNat e74.d).2)))), (52, .cell (.c (.int .i64 (((a1_1.getD y8.toNat e74.d).2).length : Int)))), (53, .cell (.c (.bool (decide ((((a1_1.getD y8.toNat e74.d).2).length : Int) > (8 : Int))))))]) (Φ := (True)) 4 [2, 3, 5, 6, 7, 49, 50, 51, 52, 53] (by kernel_rfl) trivial ?_
                    obtain rfl := Option.some.inj h
                    refine WO_exk (σ' := [some (.lit 0 27 [.c (.int .i64 a0_0), .c (.int .i64 a0_1), .c (.int .i64 a0_2), .c (.int .i64 a0_3), .c (slC e28 a0_4), .c (slC e72 a0_5), .c (slC e65 a0_6), .c (slC e77 a0_7)]), some (.lit 0 72 [.c (.int .u8 a1_0), .c (slC e74 a1_1)]), some (.lit 0 74 [.c (.int .u64 ((a1_1.getD y8.toNat e74.d).1)), .c (slC e61 ((a1_1.getD y8.toNat e74.d).2))])]) (T' := [(2, .cell (.op 0 0 8 0 0)), (3, .cell (.op 1 0 2 0 0)), (5, .cell (.c (.bool y3))), (6, .cell (.c (.int .i64 y8))), (7, .cell (.op 2 0 2 0 0)), (54, .cell (.c (.bool (decide ((((a1_1.getD y8.toNat e74.d).2).length : Int) > (8 : Int))))))]) (Φ := True) 1 [2, 3, 5, 6, 7, 54] (by kernel_rfl) trivial J
            · have h := cond_f hb h
              refine W_exit_at 0 (by kernel_rfl) (by kernel_rfl) ?_
              refine thenQ_e ?_
              obtain rfl := Option.some.inj h; refine round_e rfl (fun hb => ?_); subst hb; have h := kb9; dsimp only at h
              refine blockQ_hit ?_
              obtain rfl := Option.some.inj h
              exact thenQ_n ⟨_, rfl, stps_ok [.keep [3, 5], .take 2] (by kernel_rfl)⟩
        · intro J
          clear h
          rcases Bool.eq_false_or_eq_true (decide (a1_0 = (3 : Int))) with hb | hb
          · have h := cond_t hb gy3; clear gy3
            refine WO_ent (ent_bool (T' := [(26, .cell (.c (.bool true))), (2, .cell (.op 0 0 8 0 0)), (3, .cell (.op 1 0 2 0 0))]) 26 hb (by kernel_rfl) (by kernel_rfl)) ?_
            obtain rfl := Option.some.inj h
            refine WO_exk (σ' := [some (.lit 0 27 [.c (.int .i64 a0_0), .c (.int .i64 a0_1), .c (.int .i64 a0_2), .c (.int .i64 a0_3), .c (slC e28 a0_4), .c (slC e72 a0_5), .c (slC e65 a0_6), .c (slC e77 a0_7)]), some (.lit 0 72 [.c (.int .u8 a1_0), .c (slC e74 a1_1)])]) (T' := [(2, .cell (.op 0 0 8 0 0)), (3, .cell (.op 1 0 2 0 0)), (30, .cell (.c (.bool true)))]) (Φ := True) 4 [2, 3, 30] (by kernel_rfl) trivial J
          · have h := cond_f hb gy3; clear gy3
            refine WO_ent (ent_bool (T' := [(26, .cell (.c (.bool false))), (2, .cell (.op 0 0 8 0 0)), (3, .cell (.op 1 0 2 0 0))]) 26 hb (by kernel_rfl) (by kernel_rfl)) ?_
            refine WO_exk (σ' := [some (.lit 0 27 [.c (.int .i64 a0_0), .c (.int .i64 a0_1), .c (.int .i64 a0_2), .c (.int .i64 a0_3), .c (slC e28 a0_4), .c (slC e72 a0_5), .c (slC e65 a0_6), .c (slC e77 a0_7)]), some (.lit 0 72 [.c (.int .u8 a1_0), .c (slC e74 a1_1)])]) (T' := [(2, .cell (.op 0 0 8 0 0)), (3, .cell (.op 1 0 2 0 0)), (26, .cell (.c (.bool false))), (29, .cell (.c (.bool (decide (a1_0 = (4 : Int))))))]) (Φ := (True)) 3 [2, 3, 26, 29] (by kernel_rfl) trivial ?_
            obtain rfl := Option.some.inj h
            refine WO_exk (σ' := [some (.lit 0 27 [.c (.int .i64 a0_0), .c (.int .i64 a0_1), .c (.int .i64 a0_2), .c (.int .i64 a0_3), .c (slC e28 a0_4), .c (slC e72 a0_5), .c (slC e65 a0_6), .c (slC e77 a0_7)]), some (.lit 0 72 [.c (.int .u8 a1_0), .c (slC e74 a1_1)])]) (T' := [(2, .cell (.op 0 0 8 0 0)), (3, .cell (.op 1 0 2 0 0)), (30, .cell (.c (.bool (decide (a1_0 = (4 : Int))))))]) (Φ := True) 1 [2, 3, 30] (by kernel_rfl) trivial J
    · intro J
      clear h
      rcases Bool.eq_false_or_eq_true y1 with hb | hb
      · have h := cond_t hb gy2; clear gy2
        refine WO_ent (ent_bool (T' := [(17, .cell (.c (.bool true))), (2, .cell (.op 0 0 8 0 0)), (3, .cell (.op 1 0 2 0 0))]) 17 hb (by kernel_rfl) (by kernel_rfl)) ?_
        obtain rfl := Option.some.inj h
        refine WO_exk (σ' := [some (.lit 0 27 [.c (.int .i64 a0_0), .c (.int .i64 a0_1), .c (.int .i64 a0_2), .c (.int .i64 a0_3), .c (slC e28 a0_4), .c (slC e72 a0_5), .c (slC e65 a0_6), .c (slC e77 a0_7)]), some (.lit 0 72 [.c (.int .u8 a1_0), .c (slC e74 a1_1)])]) (T' := [(2, .cell (.op 0 0 8 0 0)), (3, .cell (.op 1 0 2 0 0)), (22, .cell (.c (.bool true)))]) (Φ := True) 5 [2, 3, 22] (by kernel_rfl) trivial J
      · have h := cond_f hb gy2; clear gy2
        refine WO_ent (ent_bool (T' := [(17, .cell (.c (.bool false))), (2, .cell (.op 0 0 8 0 0)), (3, .cell (.op 1 0 2 0 0))]) 17 hb (by kernel_rfl) (by kernel_rfl)) ?_
        refine WO_exk (σ' := [some (.lit 0 27 [.c (.int .i64 a0_0), .c (.int .i64 a0_1), .c (.int .i64 a0_2), .c (.int .i64 a0_3), .c (slC e28 a0_4), .c (slC e72 a0_5), .c (slC e65 a0_6), .c (slC e77 a0_7)]), some (.lit 0 72 [.c (.int .u8 a1_0), .c (slC e74 a1_1)])]) (T' := [(2, .cell (.op 0 0 8 0 0)), (3, .cell (.op 1 0 2 0 0)), (17, .cell (.c (.bool false))), (21, .cell (.c (.bool (decide ((a1_1.length : Int) > (64 : Int))))))]) (Φ := (True)) 4 [2, 3, 17, 21] (by kernel_rfl) trivial ?_
        obtain rfl := Option.some.inj h
        refine WO_exk (σ' := [some (.lit 0 27 [.c (.int .i64 a0_0), .c (.int .i64 a0_1), .c (.int .i64 a0_2), .c (.int .i64 a0_3), .c (slC e28 a0_4), .c (slC e72 a0_5), .c (slC e65 a0_6), .c (slC e77 a0_7)]), some (.lit 0 72 [.c (.int .u8 a1_0), .c (slC e74 a1_1)])]) (T' := [(2, .cell (.op 0 0 8 0 0)), (3, .cell (.op 1 0 2 0 0)), (22, .cell (.c (.bool (decide ((a1_1.length : Int) > (64 : Int))))))]) (Φ := True) 1 [2, 3, 22] (by kernel_rfl) trivial J
  · intro J
    clear h
    rcases Bool.eq_false_or_eq_true (decide (a1_0 < (1 : Int))) with hb | hb
    · have h := cond_t hb gy1; clear gy1
      refine WO_ent (ent_bool (T' := [(12, .cell (.c (.bool true))), (2, .cell (.op 0 0 8 0 0)), (3, .cell (.op 1 0 2 0 0))]) 12 hb (by kernel_rfl) (by kernel_rfl)) ?_
      obtain rfl := Option.some.inj h
      refine WO_exk (σ' := [some (.lit 0 27 [.c (.int .i64 a0_0), .c (.int .i64 a0_1), .c (.int .i64 a0_2), .c (.int .i64 a0_3), .c (slC e28 a0_4), .c (slC e72 a0_5), .c (slC e65 a0_6), .c (slC e77 a0_7)]), some (.lit 0 72 [.c (.int .u8 a1_0), .c (slC e74 a1_1)])]) (T' := [(2, .cell (.op 0 0 8 0 0)), (3, .cell (.op 1 0 2 0 0)), (16, .cell (.c (.bool true)))]) (Φ := True) 4 [2, 3, 16] (by kernel_rfl) trivial J
    · have h := cond_f hb gy1; clear gy1
      refine WO_ent (ent_bool (T' := [(12, .cell (.c (.bool false))), (2, .cell (.op 0 0 8 0 0)), (3, .cell (.op 1 0 2 0 0))]) 12 hb (by kernel_rfl) (by kernel_rfl)) ?_
      refine WO_exk (σ' := [some (.lit 0 27 [.c (.int .i64 a0_0), .c (.int .i64 a0_1), .c (.int .i64 a0_2), .c (.int .i64 a0_3), .c (slC e28 a0_4), .c (slC e72 a0_5), .c (slC e65 a0_6), .c (slC e77 a0_7)]), some (.lit 0 72 [.c (.int .u8 a1_0), .c (slC e74 a1_1)])]) (T' := [(2, .cell (.op 0 0 8 0 0)), (3, .cell (.op 1 0 2 0 0)), (12, .cell (.c (.bool false))), (15, .cell (.c (.bool (decide (a1_0 > (4 : Int))))))]) (Φ := (True)) 3 [2, 3, 12, 15] (by kernel_rfl) trivial ?_
      obtain rfl := Option.some.inj h
      refine WO_exk (σ' := [some (.lit 0 27 [.c (.int .i64 a0_0), .c (.int .i64 a0_1), .c (.int .i64 a0_2), .c (.int .i64 a0_3), .c (slC e28 a0_4), .c (slC e72 a0_5), .c (slC e65 a0_6), .c (slC e77 a0_7)]), some (.lit 0 72 [.c (.int .u8 a1_0), .c (slC e74 a1_1)])]) (T' := [(2, .cell (.op 0 0 8 0 0)), (3, .cell (.op 1 0 2 0 0)), (16, .cell (.c (.bool (decide (a1_0 > (4 : Int))))))]) (Φ := True) 1 [2, 3, 16] (by kernel_rfl) trivial J

/- attestorref13.tuple -/
def s102_0 (L : LP) (a0_0 : Int) (a0_1 : Int) (a0_2 : Int) (a0_3 : Int) (a0_4 : (List (List Int))) (a0_5 : (List (Int × (List (Int × (List (Int × Int))))))) (a0_6 : (List ((List (List (Int × Int))) × (List (List (Int × Int)))))) (a0_7 : (List ((List (Int × Int)) × (List (Int × Int)) × Int × Int))) (a1 : (List (Int × Int))) (a3 : Bool) (y3 : Int) : Option (Int ⊕ (Bool ⊕ Unit)) :=
  (bif (decide (y3 < (a1.length : Int))) then
  (ck (0 ≤ y3 ∧ y3 < (a1.length : Int))).bind fun _ =>
  (s101 L a0_0 a0_1 a0_2 a0_3 a0_4 a0_5 a0_6 a0_7 ((a1.getD y3.toNat e61.d).1) ((a1.getD y3.toNat e61.d).2)).bind fun r6 =>
  (bif (!r6) then some true
  else (ck (0 ≤ y3 ∧ y3 < (a1.length : Int))).bind fun _ =>
  (bif (!(decide (((a1.getD y3.toNat e61.d).1) = (3 : Int)))) then (bif a3 then some true
  else (ck (0 ≤ y3 ∧ y3 < (a1.length : Int))).bind fun _ =>
  some (!(decide (((a1.getD y3.toNat e61.d).1) = (1 : Int))))).bind fun y11 =>
  some y11
  else some false).bind fun y10 =>
  some y10).bind fun y7 =>
  (bif y7 then
  some (.inr (.inl false))
  else (ck (inR .i64 (y3 + (1 : Int)))).bind fun _ =>
  some (.inl (y3 + (1 : Int))))
  else some (.inr (.inr ())))
def s102 (L : LP) (a0_0 : Int) (a0_1 : Int) (a0_2 : Int) (a0_3 : Int) (a0_4 : (List (List Int))) (a0_5 : (List (Int × (List (Int × (List (Int × Int))))))) (a0_6 : (List ((List (List (Int × Int))) × (List (List (Int × Int)))))) (a0_7 : (List ((List (Int × Int)) × (List (Int × Int)) × Int × Int))) (a1 : (List (Int × Int))) (a2 : Int) (a3 : Bool) : Option Bool :=
  (bif (!(decide ((a1.length : Int) = a2))) then
  some false
  else ((L.run (s102_0 L a0_0 a0_1 a0_2 a0_3 a0_4 a0_5 a0_6 a0_7 a1 a3) (0 : Int)).bind (fun (b : Bool ⊕ Unit) => (match b with
  | .inl v => some (.inr v)
  | .inr v => some (.inl ())))).bind fun (y1 : Unit ⊕ Bool) => (match y1 with
  | .inl v2 => some true
  | .inr v2 => some v2))
theorem p102 (L : LP) (a0_0 : Int) (a0_1 : Int) (a0_2 : Int) (a0_3 : Int) (a0_4 : (List (List Int))) (a0_5 : (List (Int × (List (Int × (List (Int × Int))))))) (a0_6 : (List ((List (List (Int × Int))) × (List (List (Int × Int)))))) (a0_7 : (List ((List (Int × Int)) × (List (Int × Int)) × Int × Int))) (a1 : (List (Int × Int))) (a2 : Int) (a3 : Bool) (r : Bool) (h : s102 L a0_0 a0_1 a0_2 a0_3 a0_4 a0_5 a0_6 a0_7 a1 a2 a3 = some r) : Pure X 102 [.agg [.c (.int .i64 a0_0), .c (.int .i64 a0_1), .c (.int .i64 a0_2), .c (.int .i64 a0_3), .c (slC e28 a0_4), .c (slC e72 a0_5), .c (slC e65 a0_6), .c (slC e77 a0_7)], .cell (.c (slC e61 a1)), .cell (.c (.int .i64 a2)), .cell (.c (.bool a3))] (.cell (.c (.bool r))) := by
  refine Pure_of_W (c := cd Tryd.f102 []) Tryd.func102 (by kernel_rfl) (N := 46) (by kernel_rfl) (Nat.le_of_ble_eq_true (by kernel_rfl)) ?_
  unfold s102 at h
  refine W_seq_at (by kernel_rfl) ?_
  refine W_region_at (by kernel_rfl) ?_
  refine WO_fin (σ' := [some (.lit 0 27 [.c (.int .i64 a0_0), .c (.int .i64 a0_1), .c (.int .i64 a0_2), .c (.int .i64 a0_3), .c (slC e28 a0_4), .c (slC e72 a0_5), .c (slC e65 a0_6), .c (slC e77 a0_7)])]) (T' := [(1, .cell (.c (slC e61 a1))), (2, .cell (.c (.int .i64 a2))), (3, .cell (.c (.bool a3))), (4, .cell (.op 0 0 8 0 0))]) (Φ := (True)) 2 [1, 2, 3, 4] (by kernel_rfl) trivial (by kernel_rfl) ?_
  refine thenQ_n ?_
  refine W_seq_at (by kernel_rfl) ?_
  refine W_seq_at (by kernel_rfl) ?_
  refine W_region_at (by kernel_rfl) ?_
  refine WO_fin (σ' := [some (.lit 0 27 [.c (.int .i64 a0_0), .c (.int .i64 a0_1), .c (.int .i64 a0_2), .c (.int .i64 a0_3), .c (slC e28 a0_4), .c (slC e72 a0_5), .c (slC e65 a0_6), .c (slC e77 a0_7)])]) (T' := [(1, .cell (.c (slC e61 a1))), (3, .cell (.c (.bool a3))), (4, .cell (.op 0 0 8 0 0)), (13, .cell (.c (.bool (!(decide ((a1.length : Int) = a2))))))]) (Φ := (True)) 4 [1, 3, 4, 13] (by kernel_rfl) trivial (by kernel_rfl) ?_
  refine thenQ_n ?_
  refine W_cond_at (b := (!(decide ((a1.length : Int) = a2)))) (by kernel_rfl) (fun hb => ?_) (fun hb => ?_)
  · have h := cond_t hb h
    refine W_seq_at (by kernel_rfl) ?_
    refine W_region_at (by kernel_rfl) ?_
    refine WO_fin (σ' := [some (.lit 0 27 [.c (.int .i64 a0_0), .c (.int .i64 a0_1), .c (.int .i64 a0_2), .c (.int .i64 a0_3), .c (slC e28 a0_4), .c (slC e72 a0_5), .c (slC e65 a0_6), .c (slC e77 a0_7)])]) (T' := [(8, .cell (.c (.bool false)))]) (Φ := (True)) 1 [8] (by kernel_rfl) trivial (by kernel_rfl) ?_
    refine thenQ_n ?_
    refine W_ret_at (by kernel_rfl) ?_
    refine thenQ_r ?_
    obtain rfl := Option.some.inj h
    exact qret [.cell (.c (.bool false))] (by kernel_rfl) (by kernel_rfl) ([]) (by kernel_rfl)
  · have h := cond_f hb h
    refine W_skip_at (by kernel_rfl) ?_
    refine thenQ_n ?_
    obtain ⟨y1, gy1, ky1⟩ := bind_some h
    refine W_cutE (by kernel_rfl) (fun v2 => y1 = .inl v2) (fun v2 => ([some (.lit 0 27 [.c (.int .i64 a0_0), .c (.int .i64 a0_1), .c (.int .i64 a0_2), .c (.int .i64 a0_3), .c (slC e28 a0_4), .c (slC e72 a0_5), .c (slC e65 a0_6), .c (slC e77 a0_7)])], [])) ?_ ?_
    · intro v2 hv; subst hv; have h := ky1; clear gy1 ky1; dsimp only at h
      refine W_seq_at (by kernel_rfl) ?_
      refine W_region_at (by kernel_rfl) ?_
      refine WO_fin (σ' := [some (.lit 0 27 [.c (.int .i64 a0_0), .c (.int .i64 a0_1), .c (.int .i64 a0_2), .c (.int .i64 a0_3), .c (slC e28 a0_4), .c (slC e72 a0_5), .c (slC e65 a0_6), .c (slC e77 a0_7)])]) (T' := [(8, .cell (.c (.bool true)))]) (Φ := (True)) 1 [8] (by kernel_rfl) trivial (by kernel_rfl) ?_
      refine thenQ_n ?_
      refine W_ret_at (by kernel_rfl) ?_
      obtain rfl := Option.some.inj h
      exact qret [.cell (.c (.bool true))] (by kernel_rfl) (by kernel_rfl) ([]) (by kernel_rfl)
    · have h := gy1; clear gy1
      refine W_seq_at (by kernel_rfl) ?_
      refine W_region_at (by kernel_rfl) ?_
      refine WO_fin (σ' := [some (.lit 0 27 [.c (.int .i64 a0_0), .c (.int .i64 a0_1), .c (.int .i64 a0_2), .c (.int .i64 a0_3), .c (slC e28 a0_4), .c (slC e72 a0_5), .c (slC e65 a0_6), .c (slC e77 a0_7)])]) (T' := [(1, .cell (.c (slC e61 a1))), (3, .cell (.c (.bool a3))), (4, .cell (.op 0 0 8 0 0)), (9, .cell (.c (.int .i64 (0 : Int))))]) (Φ := (True)) 1 [1, 3, 4, 9] (by kernel_rfl) trivial (by kernel_rfl) ?_
      refine thenQ_n ?_
      refine W_block_at 0 (by kernel_rfl) (by kernel_rfl) ?_
      obtain ⟨b4, gb4, kb4⟩ := bind_some h
      refine W_loop_at (S := fun (y3 : Int) => ([some (.lit 0 27 [.c (.int .i64 a0_0), .c (.int .i64 a0_1), .c (.int .i64 a0_2), .c (.int .i64 a0_3), .c (slC e28 a0_4), .c (slC e72 a0_5), .c (slC e65 a0_6), .c (slC e77 a0_7)])], [(1, .cell (.c (slC e61 a1))), (3, .cell (.c (.bool a3))), (4, .cell (.op 0 0 8 0 0)), (9, .cell (.c (.int .i64 y3)))])) (step := _) (x0 := (0 : Int)) (b := b4) (L.ok _ _ _ gb4) (by kernel_rfl) (stps_ok [.keep [1, 3, 4, 9], .take 1] (by kernel_rfl)) ?_
      clear gb4 h; intro y3 o h; unfold s102_0 at h
      refine W_seq_at (by kernel_rfl) ?_
      refine W_seq_at (by kernel_rfl) ?_
      refine W_region_at (by kernel_rfl) ?_
      refine WO_fin (σ' := [some (.lit 0 27 [.c (.int .i64 a0_0), .c (.int .i64 a0_1), .c (.int .i64 a0_2), .c (.int .i64 a0_3), .c (slC e28 a0_4), .c (slC e72 a0_5), .c (slC e65 a0_6), .c (slC e77 a0_7)])]) (T' := [(1, .cell (.c (slC e61 a1))), (3, .cell (.c (.bool a3))), (4, .cell (.op 0 0 8 0 0)), (9, .cell (.c (.int .i64 y3))), (17, .cell (.c (.bool (decide (y3 < (a1.length : Int))))))]) (Φ := (True)) 4 [1, 3, 4, 9, 17] (by kernel_rfl) trivial (by kernel_rfl) ?_
      refine thenQ_n ?_
      refine W_cond_at (b := (decide (y3 < (a1.length : Int)))) (by kernel_rfl) (fun hb => ?_) (fun hb => ?_)
      · have h := cond_t hb h
        refine W_skip_at (by kernel_rfl) ?_
        refine thenQ_n ?_
        refine W_seq_at (by kernel_rfl) ?_
        refine W_block_at 1 (by kernel_rfl) (by kernel_rfl) ?_
        refine W_seq_at (by kernel_rfl) ?_
        refine W_drawK 26 (by kernel_rfl) mixed (by kernel_rfl) ?_
        obtain ⟨c5, h⟩ := ck_bind h
        refine WQ_exk (n' := 21) (T' := [(1, .cell (.c (slC e61 a1))), (3, .cell (.c (.bool a3))), (4, .cell (.op 0 0 8 0 0)), (9, .cell (.c (.int .i64 y3))), (20, .agg [.c (.int .i64 a0_0), .c (.int .i64 a0_1), .c (.int .i64 a0_2), .c (.int .i64 a0_3), .c (slC e28 a0_4), .c (slC e72 a0_5), .c (slC e65 a0_6), .c (slC e77 a0_7)]), (24, .agg [.c (.int .u8 ((a1.getD y3.toNat e61.d).1)), .c (.int .i64 ((a1.getD y3.toNat e61.d).2))])]) (Φ := (0 ≤ y3 ∧ y3 < (a1.length : Int)) ∧ (True)) 5 [1, 3, 4, 9, 20, 24] (by kernel_rfl) ⟨c5, trivial⟩ ?_
        obtain ⟨r6, gr6, h⟩ := bind_some h
        refine WQ_call (f := 101) (all := [.agg [.c (.int .i64 a0_0), .c (.int .i64 a0_1), .c (.int .i64 a0_2), .c (.int .i64 a0_3), .c (slC e28 a0_4), .c (slC e72 a0_5), .c (slC e65 a0_6), .c (slC e77 a0_7)], .agg [.c (.int .u8 ((a1.getD y3.toNat e61.d).1)), .c (.int .i64 ((a1.getD y3.toNat e61.d).2))]]) (d := some 25) (r := .cell (.c (.bool r6))) (by kernel_rfl) (by kernel_rfl) (by kernel_rfl) Tryd.call101 (p101 L _ _ _ _ _ _ _ _ _ _ _ gr6) ?_
        refine WQ_exk (n' := 18) (T' := [(1, .cell (.c (slC e61 a1))), (3, .cell (.c (.bool a3))), (4, .cell (.op 0 0 8 0 0)), (9, .cell (.c (.int .i64 y3))), (27, .cell (.c (.bool (!r6))))]) (Φ := (True)) 2 [1, 3, 4, 9, 27] (by kernel_rfl) trivial ?_
        obtain ⟨y7, gy7, h⟩ := bind_some h
        refine WQ_join 0 26 [(1, .cell (.c (slC e61 a1))), (3, .cell (.c (.bool a3))), (4, .cell (.op 0 0 8 0 0)), (9, .cell (.c (.int .i64 y3))), (45, .cell (.c (.bool y7)))] ?_ ?_
        · clear gy7
          refine WQ_done ?_
          refine WO_fin (σ' := [some (.lit 0 27 [.c (.int .i64 a0_0), .c (.int .i64 a0_1), .c (.int .i64 a0_2), .c (.int .i64 a0_3), .c (slC e28 a0_4), .c (slC e72 a0_5), .c (slC e65 a0_6), .c (slC e77 a0_7)])]) (T' := [(1, .cell (.c (slC e61 a1))), (3, .cell (.c (.bool a3))), (4, .cell (.op 0 0 8 0 0)), (9, .cell (.c (.int .i64 y3))), (45, .cell (.c (.bool y7)))]) (Φ := True) 0 [1, 3, 4, 9, 45] (by kernel_rfl) trivial (by kernel_rfl) ?_
          refine thenQ_n ?_
          refine W_cond_at (b := y7) (by kernel_rfl) (fun hb => ?_) (fun hb => ?_)
          · have h := cond_t hb h
            refine W_seq_at (by kernel_rfl) ?_
            refine W_region_at (by kernel_rfl) ?_
            refine WO_fin (σ' := [some (.lit 0 27 [.c (.int .i64 a0_0), .c (.int .i64 a0_1), .c (.int .i64 a0_2), .c (.int .i64 a0_3), .c (slC e28 a0_4), .c (slC e72 a0_5), .c (slC e65 a0_6), .c (slC e77 a0_7)])]) (T' := [(8, .cell (.c (.bool false)))]) (Φ := (True)) 1 [8] (by kernel_rfl) trivial (by kernel_rfl) ?_
            refine thenQ_n ?_
            refine W_ret_at (by kernel_rfl) ?_
            refine blockQ_r ?_
            refine thenQ_r ?_
            obtain rfl := Option.some.inj h; refine round_r rfl (fun hb => ?_); subst hb; have h := kb4; dsimp only at h
            refine blockQ_r ?_
            obtain rfl := Option.some.inj h; have h := ky1; dsimp only at h; refine thenQ_r ?_
            obtain rfl := Option.some.inj h
            exact qret [.cell (.c (.bool false))] (by kernel_rfl) (by kernel_rfl) ([]) (by kernel_rfl)
          · have h := cond_f hb h
            refine W_skip_at (by kernel_rfl) ?_
            refine blockQ_n ?_
            refine thenQ_n ?_
            refine W_region_at (by kernel_rfl) ?_
            obtain ⟨c8, h⟩ := ck_bind h
            refine WO_fin (σ' := [some (.lit 0 27 [.c (.int .i64 a0_0), .c (.int .i64 a0_1), .c (.int .i64 a0_2), .c (.int .i64 a0_3), .c (slC e28 a0_4), .c (slC e72 a0_5), .c (slC e65 a0_6), .c (slC e77 a0_7)])]) (T' := [(1, .cell (.c (slC e61 a1))), (3, .cell (.c (.bool a3))), (4, .cell (.op 0 0 8 0 0)), (9, .cell (.c (.int .i64 (y3 + (1 : Int)))))]) (Φ := (inR .i64 (y3 + (1 : Int))) ∧ (True)) 3 [1, 3, 4, 9] (by kernel_rfl) ⟨c8, trivial⟩ (by kernel_rfl) ?_
            obtain rfl := Option.some.inj h
            exact round_n _ rfl (stps_ok [.keep [1, 3, 4, 9], .take 1] (by kernel_rfl))
        · intro J
          clear h
          rcases Bool.eq_false_or_eq_true (!r6) with hb | hb
          · have h := cond_t hb gy7; clear gy7
            refine WQ_bool (T' := [(27, .cell (.c (.bool true))), (1, .cell (.c (slC e61 a1))), (3, .cell (.c (.bool a3))), (4, .cell (.op 0 0 8 0 0)), (9, .cell (.c (.int .i64 y3)))]) 27 hb (by kernel_rfl) (by kernel_rfl) ?_
            obtain rfl := Option.some.inj h
            refine WQ_exk (n' := 0) (T' := [(1, .cell (.c (slC e61 a1))), (3, .cell (.c (.bool a3))), (4, .cell (.op 0 0 8 0 0)), (9, .cell (.c (.int .i64 y3))), (45, .cell (.c (.bool true)))]) (Φ := True) 18 [1, 3, 4, 9, 45] (by kernel_rfl) trivial J
          · have h := cond_f hb gy7; clear gy7
            refine WQ_bool (T' := [(27, .cell (.c (.bool false))), (1, .cell (.c (slC e61 a1))), (3, .cell (.c (.bool a3))), (4, .cell (.op 0 0 8 0 0)), (9, .cell (.c (.int .i64 y3)))]) 27 hb (by kernel_rfl) (by kernel_rfl) ?_
            obtain ⟨c9, h⟩ := ck_bind h
            refine WQ_exk (n' := 11) (T' := [(1, .cell (.c (slC e61 a1))), (3, .cell (.c (.bool a3))), (4, .cell (.op 0 0 8 0 0)), (9, .cell (.c (.int .i64 y3))), (27, .cell (.c (.bool false))), (28, .cell (.c (slC e61 a1))), (29, .cell (.c (.int .i64 y3))), (30, .cell (.c (ptC e61 a1 y3 0))), (31, .cell (.c (ptC e61 a1 y3 0))), (32, .cell (.c (.int .u8 ((a1.getD y3.toNat e61.d).1)))), (33, .cell (.c (.bool (!(decide (((a1.getD y3.toNat e61.d).1) = (3 : Int))))))), (34, .cell (.c (.bool (!(decide (((a1.getD y3.toNat e61.d).1) = (3 : Int)))))))]) (Φ := (0 ≤ y3 ∧ y3 < (a1.length : Int)) ∧ (True)) 7 [1, 3, 4, 9, 27, 28, 29, 30, 31, 32, 33, 34] (by kernel_rfl) ⟨c9, trivial⟩ ?_
            obtain ⟨y10, gy10, h⟩ := bind_some h
            refine WQ_join 1 25 [(1, .cell (.c (slC e61 a1))), (3, .cell (.c (.bool a3))), (4, .cell (.op 0 0 8 0 0)), (9, .cell (.c (.int .i64 y3))), (27, .cell (.c (.bool false))), (28, .cell (.c (slC e61 a1))), (29, .cell (.c (.int .i64 y3))), (30, .cell (.c (ptC e61 a1 y3 0))), (31, .cell (.c (ptC e61 a1 y3 0))), (32, .cell (.c (.int .u8 ((a1.getD y3.toNat e61.d).1)))), (33, .cell (.c (.bool (!(decide (((a1.getD y3.toNat e61.d).1) = (3 : Int))))))), (34, .cell (.c (.bool (!(decide (((a1.getD y3.toNat e61.d).1) = (3 : Int))))))), (44, .cell (.c (.bool y10)))] ?_ ?_
            · clear gy10
              obtain rfl := Option.some.inj h
              refine WQ_exk (n' := 0) (T' := [(1, .cell (.c (slC e61 a1))), (3, .cell (.c (.bool a3))), (4, .cell (.op 0 0 8 0 0)), (9, .cell (.c (.int .i64 y3))), (45, .cell (.c (.bool y10)))]) (Φ := True) 1 [1, 3, 4, 9, 45] (by kernel_rfl) trivial J
            · intro J
              clear h
              rcases Bool.eq_false_or_eq_true (!(decide (((a1.getD y3.toNat e61.d).1) = (3 : Int)))) with hb | hb
              · have h := cond_t hb gy10; clear gy10
                refine WQ_bool (T' := [(34, .cell (.c (.bool true))), (1, .cell (.c (slC e61 a1))), (3, .cell (.c (.bool a3))), (4, .cell (.op 0 0 8 0 0)), (9, .cell (.c (.int .i64 y3))), (27, .cell (.c (.bool false))), (28, .cell (.c (slC e61 a1))), (29, .cell (.c (.int .i64 y3))), (30, .cell (.c (ptC e61 a1 y3 0))), (31, .cell (.c (ptC e61 a1 y3 0))), (32, .cell (.c (.int .u8 ((a1.getD y3.toNat e61.d).1)))), (33, .cell (.c (.bool (!(decide (((a1.getD y3.toNat e61.d).1) = (3 : Int)))))))]) 34 hb (by kernel_rfl) (by kernel_rfl) ?_
                refine WQ_exk (n' := 9) (T' := [(1, .cell (.c (slC e61 a1))), (3, .cell (.c (.bool a3))), (4, .cell (.op 0 0 8 0 0)), (9, .cell (.c (.int .i64 y3))), (27, .cell (.c (.bool false))), (28, .cell (.c (slC e61 a1))), (29, .cell (.c (.int .i64 y3))), (30, .cell (.c (ptC e61 a1 y3 0))), (31, .cell (.c (ptC e61 a1 y3 0))), (32, .cell (.c (.int .u8 ((a1.getD y3.toNat e61.d).1)))), (33, .cell (.c (.bool (!(decide (((a1.getD y3.toNat e61.d).1) = (3 : Int))))))), (34, .cell (.c (.bool true))), (35, .cell (.c (.bool a3))), (36, .cell (.c (.bool a3)))]) (Φ := (True)) 2 [1, 3, 4, 9, 27, 28, 29, 30, 31, 32, 33, 34, 35, 36] (by kernel_rfl) trivial ?_
                obtain ⟨y11, gy11, h⟩ := bind_some h
                refine WQ_join 2 24 [(1, .cell (.c (slC e61 a1))), (3, .cell (.c (.bool a3))), (4, .cell (.op 0 0 8 0 0)), (9, .cell (.c (.int .i64 y3))), (27, .cell (.c (.bool false))), (28, .cell (.c (slC e61 a1))), (29, .cell (.c (.int .i64 y3))), (30, .cell (.c (ptC e61 a1 y3 0))), (31, .cell (.c (ptC e61 a1 y3 0))), (32, .cell (.c (.int .u8 ((a1.getD y3.toNat e61.d).1)))), (33, .cell (.c (.bool (!(decide (((a1.getD y3.toNat e61.d).1) = (3 : Int))))))), (34, .cell (.c (.bool true))), (35, .cell (.c (.bool a3))), (36, .cell (.c (.bool a3))), (43, .cell (.c (.bool y11)))] ?_ ?_
                · clear gy11
                  obtain rfl := Option.some.inj h
                  refine WQ_exk (n' := 1) (T' := [(1, .cell (.c (slC e61 a1))), (3, .cell (.c (.bool a3))), (4, .cell (.op 0 0 8 0 0)), (9, .cell (.c (.int .i64 y3))), (27, .cell (.c (.bool false))), (28, .cell (.c (slC e61 a1))), (29, .cell (.c (.int .i64 y3))), (30, .cell (.c (ptC e61 a1 y3 0))), (31, .cell (.c (ptC e61 a1 y3 0))), (32, .cell (.c (.int .u8 ((a1.getD y3.toNat e61.d).1)))), (33, .cell (.c (.bool (!(decide (((a1.getD y3.toNat e61.d).1) = (3 : Int))))))), (34, .cell (.c (.bool true))), (44, .cell (.c (.bool y11)))]) (Φ := True) 1 [1, 3, 4, 9, 27, 28, 29, 30, 31, 32, 33, 34, 44] (by kernel_rfl) trivial ?_
                  refine WQ_bool (T' := [(34, .cell (.c (.bool (!(decide (((a1.getD y3.toNat e61.d).1) = (3 : Int))))))), (1, .cell (.c (slC e61 a1))), (3, .cell (.c (.bool a3))), (4, .cell (.op 0 0 8 0 0)), (9, .cell (.c (.int .i64 y3))), (27, .cell (.c (.bool false))), (28, .cell (.c (slC e61 a1))), (29, .cell (.c (.int .i64 y3))), (30, .cell (.c (ptC e61 a1 y3 0))), (31, .cell (.c (ptC e61 a1 y3 0))), (32, .cell (.c (.int .u8 ((a1.getD y3.toNat e61.d).1)))), (33, .cell (.c (.bool (!(decide (((a1.getD y3.toNat e61.d).1) = (3 : Int))))))), (44, .cell (.c (.bool y11)))]) 34 hb.symm (by kernel_rfl) (by kernel_rfl) ?_
                  exact WQ_keep [1, 3, 4, 9, 27, 28, 29, 30, 31, 32, 33, 34, 44] (by kernel_rfl) J
                · intro J
                  clear h
                  rcases Bool.eq_false_or_eq_true a3 with hb | hb
                  · have h := cond_t hb gy11; clear gy11
                    refine WQ_bool (T' := [(36, .cell (.c (.bool true))), (1, .cell (.c (slC e61 a1))), (3, .cell (.c (.bool a3))), (4, .cell (.op 0 0 8 0 0)), (9, .cell (.c (.int .i64 y3))), (27, .cell (.c (.bool false))), (28, .cell (.c (slC e61 a1))), (29, .cell (.c (.int .i64 y3))), (30, .cell (.c (ptC e61 a1 y3 0))), (31, .cell (.c (ptC e61 a1 y3 0))), (32, .cell (.c (.int .u8 ((a1.getD y3.toNat e61.d).1)))), (33, .cell (.c (.bool (!(decide (((a1.getD y3.toNat e61.d).1) = (3 : Int))))))), (34, .cell (.c (.bool true))), (35, .cell (.c (.bool a3)))]) 36 hb (by kernel_rfl) (by kernel_rfl) ?_
                    obtain rfl := Option.some.inj h
                    refine WQ_exk (n' := 2) (T' := [(1, .cell (.c (slC e61 a1))), (3, .cell (.c (.bool a3))), (4, .cell (.op 0 0 8 0 0)), (9, .cell (.c (.int .i64 y3))), (27, .cell (.c (.bool false))), (28, .cell (.c (slC e61 a1))), (29, .cell (.c (.int .i64 y3))), (30, .cell (.c (ptC e61 a1 y3 0))), (31, .cell (.c (ptC e61 a1 y3 0))), (32, .cell (.c (.int .u8 ((a1.getD y3.toNat e61.d).1)))), (33, .cell (.c (.bool (!(decide (((a1.getD y3.toNat e61.d).1) = (3 : Int))))))), (34, .cell (.c (.bool true))), (35, .cell (.c (.bool a3))), (36, .cell (.c (.bool true))), (43, .cell (.c (.bool true)))]) (Φ := True) 7 [1, 3, 4, 9, 27, 28, 29, 30, 31, 32, 33, 34, 35, 36, 43] (by kernel_rfl) trivial ?_
                    refine WQ_bool (T' := [(36, .cell (.c (.bool a3))), (1, .cell (.c (slC e61 a1))), (3, .cell (.c (.bool a3))), (4, .cell (.op 0 0 8 0 0)), (9, .cell (.c (.int .i64 y3))), (27, .cell (.c (.bool false))), (28, .cell (.c (slC e61 a1))), (29, .cell (.c (.int .i64 y3))), (30, .cell (.c (ptC e61 a1 y3 0))), (31, .cell (.c (ptC e61 a1 y3 0))), (32, .cell (.c (.int .u8 ((a1.getD y3.toNat e61.d).1)))), (33, .cell (.c (.bool (!(decide (((a1.getD y3.toNat e61.d).1) = (3 : Int))))))), (34, .cell (.c (.bool true))), (35, .cell (.c (.bool a3))), (43, .cell (.c (.bool true)))]) 36 hb.symm (by kernel_rfl) (by kernel_rfl) ?_
                    exact WQ_keep [1, 3, 4, 9, 27, 28, 29, 30, 31, 32, 33, 34, 35, 36, 43] (by kernel_rfl) J
                  · have h := cond_f hb gy11; clear gy11
                    refine WQ_bool (T' := [(36, .cell (.c (.bool false))), (1, .cell (.c (slC e61 a1))), (3, .cell (.c (.bool a3))), (4, .cell (.op 0 0 8 0 0)), (9, .cell (.c (.int .i64 y3))), (27, .cell (.c (.bool false))), (28, .cell (.c (slC e61 a1))), (29, .cell (.c (.int .i64 y3))), (30, .cell (.c (ptC e61 a1 y3 0))), (31, .cell (.c (ptC e61 a1 y3 0))), (32, .cell (.c (.int .u8 ((a1.getD y3.toNat e61.d).1)))), (33, .cell (.c (.bool (!(decide (((a1.getD y3.toNat e61.d).1) = (3 : Int))))))), (34, .cell (.c (.bool true))), (35, .cell (.c (.bool a3)))]) 36 hb (by kernel_rfl) (by kernel_rfl) ?_
                    obtain ⟨c12, h⟩ := ck_bind h
                    refine WQ_exk (n' := 3) (T' := [(1, .cell (.c (slC e61 a1))), (3, .cell (.c (.bool a3))), (4, .cell (.op 0 0 8 0 0)), (9, .cell (.c (.int .i64 y3))), (27, .cell (.c (.bool false))), (28, .cell (.c (slC e61 a1))), (29, .cell (.c (.int .i64 y3))), (30, .cell (.c (ptC e61 a1 y3 0))), (31, .cell (.c (ptC e61 a1 y3 0))), (32, .cell (.c (.int .u8 ((a1.getD y3.toNat e61.d).1)))), (33, .cell (.c (.bool (!(decide (((a1.getD y3.toNat e61.d).1) = (3 : Int))))))), (34, .cell (.c (.bool true))), (35, .cell (.c (.bool a3))), (36, .cell (.c (.bool false))), (37, .cell (.c (slC e61 a1))), (38, .cell (.c (.int .i64 y3))), (39, .cell (.c (ptC e61 a1 y3 0))), (40, .cell (.c (ptC e61 a1 y3 0))), (41, .cell (.c (.int .u8 ((a1.getD y3.toNat e61.d).1)))), (42, .cell (.c (.bool (!(decide (((a1.getD y3.toNat e61.d).1) = (1 : Int)))))))]) (Φ := (0 ≤ y3 ∧ y3 < (a1.length : Int)) ∧ (True)) 6 [1, 3, 4, 9, 27, 28, 29, 30, 31, 32, 33, 34, 35, 36, 37, 38, 39, 40, 41, 42] (by kernel_rfl) ⟨c12, trivial⟩ ?_
                    obtain rfl := Option.some.inj h
                    refine WQ_exk (n' := 2) (T' := [(1, .cell (.c (slC e61 a1))), (3, .cell (.c (.bool a3))), (4, .cell (.op 0 0 8 0 0)), (9, .cell (.c (.int .i64 y3))), (27, .cell (.c (.bool false))), (28, .cell (.c (slC e61 a1))), (29, .cell (.c (.int .i64 y3))), (30, .cell (.c (ptC e61 a1 y3 0))), (31, .cell (.c (ptC e61 a1 y3 0))), (32, .cell (.c (.int .u8 ((a1.getD y3.toNat e61.d).1)))), (33, .cell (.c (.bool (!(decide (((a1.getD y3.toNat e61.d).1) = (3 : Int))))))), (34, .cell (.c (.bool true))), (35, .cell (.c (.bool a3))), (36, .cell (.c (.bool false))), (43, .cell (.c (.bool (!(decide (((a1.getD y3.toNat e61.d).1) = (1 : Int)))))))]) (Φ := True) 1 [1, 3, 4, 9, 27, 28, 29, 30, 31, 32, 33, 34, 35, 36, 43] (by kernel_rfl) trivial ?_
                    refine WQ_bool (T' := [(36, .cell (.c (.bool a3))), (1, .cell (.c (slC e61 a1))), (3, .cell (.c (.bool a3))), (4, .cell (.op 0 0 8 0 0)), (9, .cell (.c (.int .i64 y3))), (27, .cell (.c (.bool false))), (28, .cell (.c (slC e61 a1))), (29, .cell (.c (.int .i64 y3))), (30, .cell (.c (ptC e61 a1 y3 0))), (31, .cell (.c (ptC e61 a1 y3 0))), (32, .cell (.c (.int .u8 ((a1.getD y3.toNat e61.d).1)))), (33, .cell (.c (.bool (!(decide (((a1.getD y3.toNat e61.d).1) = (3 : Int))))))), (34, .cell (.c (.bool true))), (35, .cell (.c (.bool a3))), (43, .cell (.c (.bool (!(decide (((a1.getD y3.toNat e61.d).1) = (1 : Int)))))))]) 36 hb.symm (by kernel_rfl) (by kernel_rfl) ?_
                    exact WQ_keep [1, 3, 4, 9, 27, 28, 29, 30, 31, 32, 33, 34, 35, 36, 43] (by kernel_rfl) J
              · have h := cond_f hb gy10; clear gy10
                refine WQ_bool (T' := [(34, .cell (.c (.bool false))), (1, .cell (.c (slC e61 a1))), (3, .cell (.c (.bool a3))), (4, .cell (.op 0 0 8 0 0)), (9, .cell (.c (.int .i64 y3))), (27, .cell (.c (.bool false))), (28, .cell (.c (slC e61 a1))), (29, .cell (.c (.int .i64 y3))), (30, .cell (.c (ptC e61 a1 y3 0))), (31, .cell (.c (ptC e61 a1 y3 0))), (32, .cell (.c (.int .u8 ((a1.getD y3.toNat e61.d).1)))), (33, .cell (.c (.bool (!(decide (((a1.getD y3.toNat e61.d).1) = (3 : Int)))))))]) 34 hb (by kernel_rfl) (by kernel_rfl) ?_
                obtain rfl := Option.some.inj h
                refine WQ_exk (n' := 1) (T' := [(1, .cell (.c (slC e61 a1))), (3, .cell (.c (.bool a3))), (4, .cell (.op 0 0 8 0 0)), (9, .cell (.c (.int .i64 y3))), (27, .cell (.c (.bool false))), (28, .cell (.c (slC e61 a1))), (29, .cell (.c (.int .i64 y3))), (30, .cell (.c (ptC e61 a1 y3 0))), (31, .cell (.c (ptC e61 a1 y3 0))), (32, .cell (.c (.int .u8 ((a1.getD y3.toNat e61.d).1)))), (33, .cell (.c (.bool (!(decide (((a1.getD y3.toNat e61.d).1) = (3 : Int))))))), (34, .cell (.c (.bool false))), (44, .cell (.c (.bool false)))]) (Φ := True) 10 [1, 3, 4, 9, 27, 28, 29, 30, 31, 32, 33, 34, 44] (by kernel_rfl) trivial ?_
                refine WQ_bool (T' := [(34, .cell (.c (.bool (!(decide (((a1.getD y3.toNat e61.d).1) = (3 : Int))))))), (1, .cell (.c (slC e61 a1))), (3, .cell (.c (.bool a3))), (4, .cell (.op 0 0 8 0 0)), (9, .cell (.c (.int .i64 y3))), (27, .cell (.c (.bool false))), (28, .cell (.c (slC e61 a1))), (29, .cell (.c (.int .i64 y3))), (30, .cell (.c (ptC e61 a1 y3 0))), (31, .cell (.c (ptC e61 a1 y3 0))), (32, .cell (.c (.int .u8 ((a1.getD y3.toNat e61.d).1)))), (33, .cell (.c (.bool (!(decide (((a1.getD y3.toNat e61.d).1) = (3 : Int))))))), (44, .cell (.c (.bool false)))]) 34 hb.symm (by kernel_rfl) (by kernel_rfl) ?_
                exact WQ_keep [1, 3, 4, 9, 27, 28, 29, 30, 31, 32, 33, 34, 44] (by kernel_rfl) J
      · have h := cond_f hb h
        refine W_exit_at 0 (by kernel_rfl) (by kernel_rfl) ?_
        refine thenQ_e ?_
        obtain rfl := Option.some.inj h; refine round_e rfl (fun hb => ?_); subst hb; have h := kb4; dsimp only at h
        refine blockQ_hit ?_
        obtain rfl := Option.some.inj h
        exact thenQ_n ⟨_, rfl, stps_ok [.keep [], .take 1] (by kernel_rfl)⟩

/- attestorref13.perm -/
def s52_0 (L : LP) (a0_0 : Int) (a0_1 : Int) (a0_2 : Int) (a0_3 : Int) (a0_4 : (List (List Int))) (a0_5 : (List (Int × (List (Int × (List (Int × Int))))))) (a0_6 : (List ((List (List (Int × Int))) × (List (List (Int × Int)))))) (a0_7 : (List ((List (Int × Int)) × (List (Int × Int)) × Int × Int))) (a1_0 : (List (List (Int × Int)))) (a1_1 : (List (List (Int × Int)))) (y7 : Int) : Option (Int ⊕ (Bool ⊕ Unit)) :=
  (bif (decide (y7 < (a1_0.length : Int))) then
  (ck (0 ≤ y7 ∧ y7 < (a1_0.length : Int))).bind fun _ =>
  (s102 L a0_0 a0_1 a0_2 a0_3 a0_4 a0_5 a0_6 a0_7 (a1_0.getD y7.toNat e62.d) ((a1_0.getD (0 : Int).toNat e62.d).length : Int) false).bind fun r10 =>
  (bif (!r10) then some true
  else (ck (0 ≤ y7 ∧ y7 < (a1_1.length : Int))).bind fun _ =>
  (s102 L a0_0 a0_1 a0_2 a0_3 a0_4 a0_5 a0_6 a0_7 (a1_1.getD y7.toNat e62.d) ((a1_0.getD (0 : Int).toNat e62.d).length : Int) false).bind fun r14 =>
  some (!r14)).bind fun y11 =>
  (bif y11 then
  some (.inr (.inl false))
  else (ck (inR .i64 (y7 + (1 : Int)))).bind fun _ =>
  some (.inl (y7 + (1 : Int))))
  else some (.inr (.inr ())))
def s52 (L : LP) (a0_0 : Int) (a0_1 : Int) (a0_2 : Int) (a0_3 : Int) (a0_4 : (List (List Int))) (a0_5 : (List (Int × (List (Int × (List (Int × Int))))))) (a0_6 : (List ((List (List (Int × Int))) × (List (List (Int × Int)))))) (a0_7 : (List ((List (Int × Int)) × (List (Int × Int)) × Int × Int))) (a1_0 : (List (List (Int × Int)))) (a1_1 : (List (List (Int × Int)))) : Option Bool :=
  (bif (decide ((a1_0.length : Int) < (1 : Int))) then some true
  else some (decide ((a1_0.length : Int) > (4 : Int)))).bind fun y1 =>
  (bif y1 then some true
  else some (!(decide ((a1_1.length : Int) = (a1_0.length : Int))))).bind fun y2 =>
  (bif y2 then
  some false
  else (ck (0 ≤ (0 : Int) ∧ (0 : Int) < (a1_0.length : Int))).bind fun _ =>
  (bif (decide (((a1_0.getD (0 : Int).toNat e62.d).length : Int) < (1 : Int))) then some true
  else some (decide (((a1_0.getD (0 : Int).toNat e62.d).length : Int) > (4 : Int)))).bind fun y4 =>
  (bif y4 then
  some false
  else ((L.run (s52_0 L a0_0 a0_1 a0_2 a0_3 a0_4 a0_5 a0_6 a0_7 a1_0 a1_1) (0 : Int)).bind (fun (b : Bool ⊕ Unit) => (match b with
  | .inl v => some (.inr v)
  | .inr v => some (.inl ())))).bind fun (y5 : Unit ⊕ Bool) => (match y5 with
  | .inl v6 => some true
  | .inr v6 => some v6)))
theorem p52 (L : LP) (a0_0 : Int) (a0_1 : Int) (a0_2 : Int) (a0_3 : Int) (a0_4 : (List (List Int))) (a0_5 : (List (Int × (List (Int × (List (Int × Int))))))) (a0_6 : (List ((List (List (Int × Int))) × (List (List (Int × Int)))))) (a0_7 : (List ((List (Int × Int)) × (List (Int × Int)) × Int × Int))) (a1_0 : (List (List (Int × Int)))) (a1_1 : (List (List (Int × Int)))) (r : Bool) (h : s52 L a0_0 a0_1 a0_2 a0_3 a0_4 a0_5 a0_6 a0_7 a1_0 a1_1 = some r) : Pure X 52 [.agg [.c (.int .i64 a0_0), .c (.int .i64 a0_1), .c (.int .i64 a0_2), .c (.int .i64 a0_3), .c (slC e28 a0_4), .c (slC e72 a0_5), .c (slC e65 a0_6), .c (slC e77 a0_7)], .agg [.c (slC e62 a1_0), .c (slC e62 a1_1)]] (.cell (.c (.bool r))) := by
  refine Pure_of_W (c := cd Tryd.f52 []) Tryd.func52 (by kernel_rfl) (N := 64) (by kernel_rfl) (Nat.le_of_ble_eq_true (by kernel_rfl)) ?_
  unfold s52 at h
  refine W_seq_at (by kernel_rfl) ?_
  refine W_region_at (by kernel_rfl) ?_
  refine WO_fin (σ' := [some (.lit 0 27 [.c (.int .i64 a0_0), .c (.int .i64 a0_1), .c (.int .i64 a0_2), .c (.int .i64 a0_3), .c (slC e28 a0_4), .c (slC e72 a0_5), .c (slC e65 a0_6), .c (slC e77 a0_7)]), some (.lit 0 65 [.c (slC e62 a1_0), .c (slC e62 a1_1)])]) (T' := [(2, .cell (.op 0 0 8 0 0)), (3, .cell (.op 1 0 2 0 0))]) (Φ := (True)) 3 [2, 3] (by kernel_rfl) trivial (by kernel_rfl) ?_
  refine thenQ_n ?_
  refine W_seq_at (by kernel_rfl) ?_
  refine W_seq_at (by kernel_rfl) ?_
  refine W_region_at (by kernel_rfl) ?_
  refine WO_exk (σ' := [some (.lit 0 27 [.c (.int .i64 a0_0), .c (.int .i64 a0_1), .c (.int .i64 a0_2), .c (.int .i64 a0_3), .c (slC e28 a0_4), .c (slC e72 a0_5), .c (slC e65 a0_6), .c (slC e77 a0_7)]), some (.lit 0 65 [.c (slC e62 a1_0), .c (slC e62 a1_1)])]) (T' := [(2, .cell (.op 0 0 8 0 0)), (3, .cell (.op 1 0 2 0 0)), (11, .cell (.c (.bool (decide ((a1_0.length : Int) < (1 : Int))))))]) (Φ := (True)) 5 [2, 3, 11] (by kernel_rfl) trivial ?_
  obtain ⟨y1, gy1, h⟩ := bind_some h
  refine WO_join 10 [some (.lit 0 27 [.c (.int .i64 a0_0), .c (.int .i64 a0_1), .c (.int .i64 a0_2), .c (.int .i64 a0_3), .c (slC e28 a0_4), .c (slC e72 a0_5), .c (slC e65 a0_6), .c (slC e77 a0_7)]), some (.lit 0 65 [.c (slC e62 a1_0), .c (slC e62 a1_1)])] [(2, .cell (.op 0 0 8 0 0)), (3, .cell (.op 1 0 2 0 0)), (16, .cell (.c (.bool y1)))] ?_ ?_
  · clear gy1
    refine WO_exk (σ' := [some (.lit 0 27 [.c (.int .i64 a0_0), .c (.int .i64 a0_1), .c (.int .i64 a0_2), .c (.int .i64 a0_3), .c (slC e28 a0_4), .c (slC e72 a0_5), .c (slC e65 a0_6), .c (slC e77 a0_7)]), some (.lit 0 65 [.c (slC e62 a1_0), .c (slC e62 a1_1)])]) (T' := [(2, .cell (.op 0 0 8 0 0)), (3, .cell (.op 1 0 2 0 0)), (17, .cell (.c (.bool y1)))]) (Φ := (True)) 1 [2, 3, 17] (by kernel_rfl) trivial ?_
    obtain ⟨y2, gy2, h⟩ := bind_some h
    refine WO_join 19 [some (.lit 0 27 [.c (.int .i64 a0_0), .c (.int .i64 a0_1), .c (.int .i64 a0_2), .c (.int .i64 a0_3), .c (slC e28 a0_4), .c (slC e72 a0_5), .c (slC e65 a0_6), .c (slC e77 a0_7)]), some (.lit 0 65 [.c (slC e62 a1_0), .c (slC e62 a1_1)])] [(2, .cell (.op 0 0 8 0 0)), (3, .cell (.op 1 0 2 0 0)), (25, .cell (.c (.bool y2)))] ?_ ?_
    · clear gy2
      refine WO_fin (σ' := [some (.lit 0 27 [.c (.int .i64 a0_0), .c (.int .i64 a0_1), .c (.int .i64 a0_2), .c (.int .i64 a0_3), .c (slC e28 a0_4), .c (slC e72 a0_5), .c (slC e65 a0_6), .c (slC e77 a0_7)]), some (.lit 0 65 [.c (slC e62 a1_0), .c (slC e62 a1_1)])]) (T' := [(2, .cell (.op 0 0 8 0 0)), (3, .cell (.op 1 0 2 0 0)), (25, .cell (.c (.bool y2)))]) (Φ := True) 0 [2, 3, 25] (by kernel_rfl) trivial (by kernel_rfl) ?_
      refine thenQ_n ?_
      refine W_cond_at (b := y2) (by kernel_rfl) (fun hb => ?_) (fun hb => ?_)
      · have h := cond_t hb h
        refine W_seq_at (by kernel_rfl) ?_
        refine W_region_at (by kernel_rfl) ?_
        refine WO_fin (σ' := [some (.lit 0 27 [.c (.int .i64 a0_0), .c (.int .i64 a0_1), .c (.int .i64 a0_2), .c (.int .i64 a0_3), .c (slC e28 a0_4), .c (slC e72 a0_5), .c (slC e65 a0_6), .c (slC e77 a0_7)]), some (.lit 0 65 [.c (slC e62 a1_0), .c (slC e62 a1_1)])]) (T' := [(4, .cell (.c (.bool false)))]) (Φ := (True)) 1 [4] (by kernel_rfl) trivial (by kernel_rfl) ?_
        refine thenQ_n ?_
        refine W_ret_at (by kernel_rfl) ?_
        refine thenQ_r ?_
        obtain rfl := Option.some.inj h
        exact qret [.cell (.c (.bool false))] (by kernel_rfl) (by kernel_rfl) ([]) (by kernel_rfl)
      · have h := cond_f hb h
        refine W_skip_at (by kernel_rfl) ?_
        refine thenQ_n ?_
        refine W_seq_at (by kernel_rfl) ?_
        refine W_region_at (by kernel_rfl) ?_
        obtain ⟨c3, h⟩ := ck_bind h
        refine WO_fin (σ' := [some (.lit 0 27 [.c (.int .i64 a0_0), .c (.int .i64 a0_1), .c (.int .i64 a0_2), .c (.int .i64 a0_3), .c (slC e28 a0_4), .c (slC e72 a0_5), .c (slC e65 a0_6), .c (slC e77 a0_7)]), some (.lit 0 65 [.c (slC e62 a1_0), .c (slC e62 a1_1)])]) (T' := [(2, .cell (.op 0 0 8 0 0)), (3, .cell (.op 1 0 2 0 0)), (5, .cell (.c (.int .i64 ((a1_0.getD (0 : Int).toNat e62.d).length : Int))))]) (Φ := (0 ≤ (0 : Int) ∧ (0 : Int) < (a1_0.length : Int)) ∧ (True)) 6 [2, 3, 5] (by kernel_rfl) ⟨c3, trivial⟩ (by kernel_rfl) ?_
        refine thenQ_n ?_
        refine W_seq_at (by kernel_rfl) ?_
        refine W_seq_at (by kernel_rfl) ?_
        refine W_region_at (by kernel_rfl) ?_
        refine WO_exk (σ' := [some (.lit 0 27 [.c (.int .i64 a0_0), .c (.int .i64 a0_1), .c (.int .i64 a0_2), .c (.int .i64 a0_3), .c (slC e28 a0_4), .c (slC e72 a0_5), .c (slC e65 a0_6), .c (slC e77 a0_7)]), some (.lit 0 65 [.c (slC e62 a1_0), .c (slC e62 a1_1)])]) (T' := [(2, .cell (.op 0 0 8 0 0)), (3, .cell (.op 1 0 2 0 0)), (5, .cell (.c (.int .i64 ((a1_0.getD (0 : Int).toNat e62.d).length : Int)))), (33, .cell (.c (.bool (decide (((a1_0.getD (0 : Int).toNat e62.d).length : Int) < (1 : Int))))))]) (Φ := (True)) 3 [2, 3, 5, 33] (by kernel_rfl) trivial ?_
        obtain ⟨y4, gy4, h⟩ := bind_some h
        refine WO_join 6 [some (.lit 0 27 [.c (.int .i64 a0_0), .c (.int .i64 a0_1), .c (.int .i64 a0_2), .c (.int .i64 a0_3), .c (slC e28 a0_4), .c (slC e72 a0_5), .c (slC e65 a0_6), .c (slC e77 a0_7)]), some (.lit 0 65 [.c (slC e62 a1_0), .c (slC e62 a1_1)])] [(2, .cell (.op 0 0 8 0 0)), (3, .cell (.op 1 0 2 0 0)), (5, .cell (.c (.int .i64 ((a1_0.getD (0 : Int).toNat e62.d).length : Int)))), (36, .cell (.c (.bool y4)))] ?_ ?_
        · clear gy4
          refine WO_fin (σ' := [some (.lit 0 27 [.c (.int .i64 a0_0), .c (.int .i64 a0_1), .c (.int .i64 a0_2), .c (.int .i64 a0_3), .c (slC e28 a0_4), .c (slC e72 a0_5), .c (slC e65 a0_6), .c (slC e77 a0_7)]), some (.lit 0 65 [.c (slC e62 a1_0), .c (slC e62 a1_1)])]) (T' := [(2, .cell (.op 0 0 8 0 0)), (3, .cell (.op 1 0 2 0 0)), (5, .cell (.c (.int .i64 ((a1_0.getD (0 : Int).toNat e62.d).length : Int)))), (36, .cell (.c (.bool y4)))]) (Φ := True) 0 [2, 3, 5, 36] (by kernel_rfl) trivial (by kernel_rfl) ?_
          refine thenQ_n ?_
          refine W_cond_at (b := y4) (by kernel_rfl) (fun hb => ?_) (fun hb => ?_)
          · have h := cond_t hb h
            refine W_seq_at (by kernel_rfl) ?_
            refine W_region_at (by kernel_rfl) ?_
            refine WO_fin (σ' := [some (.lit 0 27 [.c (.int .i64 a0_0), .c (.int .i64 a0_1), .c (.int .i64 a0_2), .c (.int .i64 a0_3), .c (slC e28 a0_4), .c (slC e72 a0_5), .c (slC e65 a0_6), .c (slC e77 a0_7)]), some (.lit 0 65 [.c (slC e62 a1_0), .c (slC e62 a1_1)])]) (T' := [(4, .cell (.c (.bool false)))]) (Φ := (True)) 1 [4] (by kernel_rfl) trivial (by kernel_rfl) ?_
            refine thenQ_n ?_
            refine W_ret_at (by kernel_rfl) ?_
            refine thenQ_r ?_
            obtain rfl := Option.some.inj h
            exact qret [.cell (.c (.bool false))] (by kernel_rfl) (by kernel_rfl) ([]) (by kernel_rfl)
          · have h := cond_f hb h
            refine W_skip_at (by kernel_rfl) ?_
            refine thenQ_n ?_
            obtain ⟨y5, gy5, ky5⟩ := bind_some h
            refine W_cutE (by kernel_rfl) (fun v6 => y5 = .inl v6) (fun v6 => ([some (.lit 0 27 [.c (.int .i64 a0_0), .c (.int .i64 a0_1), .c (.int .i64 a0_2), .c (.int .i64 a0_3), .c (slC e28 a0_4), .c (slC e72 a0_5), .c (slC e65 a0_6), .c (slC e77 a0_7)]), some (.lit 0 65 [.c (slC e62 a1_0), .c (slC e62 a1_1)])], [])) ?_ ?_
            · intro v6 hv; subst hv; have h := ky5; clear gy5 ky5; dsimp only at h
              refine W_seq_at (by kernel_rfl) ?_
              refine W_region_at (by kernel_rfl) ?_
              refine WO_fin (σ' := [some (.lit 0 27 [.c (.int .i64 a0_0), .c (.int .i64 a0_1), .c (.int .i64 a0_2), .c (.int .i64 a0_3), .c (slC e28 a0_4), .c (slC e72 a0_5), .c (slC e65 a0_6), .c (slC e77 a0_7)]), some (.lit 0 65 [.c (slC e62 a1_0), .c (slC e62 a1_1)])]) (T' := [(4, .cell (.c (.bool true)))]) (Φ := (True)) 1 [4] (by kernel_rfl) trivial (by kernel_rfl) ?_
              refine thenQ_n ?_
              refine W_ret_at (by kernel_rfl) ?_
              obtain rfl := Option.some.inj h
              exact qret [.cell (.c (.bool true))] (by kernel_rfl) (by kernel_rfl) ([]) (by kernel_rfl)
            · have h := gy5; clear gy5
              refine W_seq_at (by kernel_rfl) ?_
              refine W_region_at (by kernel_rfl) ?_
              refine WO_fin (σ' := [some (.lit 0 27 [.c (.int .i64 a0_0), .c (.int .i64 a0_1), .c (.int .i64 a0_2), .c (.int .i64 a0_3), .c (slC e28 a0_4), .c (slC e72 a0_5), .c (slC e65 a0_6), .c (slC e77 a0_7)]), some (.lit 0 65 [.c (slC e62 a1_0), .c (slC e62 a1_1)])]) (T' := [(2, .cell (.op 0 0 8 0 0)), (3, .cell (.op 1 0 2 0 0)), (5, .cell (.c (.int .i64 ((a1_0.getD (0 : Int).toNat e62.d).length : Int)))), (6, .cell (.c (.int .i64 (0 : Int))))]) (Φ := (True)) 1 [2, 3, 5, 6] (by kernel_rfl) trivial (by kernel_rfl) ?_
              refine thenQ_n ?_
              refine W_block_at 0 (by kernel_rfl) (by kernel_rfl) ?_
              obtain ⟨b8, gb8, kb8⟩ := bind_some h
              refine W_loop_at (S := fun (y7 : Int) => ([some (.lit 0 27 [.c (.int .i64 a0_0), .c (.int .i64 a0_1), .c (.int .i64 a0_2), .c (.int .i64 a0_3), .c (slC e28 a0_4), .c (slC e72 a0_5), .c (slC e65 a0_6), .c (slC e77 a0_7)]), some (.lit 0 65 [.c (slC e62 a1_0), .c (slC e62 a1_1)])], [(2, .cell (.op 0 0 8 0 0)), (3, .cell (.op 1 0 2 0 0)), (5, .cell (.c (.int .i64 ((a1_0.getD (0 : Int).toNat e62.d).length : Int)))), (6, .cell (.c (.int .i64 y7)))])) (step := _) (x0 := (0 : Int)) (b := b8) (L.ok _ _ _ gb8) (by kernel_rfl) (stps_ok [.keep [2, 3, 5, 6], .take 2] (by kernel_rfl)) ?_
              clear gb8 h; intro y7 o h; unfold s52_0 at h
              refine W_seq_at (by kernel_rfl) ?_
              refine W_seq_at (by kernel_rfl) ?_
              refine W_region_at (by kernel_rfl) ?_
              refine WO_fin (σ' := [some (.lit 0 27 [.c (.int .i64 a0_0), .c (.int .i64 a0_1), .c (.int .i64 a0_2), .c (.int .i64 a0_3), .c (slC e28 a0_4), .c (slC e72 a0_5), .c (slC e65 a0_6), .c (slC e77 a0_7)]), some (.lit 0 65 [.c (slC e62 a1_0), .c (slC e62 a1_1)])]) (T' := [(2, .cell (.op 0 0 8 0 0)), (3, .cell (.op 1 0 2 0 0)), (5, .cell (.c (.int .i64 ((a1_0.getD (0 : Int).toNat e62.d).length : Int)))), (6, .cell (.c (.int .i64 y7))), (41, .cell (.c (.bool (decide (y7 < (a1_0.length : Int))))))]) (Φ := (True)) 5 [2, 3, 5, 6, 41] (by kernel_rfl) trivial (by kernel_rfl) ?_
              refine thenQ_n ?_
              refine W_cond_at (b := (decide (y7 < (a1_0.length : Int)))) (by kernel_rfl) (fun hb => ?_) (fun hb => ?_)
              · have h := cond_t hb h
                refine W_skip_at (by kernel_rfl) ?_
                refine thenQ_n ?_
                refine W_seq_at (by kernel_rfl) ?_
                refine W_block_at 1 (by kernel_rfl) (by kernel_rfl) ?_
                refine W_seq_at (by kernel_rfl) ?_
                refine W_drawK 20 (by kernel_rfl) mixed (by kernel_rfl) ?_
                obtain ⟨c9, h⟩ := ck_bind h
                refine WQ_exk (n' := 13) (T' := [(2, .cell (.op 0 0 8 0 0)), (3, .cell (.op 1 0 2 0 0)), (5, .cell (.c (.int .i64 ((a1_0.getD (0 : Int).toNat e62.d).length : Int)))), (6, .cell (.c (.int .i64 y7))), (44, .agg [.c (.int .i64 a0_0), .c (.int .i64 a0_1), .c (.int .i64 a0_2), .c (.int .i64 a0_3), .c (slC e28 a0_4), .c (slC e72 a0_5), .c (slC e65 a0_6), .c (slC e77 a0_7)]), (49, .cell (.c (slC e61 (a1_0.getD y7.toNat e62.d)))), (50, .cell (.c (.int .i64 ((a1_0.getD (0 : Int).toNat e62.d).length : Int))))]) (Φ := (0 ≤ y7 ∧ y7 < (a1_0.length : Int)) ∧ (True)) 7 [2, 3, 5, 6, 44, 49, 50] (by kernel_rfl) ⟨c9, trivial⟩ ?_
                obtain ⟨r10, gr10, h⟩ := bind_some h
                refine WQ_call (f := 102) (all := [.agg [.c (.int .i64 a0_0), .c (.int .i64 a0_1), .c (.int .i64 a0_2), .c (.int .i64 a0_3), .c (slC e28 a0_4), .c (slC e72 a0_5), .c (slC e65 a0_6), .c (slC e77 a0_7)], .cell (.c (slC e61 (a1_0.getD y7.toNat e62.d))), .cell (.c (.int .i64 ((a1_0.getD (0 : Int).toNat e62.d).length : Int))), .cell (.c (.bool false))]) (d := some 51) (r := .cell (.c (.bool r10))) (by kernel_rfl) (by kernel_rfl) (by kernel_rfl) Tryd.call102 (p102 L _ _ _ _ _ _ _ _ _ _ _ _ gr10) ?_
                refine WQ_exk (n' := 10) (T' := [(2, .cell (.op 0 0 8 0 0)), (3, .cell (.op 1 0 2 0 0)), (5, .cell (.c (.int .i64 ((a1_0.getD (0 : Int).toNat e62.d).length : Int)))), (6, .cell (.c (.int .i64 y7))), (53, .cell (.c (.bool (!r10))))]) (Φ := (True)) 2 [2, 3, 5, 6, 53] (by kernel_rfl) trivial ?_
                obtain ⟨y11, gy11, h⟩ := bind_some h
                refine WQ_join 0 20 [(2, .cell (.op 0 0 8 0 0)), (3, .cell (.op 1 0 2 0 0)), (5, .cell (.c (.int .i64 ((a1_0.getD (0 : Int).toNat e62.d).length : Int)))), (6, .cell (.c (.int .i64 y7))), (63, .cell (.c (.bool y11)))] ?_ ?_
                · clear gy11
                  refine WQ_done ?_
                  refine WO_fin (σ' := [some (.lit 0 27 [.c (.int .i64 a0_0), .c (.int .i64 a0_1), .c (.int .i64 a0_2), .c (.int .i64 a0_3), .c (slC e28 a0_4), .c (slC e72 a0_5), .c (slC e65 a0_6), .c (slC e77 a0_7)]), some (.lit 0 65 [.c (slC e62 a1_0), .c (slC e62 a1_1)])]) (T' := [(2, .cell (.op 0 0 8 0 0)), (3, .cell (.op 1 0 2 0 0)), (5, .cell (.c (.int .i64 ((a1_0.getD (0 : Int).toNat e62.d).length : Int)))), (6, .cell (.c (.int .i64 y7))), (63, .cell (.c (.bool y11)))]) (Φ := True) 0 [2, 3, 5, 6, 63] (by kernel_rfl) trivial (by kernel_rfl) ?_
                  refine thenQ_n ?_
                  refine W_cond_at (b := y11) (by kernel_rfl) (fun hb => ?_) (fun hb => ?_)
                  · have h := cond_t hb h
                    refine W_seq_at (by kernel_rfl) ?_
                    refine W_region_at (by kernel_rfl) ?_
                    refine WO_fin (σ' := [some (.lit 0 27 [.c (.int .i64 a0_0), .c (.int .i64 a0_1), .c (.int .i64 a0_2), .c (.int .i64 a0_3), .c (slC e28 a0_4), .c (slC e72 a0_5), .c (slC e65 a0_6), .c (slC e77 a0_7)]), some (.lit 0 65 [.c (slC e62 a1_0), .c (slC e62 a1_1)])]) (T' := [(4, .cell (.c (.bool false)))]) (Φ := (True)) 1 [4] (by kernel_rfl) trivial (by kernel_rfl) ?_
                    refine thenQ_n ?_
                    refine W_ret_at (by kernel_rfl) ?_
                    refine blockQ_r ?_
                    refine thenQ_r ?_
                    obtain rfl := Option.some.inj h; refine round_r rfl (fun hb => ?_); subst hb; have h := kb8; dsimp only at h
                    refine blockQ_r ?_
                    obtain rfl := Option.some.inj h; have h := ky5; dsimp only at h; refine thenQ_r ?_
                    obtain rfl := Option.some.inj h
                    exact qret [.cell (.c (.bool false))] (by kernel_rfl) (by kernel_rfl) ([]) (by kernel_rfl)
                  · have h := cond_f hb h
                    refine W_skip_at (by kernel_rfl) ?_
                    refine blockQ_n ?_
                    refine thenQ_n ?_
                    refine W_region_at (by kernel_rfl) ?_
                    obtain ⟨c12, h⟩ := ck_bind h
                    refine WO_fin (σ' := [some (.lit 0 27 [.c (.int .i64 a0_0), .c (.int .i64 a0_1), .c (.int .i64 a0_2), .c (.int .i64 a0_3), .c (slC e28 a0_4), .c (slC e72 a0_5), .c (slC e65 a0_6), .c (slC e77 a0_7)]), some (.lit 0 65 [.c (slC e62 a1_0), .c (slC e62 a1_1)])]) (T' := [(2, .cell (.op 0 0 8 0 0)), (3, .cell (.op 1 0 2 0 0)), (5, .cell (.c (.int .i64 ((a1_0.getD (0 : Int).toNat e62.d).length : Int)))), (6, .cell (.c (.int .i64 (y7 + (1 : Int)))))]) (Φ := (inR .i64 (y7 + (1 : Int))) ∧ (True)) 3 [2, 3, 5, 6] (by kernel_rfl) ⟨c12, trivial⟩ (by kernel_rfl) ?_
                    obtain rfl := Option.some.inj h
                    exact round_n _ rfl (stps_ok [.keep [2, 3, 5, 6], .take 2] (by kernel_rfl))
                · intro J
                  clear h
                  rcases Bool.eq_false_or_eq_true (!r10) with hb | hb
                  · have h := cond_t hb gy11; clear gy11
                    refine WQ_bool (T' := [(53, .cell (.c (.bool true))), (2, .cell (.op 0 0 8 0 0)), (3, .cell (.op 1 0 2 0 0)), (5, .cell (.c (.int .i64 ((a1_0.getD (0 : Int).toNat e62.d).length : Int)))), (6, .cell (.c (.int .i64 y7)))]) 53 hb (by kernel_rfl) (by kernel_rfl) ?_
                    obtain rfl := Option.some.inj h
                    refine WQ_exk (n' := 0) (T' := [(2, .cell (.op 0 0 8 0 0)), (3, .cell (.op 1 0 2 0 0)), (5, .cell (.c (.int .i64 ((a1_0.getD (0 : Int).toNat e62.d).length : Int)))), (6, .cell (.c (.int .i64 y7))), (63, .cell (.c (.bool true)))]) (Φ := True) 10 [2, 3, 5, 6, 63] (by kernel_rfl) trivial J
                  · have h := cond_f hb gy11; clear gy11
                    refine WQ_bool (T' := [(53, .cell (.c (.bool false))), (2, .cell (.op 0 0 8 0 0)), (3, .cell (.op 1 0 2 0 0)), (5, .cell (.c (.int .i64 ((a1_0.getD (0 : Int).toNat e62.d).length : Int)))), (6, .cell (.c (.int .i64 y7)))]) 53 hb (by kernel_rfl) (by kernel_rfl) ?_
                    obtain ⟨c13, h⟩ := ck_bind h
                    refine WQ_exk (n' := 3) (T' := [(2, .cell (.op 0 0 8 0 0)), (3, .cell (.op 1 0 2 0 0)), (5, .cell (.c (.int .i64 ((a1_0.getD (0 : Int).toNat e62.d).length : Int)))), (6, .cell (.c (.int .i64 y7))), (53, .cell (.c (.bool false))), (54, .agg [.c (.int .i64 a0_0), .c (.int .i64 a0_1), .c (.int .i64 a0_2), .c (.int .i64 a0_3), .c (slC e28 a0_4), .c (slC e72 a0_5), .c (slC e65 a0_6), .c (slC e77 a0_7)]), (55, .cell (.op 1 0 2 0 1)), (56, .cell (.c (slC e62 a1_1))), (57, .cell (.c (.int .i64 y7))), (58, .cell (.c (ptC e62 a1_1 y7 0))), (59, .cell (.c (slC e61 (a1_1.getD y7.toNat e62.d)))), (60, .cell (.c (.int .i64 ((a1_0.getD (0 : Int).toNat e62.d).length : Int))))]) (Φ := (0 ≤ y7 ∧ y7 < (a1_1.length : Int)) ∧ (True)) 7 [2, 3, 5, 6, 53, 54, 55, 56, 57, 58, 59, 60] (by kernel_rfl) ⟨c13, trivial⟩ ?_
                    obtain ⟨r14, gr14, h⟩ := bind_some h
                    refine WQ_call (f := 102) (all := [.agg [.c (.int .i64 a0_0), .c (.int .i64 a0_1), .c (.int .i64 a0_2), .c (.int .i64 a0_3), .c (slC e28 a0_4), .c (slC e72 a0_5), .c (slC e65 a0_6), .c (slC e77 a0_7)], .cell (.c (slC e61 (a1_1.getD y7.toNat e62.d))), .cell (.c (.int .i64 ((a1_0.getD (0 : Int).toNat e62.d).length : Int))), .cell (.c (.bool false))]) (d := some 61) (r := .cell (.c (.bool r14))) (by kernel_rfl) (by kernel_rfl) (by kernel_rfl) Tryd.call102 (p102 L _ _ _ _ _ _ _ _ _ _ _ _ gr14) ?_
                    refine WQ_exk (n' := 1) (T' := [(2, .cell (.op 0 0 8 0 0)), (3, .cell (.op 1 0 2 0 0)), (5, .cell (.c (.int .i64 ((a1_0.getD (0 : Int).toNat e62.d).length : Int)))), (6, .cell (.c (.int .i64 y7))), (53, .cell (.c (.bool false))), (54, .agg [.c (.int .i64 a0_0), .c (.int .i64 a0_1), .c (.int .i64 a0_2), .c (.int .i64 a0_3), .c (slC e28 a0_4), .c (slC e72 a0_5), .c (slC e65 a0_6), .c (slC e77 a0_7)]), (55, .cell (.op 1 0 2 0 1)), (56, .cell (.c (slC e62 a1_1))), (57, .cell (.c (.int .i64 y7))), (58, .cell (.c (ptC e62 a1_1 y7 0))), (59, .cell (.c (slC e61 (a1_1.getD y7.toNat e62.d)))), (60, .cell (.c (.int .i64 ((a1_0.getD (0 : Int).toNat e62.d).length : Int)))), (61, .cell (.c (.bool r14))), (62, .cell (.c (.bool (!r14))))]) (Φ := (True)) 1 [2, 3, 5, 6, 53, 54, 55, 56, 57, 58, 59, 60, 61, 62] (by kernel_rfl) trivial ?_
                    obtain rfl := Option.some.inj h
                    refine WQ_exk (n' := 0) (T' := [(2, .cell (.op 0 0 8 0 0)), (3, .cell (.op 1 0 2 0 0)), (5, .cell (.c (.int .i64 ((a1_0.getD (0 : Int).toNat e62.d).length : Int)))), (6, .cell (.c (.int .i64 y7))), (63, .cell (.c (.bool (!r14))))]) (Φ := True) 1 [2, 3, 5, 6, 63] (by kernel_rfl) trivial J
              · have h := cond_f hb h
                refine W_exit_at 0 (by kernel_rfl) (by kernel_rfl) ?_
                refine thenQ_e ?_
                obtain rfl := Option.some.inj h; refine round_e rfl (fun hb => ?_); subst hb; have h := kb8; dsimp only at h
                refine blockQ_hit ?_
                obtain rfl := Option.some.inj h
                exact thenQ_n ⟨_, rfl, stps_ok [.keep [], .take 2] (by kernel_rfl)⟩
        · intro J
          clear h
          rcases Bool.eq_false_or_eq_true (decide (((a1_0.getD (0 : Int).toNat e62.d).length : Int) < (1 : Int))) with hb | hb
          · have h := cond_t hb gy4; clear gy4
            refine WO_ent (ent_bool (T' := [(33, .cell (.c (.bool true))), (2, .cell (.op 0 0 8 0 0)), (3, .cell (.op 1 0 2 0 0)), (5, .cell (.c (.int .i64 ((a1_0.getD (0 : Int).toNat e62.d).length : Int))))]) 33 hb (by kernel_rfl) (by kernel_rfl)) ?_
            obtain rfl := Option.some.inj h
            refine WO_exk (σ' := [some (.lit 0 27 [.c (.int .i64 a0_0), .c (.int .i64 a0_1), .c (.int .i64 a0_2), .c (.int .i64 a0_3), .c (slC e28 a0_4), .c (slC e72 a0_5), .c (slC e65 a0_6), .c (slC e77 a0_7)]), some (.lit 0 65 [.c (slC e62 a1_0), .c (slC e62 a1_1)])]) (T' := [(2, .cell (.op 0 0 8 0 0)), (3, .cell (.op 1 0 2 0 0)), (5, .cell (.c (.int .i64 ((a1_0.getD (0 : Int).toNat e62.d).length : Int)))), (36, .cell (.c (.bool true)))]) (Φ := True) 3 [2, 3, 5, 36] (by kernel_rfl) trivial J
          · have h := cond_f hb gy4; clear gy4
            refine WO_ent (ent_bool (T' := [(33, .cell (.c (.bool false))), (2, .cell (.op 0 0 8 0 0)), (3, .cell (.op 1 0 2 0 0)), (5, .cell (.c (.int .i64 ((a1_0.getD (0 : Int).toNat e62.d).length : Int))))]) 33 hb (by kernel_rfl) (by kernel_rfl)) ?_
            refine WO_exk (σ' := [some (.lit 0 27 [.c (.int .i64 a0_0), .c (.int .i64 a0_1), .c (.int .i64 a0_2), .c (.int .i64 a0_3), .c (slC e28 a0_4), .c (slC e72 a0_5), .c (slC e65 a0_6), .c (slC e77 a0_7)]), some (.lit 0 65 [.c (slC e62 a1_0), .c (slC e62 a1_1)])]) (T' := [(2, .cell (.op 0 0 8 0 0)), (3, .cell (.op 1 0 2 0 0)), (5, .cell (.c (.int .i64 ((a1_0.getD (0 : Int).toNat e62.d).length : Int)))), (33, .cell (.c (.bool false))), (35, .cell (.c (.bool (decide (((a1_0.getD (0 : Int).toNat e62.d).length : Int) > (4 : Int))))))]) (Φ := (True)) 2 [2, 3, 5, 33, 35] (by kernel_rfl) trivial ?_
            obtain rfl := Option.some.inj h
            refine WO_exk (σ' := [some (.lit 0 27 [.c (.int .i64 a0_0), .c (.int .i64 a0_1), .c (.int .i64 a0_2), .c (.int .i64 a0_3), .c (slC e28 a0_4), .c (slC e72 a0_5), .c (slC e65 a0_6), .c (slC e77 a0_7)]), some (.lit 0 65 [.c (slC e62 a1_0), .c (slC e62 a1_1)])]) (T' := [(2, .cell (.op 0 0 8 0 0)), (3, .cell (.op 1 0 2 0 0)), (5, .cell (.c (.int .i64 ((a1_0.getD (0 : Int).toNat e62.d).length : Int)))), (36, .cell (.c (.bool (decide (((a1_0.getD (0 : Int).toNat e62.d).length : Int) > (4 : Int))))))]) (Φ := True) 1 [2, 3, 5, 36] (by kernel_rfl) trivial J
    · intro J
      clear h
      rcases Bool.eq_false_or_eq_true y1 with hb | hb
      · have h := cond_t hb gy2; clear gy2
        refine WO_ent (ent_bool (T' := [(17, .cell (.c (.bool true))), (2, .cell (.op 0 0 8 0 0)), (3, .cell (.op 1 0 2 0 0))]) 17 hb (by kernel_rfl) (by kernel_rfl)) ?_
        obtain rfl := Option.some.inj h
        refine WO_exk (σ' := [some (.lit 0 27 [.c (.int .i64 a0_0), .c (.int .i64 a0_1), .c (.int .i64 a0_2), .c (.int .i64 a0_3), .c (slC e28 a0_4), .c (slC e72 a0_5), .c (slC e65 a0_6), .c (slC e77 a0_7)]), some (.lit 0 65 [.c (slC e62 a1_0), .c (slC e62 a1_1)])]) (T' := [(2, .cell (.op 0 0 8 0 0)), (3, .cell (.op 1 0 2 0 0)), (25, .cell (.c (.bool true)))]) (Φ := True) 8 [2, 3, 25] (by kernel_rfl) trivial J
      · have h := cond_f hb gy2; clear gy2
        refine WO_ent (ent_bool (T' := [(17, .cell (.c (.bool false))), (2, .cell (.op 0 0 8 0 0)), (3, .cell (.op 1 0 2 0 0))]) 17 hb (by kernel_rfl) (by kernel_rfl)) ?_
        refine WO_exk (σ' := [some (.lit 0 27 [.c (.int .i64 a0_0), .c (.int .i64 a0_1), .c (.int .i64 a0_2), .c (.int .i64 a0_3), .c (slC e28 a0_4), .c (slC e72 a0_5), .c (slC e65 a0_6), .c (slC e77 a0_7)]), some (.lit 0 65 [.c (slC e62 a1_0), .c (slC e62 a1_1)])]) (T' := [(2, .cell (.op 0 0 8 0 0)), (3, .cell (.op 1 0 2 0 0)), (17, .cell (.c (.bool false))), (24, .cell (.c (.bool (!(decide ((a1_1.length : Int) = (a1_0.length : Int)))))))]) (Φ := (True)) 7 [2, 3, 17, 24] (by kernel_rfl) trivial ?_
        obtain rfl := Option.some.inj h
        refine WO_exk (σ' := [some (.lit 0 27 [.c (.int .i64 a0_0), .c (.int .i64 a0_1), .c (.int .i64 a0_2), .c (.int .i64 a0_3), .c (slC e28 a0_4), .c (slC e72 a0_5), .c (slC e65 a0_6), .c (slC e77 a0_7)]), some (.lit 0 65 [.c (slC e62 a1_0), .c (slC e62 a1_1)])]) (T' := [(2, .cell (.op 0 0 8 0 0)), (3, .cell (.op 1 0 2 0 0)), (25, .cell (.c (.bool (!(decide ((a1_1.length : Int) = (a1_0.length : Int)))))))]) (Φ := True) 1 [2, 3, 25] (by kernel_rfl) trivial J
  · intro J
    clear h
    rcases Bool.eq_false_or_eq_true (decide ((a1_0.length : Int) < (1 : Int))) with hb | hb
    · have h := cond_t hb gy1; clear gy1
      refine WO_ent (ent_bool (T' := [(11, .cell (.c (.bool true))), (2, .cell (.op 0 0 8 0 0)), (3, .cell (.op 1 0 2 0 0))]) 11 hb (by kernel_rfl) (by kernel_rfl)) ?_
      obtain rfl := Option.some.inj h
      refine WO_exk (σ' := [some (.lit 0 27 [.c (.int .i64 a0_0), .c (.int .i64 a0_1), .c (.int .i64 a0_2), .c (.int .i64 a0_3), .c (slC e28 a0_4), .c (slC e72 a0_5), .c (slC e65 a0_6), .c (slC e77 a0_7)]), some (.lit 0 65 [.c (slC e62 a1_0), .c (slC e62 a1_1)])]) (T' := [(2, .cell (.op 0 0 8 0 0)), (3, .cell (.op 1 0 2 0 0)), (16, .cell (.c (.bool true)))]) (Φ := True) 5 [2, 3, 16] (by kernel_rfl) trivial J
    · have h := cond_f hb gy1; clear gy1
      refine WO_ent (ent_bool (T' := [(11, .cell (.c (.bool false))), (2, .cell (.op 0 0 8 0 0)), (3, .cell (.op 1 0 2 0 0))]) 11 hb (by kernel_rfl) (by kernel_rfl)) ?_
      refine WO_exk (σ' := [some (.lit 0 27 [.c (.int .i64 a0_0), .c (.int .i64 a0_1), .c (.int .i64 a0_2), .c (.int .i64 a0_3), .c (slC e28 a0_4), .c (slC e72 a0_5), .c (slC e65 a0_6), .c (slC e77 a0_7)]), some (.lit 0 65 [.c (slC e62 a1_0), .c (slC e62 a1_1)])]) (T' := [(2, .cell (.op 0 0 8 0 0)), (3, .cell (.op 1 0 2 0 0)), (11, .cell (.c (.bool false))), (15, .cell (.c (.bool (decide ((a1_0.length : Int) > (4 : Int))))))]) (Φ := (True)) 4 [2, 3, 11, 15] (by kernel_rfl) trivial ?_
      obtain rfl := Option.some.inj h
      refine WO_exk (σ' := [some (.lit 0 27 [.c (.int .i64 a0_0), .c (.int .i64 a0_1), .c (.int .i64 a0_2), .c (.int .i64 a0_3), .c (slC e28 a0_4), .c (slC e72 a0_5), .c (slC e65 a0_6), .c (slC e77 a0_7)]), some (.lit 0 65 [.c (slC e62 a1_0), .c (slC e62 a1_1)])]) (T' := [(2, .cell (.op 0 0 8 0 0)), (3, .cell (.op 1 0 2 0 0)), (16, .cell (.c (.bool (decide ((a1_0.length : Int) > (4 : Int))))))]) (Φ := True) 1 [2, 3, 16] (by kernel_rfl) trivial J

/- attestorref13.lookup -/
def s53 (L : LP) (a0_0 : Int) (a0_1 : Int) (a0_2 : Int) (a0_3 : Int) (a0_4 : (List (List Int))) (a0_5 : (List (Int × (List (Int × (List (Int × Int))))))) (a0_6 : (List ((List (List (Int × Int))) × (List (List (Int × Int)))))) (a0_7 : (List ((List (Int × Int)) × (List (Int × Int)) × Int × Int))) (a1_0 : (List (Int × Int))) (a1_1 : (List (Int × Int))) (a1_2 : Int) (a1_3 : Int) : Option Bool :=
  (bif (decide ((a1_0.length : Int) < (1 : Int))) then some true
  else some (decide ((a1_0.length : Int) > (4 : Int)))).bind fun y1 =>
  (bif y1 then some true
  else some (!(decide (a1_2 = (1 : Int))))).bind fun y2 =>
  (bif y2 then some true
  else (s101 L a0_0 a0_1 a0_2 a0_3 a0_4 a0_5 a0_6 a0_7 a1_2 a1_3).bind fun r7 =>
  some (!r7)).bind fun y3 =>
  (bif y3 then
  some false
  else (s102 L a0_0 a0_1 a0_2 a0_3 a0_4 a0_5 a0_6 a0_7 a1_0 (a1_0.length : Int) false).bind fun r4 =>
  (bif r4 then (s102 L a0_0 a0_1 a0_2 a0_3 a0_4 a0_5 a0_6 a0_7 a1_1 (a1_0.length : Int) true).bind fun r6 =>
  some r6
  else some false).bind fun y5 =>
  some y5)
theorem p53 (L : LP) (a0_0 : Int) (a0_1 : Int) (a0_2 : Int) (a0_3 : Int) (a0_4 : (List (List Int))) (a0_5 : (List (Int × (List (Int × (List (Int × Int))))))) (a0_6 : (List ((List (List (Int × Int))) × (List (List (Int × Int)))))) (a0_7 : (List ((List (Int × Int)) × (List (Int × Int)) × Int × Int))) (a1_0 : (List (Int × Int))) (a1_1 : (List (Int × Int))) (a1_2 : Int) (a1_3 : Int) (r : Bool) (h : s53 L a0_0 a0_1 a0_2 a0_3 a0_4 a0_5 a0_6 a0_7 a1_0 a1_1 a1_2 a1_3 = some r) : Pure X 53 [.agg [.c (.int .i64 a0_0), .c (.int .i64 a0_1), .c (.int .i64 a0_2), .c (.int .i64 a0_3), .c (slC e28 a0_4), .c (slC e72 a0_5), .c (slC e65 a0_6), .c (slC e77 a0_7)], .agg [.c (slC e61 a1_0), .c (slC e61 a1_1), .c (.int .u8 a1_2), .c (.int .i64 a1_3)]] (.cell (.c (.bool r))) := by
  refine Pure_of_W (c := cd Tryd.f53 []) Tryd.func53 (by kernel_rfl) (N := 40) (by kernel_rfl) (Nat.le_of_ble_eq_true (by kernel_rfl)) ?_
  unfold s53 at h
  refine W_seq_at (by kernel_rfl) ?_
  refine W_region_at (by kernel_rfl) ?_
  refine WO_fin (σ' := [some (.lit 0 27 [.c (.int .i64 a0_0), .c (.int .i64 a0_1), .c (.int .i64 a0_2), .c (.int .i64 a0_3), .c (slC e28 a0_4), .c (slC e72 a0_5), .c (slC e65 a0_6), .c (slC e77 a0_7)]), some (.lit 0 77 [.c (slC e61 a1_0), .c (slC e61 a1_1), .c (.int .u8 a1_2), .c (.int .i64 a1_3)])]) (T' := [(2, .cell (.op 0 0 8 0 0)), (3, .cell (.op 1 0 4 0 0))]) (Φ := (True)) 3 [2, 3] (by kernel_rfl) trivial (by kernel_rfl) ?_
  refine thenQ_n ?_
  refine W_seq_at (by kernel_rfl) ?_
  refine W_region_at (by kernel_rfl) ?_
  refine WO_fin (σ' := [some (.lit 0 27 [.c (.int .i64 a0_0), .c (.int .i64 a0_1), .c (.int .i64 a0_2), .c (.int .i64 a0_3), .c (slC e28 a0_4), .c (slC e72 a0_5), .c (slC e65 a0_6), .c (slC e77 a0_7)]), some (.lit 0 77 [.c (slC e61 a1_0), .c (slC e61 a1_1), .c (.int .u8 a1_2), .c (.int .i64 a1_3)])]) (T' := [(2, .cell (.op 0 0 8 0 0)), (3, .cell (.op 1 0 4 0 0)), (5, .cell (.c (.int .i64 (a1_0.length : Int))))]) (Φ := (True)) 4 [2, 3, 5] (by kernel_rfl) trivial (by kernel_rfl) ?_
  refine thenQ_n ?_
  refine W_seq_at (by kernel_rfl) ?_
  refine W_seq_at (by kernel_rfl) ?_
  refine W_region_at (by kernel_rfl) ?_
  refine WO_exk (σ' := [some (.lit 0 27 [.c (.int .i64 a0_0), .c (.int .i64 a0_1), .c (.int .i64 a0_2), .c (.int .i64 a0_3), .c (slC e28 a0_4), .c (slC e72 a0_5), .c (slC e65 a0_6), .c (slC e77 a0_7)]), some (.lit 0 77 [.c (slC e61 a1_0), .c (slC e61 a1_1), .c (.int .u8 a1_2), .c (.int .i64 a1_3)])]) (T' := [(2, .cell (.op 0 0 8 0 0)), (3, .cell (.op 1 0 4 0 0)), (5, .cell (.c (.int .i64 (a1_0.length : Int)))), (11, .cell (.c (.bool (decide ((a1_0.length : Int) < (1 : Int))))))]) (Φ := (True)) 3 [2, 3, 5, 11] (by kernel_rfl) trivial ?_
  obtain ⟨y1, gy1, h⟩ := bind_some h
  refine WO_join 6 [some (.lit 0 27 [.c (.int .i64 a0_0), .c (.int .i64 a0_1), .c (.int .i64 a0_2), .c (.int .i64 a0_3), .c (slC e28 a0_4), .c (slC e72 a0_5), .c (slC e65 a0_6), .c (slC e77 a0_7)]), some (.lit 0 77 [.c (slC e61 a1_0), .c (slC e61 a1_1), .c (.int .u8 a1_2), .c (.int .i64 a1_3)])] [(2, .cell (.op 0 0 8 0 0)), (3, .cell (.op 1 0 4 0 0)), (5, .cell (.c (.int .i64 (a1_0.length : Int)))), (14, .cell (.c (.bool y1)))] ?_ ?_
  · clear gy1
    refine WO_exk (σ' := [some (.lit 0 27 [.c (.int .i64 a0_0), .c (.int .i64 a0_1), .c (.int .i64 a0_2), .c (.int .i64 a0_3), .c (slC e28 a0_4), .c (slC e72 a0_5), .c (slC e65 a0_6), .c (slC e77 a0_7)]), some (.lit 0 77 [.c (slC e61 a1_0), .c (slC e61 a1_1), .c (.int .u8 a1_2), .c (.int .i64 a1_3)])]) (T' := [(2, .cell (.op 0 0 8 0 0)), (3, .cell (.op 1 0 4 0 0)), (5, .cell (.c (.int .i64 (a1_0.length : Int)))), (15, .cell (.c (.bool y1)))]) (Φ := (True)) 1 [2, 3, 5, 15] (by kernel_rfl) trivial ?_
    obtain ⟨y2, gy2, h⟩ := bind_some h
    refine WO_join 12 [some (.lit 0 27 [.c (.int .i64 a0_0), .c (.int .i64 a0_1), .c (.int .i64 a0_2), .c (.int .i64 a0_3), .c (slC e28 a0_4), .c (slC e72 a0_5), .c (slC e65 a0_6), .c (slC e77 a0_7)]), some (.lit 0 77 [.c (slC e61 a1_0), .c (slC e61 a1_1), .c (.int .u8 a1_2), .c (.int .i64 a1_3)])] [(2, .cell (.op 0 0 8 0 0)), (3, .cell (.op 1 0 4 0 0)), (5, .cell (.c (.int .i64 (a1_0.length : Int)))), (20, .cell (.c (.bool y2)))] ?_ ?_
    · clear gy2
      refine WO_exk (σ' := [some (.lit 0 27 [.c (.int .i64 a0_0), .c (.int .i64 a0_1), .c (.int .i64 a0_2), .c (.int .i64 a0_3), .c (slC e28 a0_4), .c (slC e72 a0_5), .c (slC e65 a0_6), .c (slC e77 a0_7)]), some (.lit 0 77 [.c (slC e61 a1_0), .c (slC e61 a1_1), .c (.int .u8 a1_2), .c (.int .i64 a1_3)])]) (T' := [(2, .cell (.op 0 0 8 0 0)), (3, .cell (.op 1 0 4 0 0)), (5, .cell (.c (.int .i64 (a1_0.length : Int)))), (21, .cell (.c (.bool y2)))]) (Φ := (True)) 1 [2, 3, 5, 21] (by kernel_rfl) trivial ?_
      obtain ⟨y3, gy3, h⟩ := bind_some h
      refine WO_join 19 [some (.lit 0 27 [.c (.int .i64 a0_0), .c (.int .i64 a0_1), .c (.int .i64 a0_2), .c (.int .i64 a0_3), .c (slC e28 a0_4), .c (slC e72 a0_5), .c (slC e65 a0_6), .c (slC e77 a0_7)]), some (.lit 0 77 [.c (slC e61 a1_0), .c (slC e61 a1_1), .c (.int .u8 a1_2), .c (.int .i64 a1_3)])] [(2, .cell (.op 0 0 8 0 0)), (3, .cell (.op 1 0 4 0 0)), (5, .cell (.c (.int .i64 (a1_0.length : Int)))), (27, .cell (.c (.bool y3)))] ?_ ?_
      · clear gy3
        refine WO_fin (σ' := [some (.lit 0 27 [.c (.int .i64 a0_0), .c (.int .i64 a0_1), .c (.int .i64 a0_2), .c (.int .i64 a0_3), .c (slC e28 a0_4), .c (slC e72 a0_5), .c (slC e65 a0_6), .c (slC e77 a0_7)]), some (.lit 0 77 [.c (slC e61 a1_0), .c (slC e61 a1_1), .c (.int .u8 a1_2), .c (.int .i64 a1_3)])]) (T' := [(2, .cell (.op 0 0 8 0 0)), (3, .cell (.op 1 0 4 0 0)), (5, .cell (.c (.int .i64 (a1_0.length : Int)))), (27, .cell (.c (.bool y3)))]) (Φ := True) 0 [2, 3, 5, 27] (by kernel_rfl) trivial (by kernel_rfl) ?_
        refine thenQ_n ?_
        refine W_cond_at (b := y3) (by kernel_rfl) (fun hb => ?_) (fun hb => ?_)
        · have h := cond_t hb h
          refine W_seq_at (by kernel_rfl) ?_
          refine W_region_at (by kernel_rfl) ?_
          refine WO_fin (σ' := [some (.lit 0 27 [.c (.int .i64 a0_0), .c (.int .i64 a0_1), .c (.int .i64 a0_2), .c (.int .i64 a0_3), .c (slC e28 a0_4), .c (slC e72 a0_5), .c (slC e65 a0_6), .c (slC e77 a0_7)]), some (.lit 0 77 [.c (slC e61 a1_0), .c (slC e61 a1_1), .c (.int .u8 a1_2), .c (.int .i64 a1_3)])]) (T' := [(4, .cell (.c (.bool false)))]) (Φ := (True)) 1 [4] (by kernel_rfl) trivial (by kernel_rfl) ?_
          refine thenQ_n ?_
          refine W_ret_at (by kernel_rfl) ?_
          refine thenQ_r ?_
          obtain rfl := Option.some.inj h
          exact qret [.cell (.c (.bool false))] (by kernel_rfl) (by kernel_rfl) ([]) (by kernel_rfl)
        · have h := cond_f hb h
          refine W_skip_at (by kernel_rfl) ?_
          refine thenQ_n ?_
          refine W_seq_at (by kernel_rfl) ?_
          refine W_region_at (by kernel_rfl) ?_
          refine WO_exk (σ' := [some (.lit 0 27 [.c (.int .i64 a0_0), .c (.int .i64 a0_1), .c (.int .i64 a0_2), .c (.int .i64 a0_3), .c (slC e28 a0_4), .c (slC e72 a0_5), .c (slC e65 a0_6), .c (slC e77 a0_7)]), some (.lit 0 77 [.c (slC e61 a1_0), .c (slC e61 a1_1), .c (.int .u8 a1_2), .c (.int .i64 a1_3)])]) (T' := [(2, .cell (.op 0 0 8 0 0)), (3, .cell (.op 1 0 4 0 0)), (5, .cell (.c (.int .i64 (a1_0.length : Int)))), (28, .agg [.c (.int .i64 a0_0), .c (.int .i64 a0_1), .c (.int .i64 a0_2), .c (.int .i64 a0_3), .c (slC e28 a0_4), .c (slC e72 a0_5), .c (slC e65 a0_6), .c (slC e77 a0_7)]), (30, .cell (.c (slC e61 a1_0))), (31, .cell (.c (.int .i64 (a1_0.length : Int))))]) (Φ := (True)) 4 [2, 3, 5, 28, 30, 31] (by kernel_rfl) trivial ?_
          obtain ⟨r4, gr4, h⟩ := bind_some h
          refine WO_call (f := 102) (all := [.agg [.c (.int .i64 a0_0), .c (.int .i64 a0_1), .c (.int .i64 a0_2), .c (.int .i64 a0_3), .c (slC e28 a0_4), .c (slC e72 a0_5), .c (slC e65 a0_6), .c (slC e77 a0_7)], .cell (.c (slC e61 a1_0)), .cell (.c (.int .i64 (a1_0.length : Int))), .cell (.c (.bool false))]) (d := some 32) (r := .cell (.c (.bool r4))) (by kernel_rfl) (by kernel_rfl) (by kernel_rfl) Tryd.call102 (p102 L _ _ _ _ _ _ _ _ _ _ _ _ gr4) ?_
          refine WO_exk (σ' := [some (.lit 0 27 [.c (.int .i64 a0_0), .c (.int .i64 a0_1), .c (.int .i64 a0_2), .c (.int .i64 a0_3), .c (slC e28 a0_4), .c (slC e72 a0_5), .c (slC e65 a0_6), .c (slC e77 a0_7)]), some (.lit 0 77 [.c (slC e61 a1_0), .c (slC e61 a1_1), .c (.int .u8 a1_2), .c (.int .i64 a1_3)])]) (T' := [(2, .cell (.op 0 0 8 0 0)), (3, .cell (.op 1 0 4 0 0)), (5, .cell (.c (.int .i64 (a1_0.length : Int)))), (33, .cell (.c (.bool r4)))]) (Φ := (True)) 1 [2, 3, 5, 33] (by kernel_rfl) trivial ?_
          obtain ⟨y5, gy5, h⟩ := bind_some h
          refine WO_join 12 [some (.lit 0 27 [.c (.int .i64 a0_0), .c (.int .i64 a0_1), .c (.int .i64 a0_2), .c (.int .i64 a0_3), .c (slC e28 a0_4), .c (slC e72 a0_5), .c (slC e65 a0_6), .c (slC e77 a0_7)]), some (.lit 0 77 [.c (slC e61 a1_0), .c (slC e61 a1_1), .c (.int .u8 a1_2), .c (.int .i64 a1_3)])] [(39, .cell (.c (.bool y5)))] ?_ ?_
          · clear gy5
            refine WO_fin (σ' := [some (.lit 0 27 [.c (.int .i64 a0_0), .c (.int .i64 a0_1), .c (.int .i64 a0_2), .c (.int .i64 a0_3), .c (slC e28 a0_4), .c (slC e72 a0_5), .c (slC e65 a0_6), .c (slC e77 a0_7)]), some (.lit 0 77 [.c (slC e61 a1_0), .c (slC e61 a1_1), .c (.int .u8 a1_2), .c (.int .i64 a1_3)])]) (T' := [(4, .cell (.c (.bool y5)))]) (Φ := (True)) 1 [4] (by kernel_rfl) trivial (by kernel_rfl) ?_
            refine thenQ_n ?_
            refine W_ret_at (by kernel_rfl) ?_
            obtain rfl := Option.some.inj h
            exact qret [.cell (.c (.bool y5))] (by kernel_rfl) (by kernel_rfl) ([]) (by kernel_rfl)
          · intro J
            clear h
            rcases Bool.eq_false_or_eq_true r4 with hb | hb
            · have h := cond_t hb gy5; clear gy5
              refine WO_ent (ent_bool (T' := [(33, .cell (.c (.bool true))), (2, .cell (.op 0 0 8 0 0)), (3, .cell (.op 1 0 4 0 0)), (5, .cell (.c (.int .i64 (a1_0.length : Int))))]) 33 hb (by kernel_rfl) (by kernel_rfl)) ?_
              refine WO_exk (σ' := [some (.lit 0 27 [.c (.int .i64 a0_0), .c (.int .i64 a0_1), .c (.int .i64 a0_2), .c (.int .i64 a0_3), .c (slC e28 a0_4), .c (slC e72 a0_5), .c (slC e65 a0_6), .c (slC e77 a0_7)]), some (.lit 0 77 [.c (slC e61 a1_0), .c (slC e61 a1_1), .c (.int .u8 a1_2), .c (.int .i64 a1_3)])]) (T' := [(33, .cell (.c (.bool true))), (34, .agg [.c (.int .i64 a0_0), .c (.int .i64 a0_1), .c (.int .i64 a0_2), .c (.int .i64 a0_3), .c (slC e28 a0_4), .c (slC e72 a0_5), .c (slC e65 a0_6), .c (slC e77 a0_7)]), (36, .cell (.c (slC e61 a1_1))), (37, .cell (.c (.int .i64 (a1_0.length : Int))))]) (Φ := (True)) 4 [33, 34, 36, 37] (by kernel_rfl) trivial ?_
              obtain ⟨r6, gr6, h⟩ := bind_some h
              refine WO_call (f := 102) (all := [.agg [.c (.int .i64 a0_0), .c (.int .i64 a0_1), .c (.int .i64 a0_2), .c (.int .i64 a0_3), .c (slC e28 a0_4), .c (slC e72 a0_5), .c (slC e65 a0_6), .c (slC e77 a0_7)], .cell (.c (slC e61 a1_1)), .cell (.c (.int .i64 (a1_0.length : Int))), .cell (.c (.bool true))]) (d := some 38) (r := .cell (.c (.bool r6))) (by kernel_rfl) (by kernel_rfl) (by kernel_rfl) Tryd.call102 (p102 L _ _ _ _ _ _ _ _ _ _ _ _ gr6) ?_
              obtain rfl := Option.some.inj h
              refine WO_exk (σ' := [some (.lit 0 27 [.c (.int .i64 a0_0), .c (.int .i64 a0_1), .c (.int .i64 a0_2), .c (.int .i64 a0_3), .c (slC e28 a0_4), .c (slC e72 a0_5), .c (slC e65 a0_6), .c (slC e77 a0_7)]), some (.lit 0 77 [.c (slC e61 a1_0), .c (slC e61 a1_1), .c (.int .u8 a1_2), .c (.int .i64 a1_3)])]) (T' := [(39, .cell (.c (.bool r6)))]) (Φ := True) 1 [39] (by kernel_rfl) trivial J
            · have h := cond_f hb gy5; clear gy5
              refine WO_ent (ent_bool (T' := [(33, .cell (.c (.bool false))), (2, .cell (.op 0 0 8 0 0)), (3, .cell (.op 1 0 4 0 0)), (5, .cell (.c (.int .i64 (a1_0.length : Int))))]) 33 hb (by kernel_rfl) (by kernel_rfl)) ?_
              obtain rfl := Option.some.inj h
              refine WO_exk (σ' := [some (.lit 0 27 [.c (.int .i64 a0_0), .c (.int .i64 a0_1), .c (.int .i64 a0_2), .c (.int .i64 a0_3), .c (slC e28 a0_4), .c (slC e72 a0_5), .c (slC e65 a0_6), .c (slC e77 a0_7)]), some (.lit 0 77 [.c (slC e61 a1_0), .c (slC e61 a1_1), .c (.int .u8 a1_2), .c (.int .i64 a1_3)])]) (T' := [(39, .cell (.c (.bool false)))]) (Φ := True) 6 [39] (by kernel_rfl) trivial J
      · intro J
        clear h
        rcases Bool.eq_false_or_eq_true y2 with hb | hb
        · have h := cond_t hb gy3; clear gy3
          refine WO_ent (ent_bool (T' := [(21, .cell (.c (.bool true))), (2, .cell (.op 0 0 8 0 0)), (3, .cell (.op 1 0 4 0 0)), (5, .cell (.c (.int .i64 (a1_0.length : Int))))]) 21 hb (by kernel_rfl) (by kernel_rfl)) ?_
          obtain rfl := Option.some.inj h
          refine WO_exk (σ' := [some (.lit 0 27 [.c (.int .i64 a0_0), .c (.int .i64 a0_1), .c (.int .i64 a0_2), .c (.int .i64 a0_3), .c (slC e28 a0_4), .c (slC e72 a0_5), .c (slC e65 a0_6), .c (slC e77 a0_7)]), some (.lit 0 77 [.c (slC e61 a1_0), .c (slC e61 a1_1), .c (.int .u8 a1_2), .c (.int .i64 a1_3)])]) (T' := [(2, .cell (.op 0 0 8 0 0)), (3, .cell (.op 1 0 4 0 0)), (5, .cell (.c (.int .i64 (a1_0.length : Int)))), (27, .cell (.c (.bool true)))]) (Φ := True) 6 [2, 3, 5, 27] (by kernel_rfl) trivial J
        · have h := cond_f hb gy3; clear gy3
          refine WO_ent (ent_bool (T' := [(21, .cell (.c (.bool false))), (2, .cell (.op 0 0 8 0 0)), (3, .cell (.op 1 0 4 0 0)), (5, .cell (.c (.int .i64 (a1_0.length : Int))))]) 21 hb (by kernel_rfl) (by kernel_rfl)) ?_
          refine WO_exk (σ' := [some (.lit 0 27 [.c (.int .i64 a0_0), .c (.int .i64 a0_1), .c (.int .i64 a0_2), .c (.int .i64 a0_3), .c (slC e28 a0_4), .c (slC e72 a0_5), .c (slC e65 a0_6), .c (slC e77 a0_7)]), some (.lit 0 77 [.c (slC e61 a1_0), .c (slC e61 a1_1), .c (.int .u8 a1_2), .c (.int .i64 a1_3)])]) (T' := [(2, .cell (.op 0 0 8 0 0)), (3, .cell (.op 1 0 4 0 0)), (5, .cell (.c (.int .i64 (a1_0.length : Int)))), (21, .cell (.c (.bool false))), (22, .agg [.c (.int .i64 a0_0), .c (.int .i64 a0_1), .c (.int .i64 a0_2), .c (.int .i64 a0_3), .c (slC e28 a0_4), .c (slC e72 a0_5), .c (slC e65 a0_6), .c (slC e77 a0_7)]), (24, .agg [.c (.int .u8 a1_2), .c (.int .i64 a1_3)])]) (Φ := (True)) 3 [2, 3, 5, 21, 22, 24] (by kernel_rfl) trivial ?_
          obtain ⟨r7, gr7, h⟩ := bind_some h
          refine WO_call (f := 101) (all := [.agg [.c (.int .i64 a0_0), .c (.int .i64 a0_1), .c (.int .i64 a0_2), .c (.int .i64 a0_3), .c (slC e28 a0_4), .c (slC e72 a0_5), .c (slC e65 a0_6), .c (slC e77 a0_7)], .agg [.c (.int .u8 a1_2), .c (.int .i64 a1_3)]]) (d := some 25) (r := .cell (.c (.bool r7))) (by kernel_rfl) (by kernel_rfl) (by kernel_rfl) Tryd.call101 (p101 L _ _ _ _ _ _ _ _ _ _ _ gr7) ?_
          refine WO_exk (σ' := [some (.lit 0 27 [.c (.int .i64 a0_0), .c (.int .i64 a0_1), .c (.int .i64 a0_2), .c (.int .i64 a0_3), .c (slC e28 a0_4), .c (slC e72 a0_5), .c (slC e65 a0_6), .c (slC e77 a0_7)]), some (.lit 0 77 [.c (slC e61 a1_0), .c (slC e61 a1_1), .c (.int .u8 a1_2), .c (.int .i64 a1_3)])]) (T' := [(2, .cell (.op 0 0 8 0 0)), (3, .cell (.op 1 0 4 0 0)), (5, .cell (.c (.int .i64 (a1_0.length : Int)))), (21, .cell (.c (.bool false))), (26, .cell (.c (.bool (!r7))))]) (Φ := (True)) 1 [2, 3, 5, 21, 26] (by kernel_rfl) trivial ?_
          obtain rfl := Option.some.inj h
          refine WO_exk (σ' := [some (.lit 0 27 [.c (.int .i64 a0_0), .c (.int .i64 a0_1), .c (.int .i64 a0_2), .c (.int .i64 a0_3), .c (slC e28 a0_4), .c (slC e72 a0_5), .c (slC e65 a0_6), .c (slC e77 a0_7)]), some (.lit 0 77 [.c (slC e61 a1_0), .c (slC e61 a1_1), .c (.int .u8 a1_2), .c (.int .i64 a1_3)])]) (T' := [(2, .cell (.op 0 0 8 0 0)), (3, .cell (.op 1 0 4 0 0)), (5, .cell (.c (.int .i64 (a1_0.length : Int)))), (27, .cell (.c (.bool (!r7))))]) (Φ := True) 1 [2, 3, 5, 27] (by kernel_rfl) trivial J
    · intro J
      clear h
      rcases Bool.eq_false_or_eq_true y1 with hb | hb
      · have h := cond_t hb gy2; clear gy2
        refine WO_ent (ent_bool (T' := [(15, .cell (.c (.bool true))), (2, .cell (.op 0 0 8 0 0)), (3, .cell (.op 1 0 4 0 0)), (5, .cell (.c (.int .i64 (a1_0.length : Int))))]) 15 hb (by kernel_rfl) (by kernel_rfl)) ?_
        obtain rfl := Option.some.inj h
        refine WO_exk (σ' := [some (.lit 0 27 [.c (.int .i64 a0_0), .c (.int .i64 a0_1), .c (.int .i64 a0_2), .c (.int .i64 a0_3), .c (slC e28 a0_4), .c (slC e72 a0_5), .c (slC e65 a0_6), .c (slC e77 a0_7)]), some (.lit 0 77 [.c (slC e61 a1_0), .c (slC e61 a1_1), .c (.int .u8 a1_2), .c (.int .i64 a1_3)])]) (T' := [(2, .cell (.op 0 0 8 0 0)), (3, .cell (.op 1 0 4 0 0)), (5, .cell (.c (.int .i64 (a1_0.length : Int)))), (20, .cell (.c (.bool true)))]) (Φ := True) 5 [2, 3, 5, 20] (by kernel_rfl) trivial J
      · have h := cond_f hb gy2; clear gy2
        refine WO_ent (ent_bool (T' := [(15, .cell (.c (.bool false))), (2, .cell (.op 0 0 8 0 0)), (3, .cell (.op 1 0 4 0 0)), (5, .cell (.c (.int .i64 (a1_0.length : Int))))]) 15 hb (by kernel_rfl) (by kernel_rfl)) ?_
        refine WO_exk (σ' := [some (.lit 0 27 [.c (.int .i64 a0_0), .c (.int .i64 a0_1), .c (.int .i64 a0_2), .c (.int .i64 a0_3), .c (slC e28 a0_4), .c (slC e72 a0_5), .c (slC e65 a0_6), .c (slC e77 a0_7)]), some (.lit 0 77 [.c (slC e61 a1_0), .c (slC e61 a1_1), .c (.int .u8 a1_2), .c (.int .i64 a1_3)])]) (T' := [(2, .cell (.op 0 0 8 0 0)), (3, .cell (.op 1 0 4 0 0)), (5, .cell (.c (.int .i64 (a1_0.length : Int)))), (15, .cell (.c (.bool false))), (19, .cell (.c (.bool (!(decide (a1_2 = (1 : Int)))))))]) (Φ := (True)) 4 [2, 3, 5, 15, 19] (by kernel_rfl) trivial ?_
        obtain rfl := Option.some.inj h
        refine WO_exk (σ' := [some (.lit 0 27 [.c (.int .i64 a0_0), .c (.int .i64 a0_1), .c (.int .i64 a0_2), .c (.int .i64 a0_3), .c (slC e28 a0_4), .c (slC e72 a0_5), .c (slC e65 a0_6), .c (slC e77 a0_7)]), some (.lit 0 77 [.c (slC e61 a1_0), .c (slC e61 a1_1), .c (.int .u8 a1_2), .c (.int .i64 a1_3)])]) (T' := [(2, .cell (.op 0 0 8 0 0)), (3, .cell (.op 1 0 4 0 0)), (5, .cell (.c (.int .i64 (a1_0.length : Int)))), (20, .cell (.c (.bool (!(decide (a1_2 = (1 : Int)))))))]) (Φ := True) 1 [2, 3, 5, 20] (by kernel_rfl) trivial J
  · intro J
    clear h
    rcases Bool.eq_false_or_eq_true (decide ((a1_0.length : Int) < (1 : Int))) with hb | hb
    · have h := cond_t hb gy1; clear gy1
      refine WO_ent (ent_bool (T' := [(11, .cell (.c (.bool true))), (2, .cell (.op 0 0 8 0 0)), (3, .cell (.op 1 0 4 0 0)), (5, .cell (.c (.int .i64 (a1_0.length : Int))))]) 11 hb (by kernel_rfl) (by kernel_rfl)) ?_
      obtain rfl := Option.some.inj h
      refine WO_exk (σ' := [some (.lit 0 27 [.c (.int .i64 a0_0), .c (.int .i64 a0_1), .c (.int .i64 a0_2), .c (.int .i64 a0_3), .c (slC e28 a0_4), .c (slC e72 a0_5), .c (slC e65 a0_6), .c (slC e77 a0_7)]), some (.lit 0 77 [.c (slC e61 a1_0), .c (slC e61 a1_1), .c (.int .u8 a1_2), .c (.int .i64 a1_3)])]) (T' := [(2, .cell (.op 0 0 8 0 0)), (3, .cell (.op 1 0 4 0 0)), (5, .cell (.c (.int .i64 (a1_0.length : Int)))), (14, .cell (.c (.bool true)))]) (Φ := True) 3 [2, 3, 5, 14] (by kernel_rfl) trivial J
    · have h := cond_f hb gy1; clear gy1
      refine WO_ent (ent_bool (T' := [(11, .cell (.c (.bool false))), (2, .cell (.op 0 0 8 0 0)), (3, .cell (.op 1 0 4 0 0)), (5, .cell (.c (.int .i64 (a1_0.length : Int))))]) 11 hb (by kernel_rfl) (by kernel_rfl)) ?_
      refine WO_exk (σ' := [some (.lit 0 27 [.c (.int .i64 a0_0), .c (.int .i64 a0_1), .c (.int .i64 a0_2), .c (.int .i64 a0_3), .c (slC e28 a0_4), .c (slC e72 a0_5), .c (slC e65 a0_6), .c (slC e77 a0_7)]), some (.lit 0 77 [.c (slC e61 a1_0), .c (slC e61 a1_1), .c (.int .u8 a1_2), .c (.int .i64 a1_3)])]) (T' := [(2, .cell (.op 0 0 8 0 0)), (3, .cell (.op 1 0 4 0 0)), (5, .cell (.c (.int .i64 (a1_0.length : Int)))), (11, .cell (.c (.bool false))), (13, .cell (.c (.bool (decide ((a1_0.length : Int) > (4 : Int))))))]) (Φ := (True)) 2 [2, 3, 5, 11, 13] (by kernel_rfl) trivial ?_
      obtain rfl := Option.some.inj h
      refine WO_exk (σ' := [some (.lit 0 27 [.c (.int .i64 a0_0), .c (.int .i64 a0_1), .c (.int .i64 a0_2), .c (.int .i64 a0_3), .c (slC e28 a0_4), .c (slC e72 a0_5), .c (slC e65 a0_6), .c (slC e77 a0_7)]), some (.lit 0 77 [.c (slC e61 a1_0), .c (slC e61 a1_1), .c (.int .u8 a1_2), .c (.int .i64 a1_3)])]) (T' := [(2, .cell (.op 0 0 8 0 0)), (3, .cell (.op 1 0 4 0 0)), (5, .cell (.c (.int .i64 (a1_0.length : Int)))), (14, .cell (.c (.bool (decide ((a1_0.length : Int) > (4 : Int))))))]) (Φ := True) 1 [2, 3, 5, 14] (by kernel_rfl) trivial J

/- attestorref13.Valid -/
def s15_0 (L : LP) (a0_0 : Int) (a0_1 : Int) (a0_2 : Int) (a0_3 : Int) (a0_4 : (List (List Int))) (a0_5 : (List (Int × (List (Int × (List (Int × Int))))))) (a0_6 : (List ((List (List (Int × Int))) × (List (List (Int × Int)))))) (a0_7 : (List ((List (Int × Int)) × (List (Int × Int)) × Int × Int))) (y20 : Int) : Option (Int ⊕ (Bool ⊕ Unit)) :=
  (bif (decide (y20 < (a0_7.length : Int))) then
  (ck (0 ≤ y20 ∧ y20 < (a0_7.length : Int))).bind fun _ =>
  (s53 L a0_0 a0_1 a0_2 a0_3 a0_4 a0_5 a0_6 a0_7 ((a0_7.getD y20.toNat e77.d).1) ((a0_7.getD y20.toNat e77.d).2.1) ((a0_7.getD y20.toNat e77.d).2.2.1) ((a0_7.getD y20.toNat e77.d).2.2.2)).bind fun r23 =>
  (bif (!r23) then
  some (.inr (.inl false))
  else (ck (inR .i64 (y20 + (1 : Int)))).bind fun _ =>
  some (.inl (y20 + (1 : Int))))
  else some (.inr (.inr ())))
def s15_1 (L : LP) (a0_0 : Int) (a0_1 : Int) (a0_2 : Int) (a0_3 : Int) (a0_4 : (List (List Int))) (a0_5 : (List (Int × (List (Int × (List (Int × Int))))))) (a0_6 : (List ((List (List (Int × Int))) × (List (List (Int × Int)))))) (a0_7 : (List ((List (Int × Int)) × (List (Int × Int)) × Int × Int))) (y25 : Int) : Option (Int ⊕ (Bool ⊕ Unit)) :=
  (bif (decide (y25 < (a0_6.length : Int))) then
  (ck (0 ≤ y25 ∧ y25 < (a0_6.length : Int))).bind fun _ =>
  (s52 L a0_0 a0_1 a0_2 a0_3 a0_4 a0_5 a0_6 a0_7 ((a0_6.getD y25.toNat e65.d).1) ((a0_6.getD y25.toNat e65.d).2)).bind fun r28 =>
  (bif (!r28) then
  some (.inr (.inl false))
  else (ck (inR .i64 (y25 + (1 : Int)))).bind fun _ =>
  some (.inl (y25 + (1 : Int))))
  else some (.inr (.inr ())))
def s15_2 (L : LP) (a0_0 : Int) (a0_1 : Int) (a0_2 : Int) (a0_3 : Int) (a0_4 : (List (List Int))) (a0_5 : (List (Int × (List (Int × (List (Int × Int))))))) (a0_6 : (List ((List (List (Int × Int))) × (List (List (Int × Int)))))) (a0_7 : (List ((List (Int × Int)) × (List (Int × Int)) × Int × Int))) (y30 : Int) : Option (Int ⊕ (Bool ⊕ Unit)) :=
  (bif (decide (y30 < (a0_5.length : Int))) then
  (ck (0 ≤ y30 ∧ y30 < (a0_5.length : Int))).bind fun _ =>
  (s51 L a0_0 a0_1 a0_2 a0_3 a0_4 a0_5 a0_6 a0_7 ((a0_5.getD y30.toNat e72.d).1) ((a0_5.getD y30.toNat e72.d).2)).bind fun r33 =>
  (bif (!r33) then
  some (.inr (.inl false))
  else (ck (inR .i64 (y30 + (1 : Int)))).bind fun _ =>
  some (.inl (y30 + (1 : Int))))
  else some (.inr (.inr ())))
def s15_3 (L : LP) (a0_0 : Int) (a0_1 : Int) (a0_2 : Int) (a0_3 : Int) (a0_4 : (List (List Int))) (a0_5 : (List (Int × (List (Int × (List (Int × Int))))))) (a0_6 : (List ((List (List (Int × Int))) × (List (List (Int × Int)))))) (a0_7 : (List ((List (Int × Int)) × (List (Int × Int)) × Int × Int))) (y35 : Int) : Option (Int ⊕ (Bool ⊕ Unit)) :=
  (bif (decide (y35 < (a0_4.length : Int))) then
  (ck (0 ≤ y35 ∧ y35 < (a0_4.length : Int))).bind fun _ =>
  (s28 L a0_0 a0_1 a0_2 a0_3 a0_4 a0_5 a0_6 a0_7).bind fun r38 =>
  (bif (!(decide (((a0_4.getD y35.toNat e28.d).length : Int) = r38))) then some true
  else (ck (0 ≤ y35 ∧ y35 < (a0_4.length : Int))).bind fun _ =>
  (s50 L a0_0 (a0_4.getD y35.toNat e28.d)).bind fun r42 =>
  some (!r42)).bind fun y39 =>
  (bif y39 then
  some (.inr (.inl false))
  else (ck (inR .i64 (y35 + (1 : Int)))).bind fun _ =>
  some (.inl (y35 + (1 : Int))))
  else some (.inr (.inr ())))
def s15 (L : LP) (a0_0 : Int) (a0_1 : Int) (a0_2 : Int) (a0_3 : Int) (a0_4 : (List (List Int))) (a0_5 : (List (Int × (List (Int × (List (Int × Int))))))) (a0_6 : (List ((List (List (Int × Int))) × (List (List (Int × Int)))))) (a0_7 : (List ((List (Int × Int)) × (List (Int × Int)) × Int × Int))) : Option Bool :=
  (s48 L a0_0).bind fun r1 =>
  (bif (!r1) then some true
  else some (decide (a0_1 < (1 : Int)))).bind fun y2 =>
  (bif y2 then some true
  else some (decide (a0_1 > (13 : Int)))).bind fun y3 =>
  (bif y3 then some true
  else (s49 L a0_0).bind fun r43 =>
  some (decide (a0_1 > r43))).bind fun y4 =>
  (bif y4 then some true
  else some (decide (a0_2 < (1 : Int)))).bind fun y5 =>
  (bif y5 then some true
  else some (decide (a0_2 > (64 : Int)))).bind fun y6 =>
  (bif y6 then some true
  else some (decide (a0_3 < (0 : Int)))).bind fun y7 =>
  (bif y7 then some true
  else some (decide (a0_3 > (16 : Int)))).bind fun y8 =>
  (bif y8 then
  some false
  else (bif (decide ((a0_4.length : Int) > (64 : Int))) then some true
  else some (decide ((a0_5.length : Int) > (64 : Int)))).bind fun y9 =>
  (bif y9 then some true
  else some (decide ((a0_6.length : Int) > (4 : Int)))).bind fun y10 =>
  (bif y10 then some true
  else some (decide ((a0_7.length : Int) > (8 : Int)))).bind fun y11 =>
  (bif y11 then
  some false
  else ((L.run (s15_3 L a0_0 a0_1 a0_2 a0_3 a0_4 a0_5 a0_6 a0_7) (0 : Int)).bind (fun (b : Bool ⊕ Unit) => (match b with
  | .inl v => some (.inr v)
  | .inr v => some (.inl ())))).bind fun (y12 : Unit ⊕ Bool) => (match y12 with
  | .inl v13 => ((L.run (s15_2 L a0_0 a0_1 a0_2 a0_3 a0_4 a0_5 a0_6 a0_7) (0 : Int)).bind (fun (b : Bool ⊕ Unit) => (match b with
  | .inl v => some (.inr v)
  | .inr v => some (.inl ())))).bind fun (y14 : Unit ⊕ Bool) => (match y14 with
  | .inl v15 => ((L.run (s15_1 L a0_0 a0_1 a0_2 a0_3 a0_4 a0_5 a0_6 a0_7) (0 : Int)).bind (fun (b : Bool ⊕ Unit) => (match b with
  | .inl v => some (.inr v)
  | .inr v => some (.inl ())))).bind fun (y16 : Unit ⊕ Bool) => (match y16 with
  | .inl v17 => ((L.run (s15_0 L a0_0 a0_1 a0_2 a0_3 a0_4 a0_5 a0_6 a0_7) (0 : Int)).bind (fun (b : Bool ⊕ Unit) => (match b with
  | .inl v => some (.inr v)
  | .inr v => some (.inl ())))).bind fun (y18 : Unit ⊕ Bool) => (match y18 with
  | .inl v19 => some true
  | .inr v19 => some v19)
  | .inr v17 => some v17)
  | .inr v15 => some v15)
  | .inr v13 => some v13)))
theorem p15 (L : LP) (a0_0 : Int) (a0_1 : Int) (a0_2 : Int) (a0_3 : Int) (a0_4 : (List (List Int))) (a0_5 : (List (Int × (List (Int × (List (Int × Int))))))) (a0_6 : (List ((List (List (Int × Int))) × (List (List (Int × Int)))))) (a0_7 : (List ((List (Int × Int)) × (List (Int × Int)) × Int × Int))) (r : Bool) (h : s15 L a0_0 a0_1 a0_2 a0_3 a0_4 a0_5 a0_6 a0_7 = some r) : Pure X 15 [.agg [.c (.int .i64 a0_0), .c (.int .i64 a0_1), .c (.int .i64 a0_2), .c (.int .i64 a0_3), .c (slC e28 a0_4), .c (slC e72 a0_5), .c (slC e65 a0_6), .c (slC e77 a0_7)]] (.cell (.c (.bool r))) := by
  refine Pure_of_W (c := cd Tryd.f15 []) Tryd.func15 (by kernel_rfl) (N := 143) (by kernel_rfl) (Nat.le_of_ble_eq_true (by kernel_rfl)) ?_
  unfold s15 at h
  refine W_seq_at (by kernel_rfl) ?_
  refine W_region_at (by kernel_rfl) ?_
  refine WO_fin (σ' := [some (.lit 0 27 [.c (.int .i64 a0_0), .c (.int .i64 a0_1), .c (.int .i64 a0_2), .c (.int .i64 a0_3), .c (slC e28 a0_4), .c (slC e72 a0_5), .c (slC e65 a0_6), .c (slC e77 a0_7)])]) (T' := [(1, .cell (.op 0 0 8 0 0))]) (Φ := (True)) 2 [1] (by kernel_rfl) trivial (by kernel_rfl) ?_
  refine thenQ_n ?_
  refine W_seq_at (by kernel_rfl) ?_
  refine W_seq_at (by kernel_rfl) ?_
  refine W_drawK 22 (by kernel_rfl) mixed (by kernel_rfl) ?_
  refine WQ_exk (n' := 20) (T' := [(1, .cell (.op 0 0 8 0 0)), (8, .cell (.c (.int .i64 a0_0)))]) (Φ := (True)) 2 [1, 8] (by kernel_rfl) trivial ?_
  obtain ⟨r1, gr1, h⟩ := bind_some h
  refine WQ_call (f := 48) (all := [.cell (.c (.int .i64 a0_0))]) (d := some 9) (r := .cell (.c (.bool r1))) (by kernel_rfl) (by kernel_rfl) (by kernel_rfl) Tryd.call48 (p48 L _ _ gr1) ?_
  refine WQ_exk (n' := 17) (T' := [(1, .cell (.op 0 0 8 0 0)), (11, .cell (.c (.bool (!r1))))]) (Φ := (True)) 2 [1, 11] (by kernel_rfl) trivial ?_
  obtain ⟨y2, gy2, h⟩ := bind_some h
  refine WQ_join 13 9 [(1, .cell (.op 0 0 8 0 0)), (15, .cell (.c (.bool y2)))] ?_ ?_
  · clear gy2
    refine WQ_exk (n' := 12) (T' := [(1, .cell (.op 0 0 8 0 0)), (16, .cell (.c (.bool y2)))]) (Φ := (True)) 1 [1, 16] (by kernel_rfl) trivial ?_
    obtain ⟨y3, gy3, h⟩ := bind_some h
    refine WQ_join 8 14 [(1, .cell (.op 0 0 8 0 0)), (20, .cell (.c (.bool y3)))] ?_ ?_
    · clear gy3
      refine WQ_exk (n' := 7) (T' := [(1, .cell (.op 0 0 8 0 0)), (21, .cell (.c (.bool y3)))]) (Φ := (True)) 1 [1, 21] (by kernel_rfl) trivial ?_
      obtain ⟨y4, gy4, h⟩ := bind_some h
      refine WQ_join 0 22 [(1, .cell (.op 0 0 8 0 0)), (28, .cell (.c (.bool y4)))] ?_ ?_
      · clear gy4
        refine WQ_done ?_
        refine WO_exk (σ' := [some (.lit 0 27 [.c (.int .i64 a0_0), .c (.int .i64 a0_1), .c (.int .i64 a0_2), .c (.int .i64 a0_3), .c (slC e28 a0_4), .c (slC e72 a0_5), .c (slC e65 a0_6), .c (slC e77 a0_7)])]) (T' := [(1, .cell (.op 0 0 8 0 0)), (29, .cell (.c (.bool y4)))]) (Φ := (True)) 1 [1, 29] (by kernel_rfl) trivial ?_
        obtain ⟨y5, gy5, h⟩ := bind_some h
        refine WO_join 27 [some (.lit 0 27 [.c (.int .i64 a0_0), .c (.int .i64 a0_1), .c (.int .i64 a0_2), .c (.int .i64 a0_3), .c (slC e28 a0_4), .c (slC e72 a0_5), .c (slC e65 a0_6), .c (slC e77 a0_7)])] [(1, .cell (.op 0 0 8 0 0)), (33, .cell (.c (.bool y5)))] ?_ ?_
        · clear gy5
          refine WO_exk (σ' := [some (.lit 0 27 [.c (.int .i64 a0_0), .c (.int .i64 a0_1), .c (.int .i64 a0_2), .c (.int .i64 a0_3), .c (slC e28 a0_4), .c (slC e72 a0_5), .c (slC e65 a0_6), .c (slC e77 a0_7)])]) (T' := [(1, .cell (.op 0 0 8 0 0)), (34, .cell (.c (.bool y5)))]) (Φ := (True)) 1 [1, 34] (by kernel_rfl) trivial ?_
          obtain ⟨y6, gy6, h⟩ := bind_some h
          refine WO_join 32 [some (.lit 0 27 [.c (.int .i64 a0_0), .c (.int .i64 a0_1), .c (.int .i64 a0_2), .c (.int .i64 a0_3), .c (slC e28 a0_4), .c (slC e72 a0_5), .c (slC e65 a0_6), .c (slC e77 a0_7)])] [(1, .cell (.op 0 0 8 0 0)), (38, .cell (.c (.bool y6)))] ?_ ?_
          · clear gy6
            refine WO_exk (σ' := [some (.lit 0 27 [.c (.int .i64 a0_0), .c (.int .i64 a0_1), .c (.int .i64 a0_2), .c (.int .i64 a0_3), .c (slC e28 a0_4), .c (slC e72 a0_5), .c (slC e65 a0_6), .c (slC e77 a0_7)])]) (T' := [(1, .cell (.op 0 0 8 0 0)), (39, .cell (.c (.bool y6)))]) (Φ := (True)) 1 [1, 39] (by kernel_rfl) trivial ?_
            obtain ⟨y7, gy7, h⟩ := bind_some h
            refine WO_join 37 [some (.lit 0 27 [.c (.int .i64 a0_0), .c (.int .i64 a0_1), .c (.int .i64 a0_2), .c (.int .i64 a0_3), .c (slC e28 a0_4), .c (slC e72 a0_5), .c (slC e65 a0_6), .c (slC e77 a0_7)])] [(1, .cell (.op 0 0 8 0 0)), (43, .cell (.c (.bool y7)))] ?_ ?_
            · clear gy7
              refine WO_exk (σ' := [some (.lit 0 27 [.c (.int .i64 a0_0), .c (.int .i64 a0_1), .c (.int .i64 a0_2), .c (.int .i64 a0_3), .c (slC e28 a0_4), .c (slC e72 a0_5), .c (slC e65 a0_6), .c (slC e77 a0_7)])]) (T' := [(1, .cell (.op 0 0 8 0 0)), (44, .cell (.c (.bool y7)))]) (Φ := (True)) 1 [1, 44] (by kernel_rfl) trivial ?_
              obtain ⟨y8, gy8, h⟩ := bind_some h
              refine WO_join 42 [some (.lit 0 27 [.c (.int .i64 a0_0), .c (.int .i64 a0_1), .c (.int .i64 a0_2), .c (.int .i64 a0_3), .c (slC e28 a0_4), .c (slC e72 a0_5), .c (slC e65 a0_6), .c (slC e77 a0_7)])] [(1, .cell (.op 0 0 8 0 0)), (48, .cell (.c (.bool y8)))] ?_ ?_
              · clear gy8
                refine WO_fin (σ' := [some (.lit 0 27 [.c (.int .i64 a0_0), .c (.int .i64 a0_1), .c (.int .i64 a0_2), .c (.int .i64 a0_3), .c (slC e28 a0_4), .c (slC e72 a0_5), .c (slC e65 a0_6), .c (slC e77 a0_7)])]) (T' := [(1, .cell (.op 0 0 8 0 0)), (48, .cell (.c (.bool y8)))]) (Φ := True) 0 [1, 48] (by kernel_rfl) trivial (by kernel_rfl) ?_
                refine thenQ_n ?_
                refine W_cond_at (b := y8) (by kernel_rfl) (fun hb => ?_) (fun hb => ?_)
                · have h := cond_t hb h
                  refine W_seq_at (by kernel_rfl) ?_
                  refine W_region_at (by kernel_rfl) ?_
                  refine WO_fin (σ' := [some (.lit 0 27 [.c (.int .i64 a0_0), .c (.int .i64 a0_1), .c (.int .i64 a0_2), .c (.int .i64 a0_3), .c (slC e28 a0_4), .c (slC e72 a0_5), .c (slC e65 a0_6), .c (slC e77 a0_7)])]) (T' := [(2, .cell (.c (.bool false)))]) (Φ := (True)) 1 [2] (by kernel_rfl) trivial (by kernel_rfl) ?_
                  refine thenQ_n ?_
                  refine W_ret_at (by kernel_rfl) ?_
                  refine thenQ_r ?_
                  obtain rfl := Option.some.inj h
                  exact qret [.cell (.c (.bool false))] (by kernel_rfl) (by kernel_rfl) ([]) (by kernel_rfl)
                · have h := cond_f hb h
                  refine W_skip_at (by kernel_rfl) ?_
                  refine thenQ_n ?_
                  refine W_seq_at (by kernel_rfl) ?_
                  refine W_seq_at (by kernel_rfl) ?_
                  refine W_region_at (by kernel_rfl) ?_
                  refine WO_exk (σ' := [some (.lit 0 27 [.c (.int .i64 a0_0), .c (.int .i64 a0_1), .c (.int .i64 a0_2), .c (.int .i64 a0_3), .c (slC e28 a0_4), .c (slC e72 a0_5), .c (slC e65 a0_6), .c (slC e77 a0_7)])]) (T' := [(1, .cell (.op 0 0 8 0 0)), (53, .cell (.c (.bool (decide ((a0_4.length : Int) > (64 : Int))))))]) (Φ := (True)) 5 [1, 53] (by kernel_rfl) trivial ?_
                  obtain ⟨y9, gy9, h⟩ := bind_some h
                  refine WO_join 10 [some (.lit 0 27 [.c (.int .i64 a0_0), .c (.int .i64 a0_1), .c (.int .i64 a0_2), .c (.int .i64 a0_3), .c (slC e28 a0_4), .c (slC e72 a0_5), .c (slC e65 a0_6), .c (slC e77 a0_7)])] [(1, .cell (.op 0 0 8 0 0)), (58, .cell (.c (.bool y9)))] ?_ ?_
                  · clear gy9
                    refine WO_exk (σ' := [some (.lit 0 27 [.c (.int .i64 a0_0), .c (.int .i64 a0_1), .c (.int .i64 a0_2), .c (.int .i64 a0_3), .c (slC e28 a0_4), .c (slC e72 a0_5), .c (slC e65 a0_6), .c (slC e77 a0_7)])]) (T' := [(1, .cell (.op 0 0 8 0 0)), (59, .cell (.c (.bool y9)))]) (Φ := (True)) 1 [1, 59] (by kernel_rfl) trivial ?_
                    obtain ⟨y10, gy10, h⟩ := bind_some h
                    refine WO_join 16 [some (.lit 0 27 [.c (.int .i64 a0_0), .c (.int .i64 a0_1), .c (.int .i64 a0_2), .c (.int .i64 a0_3), .c (slC e28 a0_4), .c (slC e72 a0_5), .c (slC e65 a0_6), .c (slC e77 a0_7)])] [(1, .cell (.op 0 0 8 0 0)), (64, .cell (.c (.bool y10)))] ?_ ?_
                    · clear gy10
                      refine WO_exk (σ' := [some (.lit 0 27 [.c (.int .i64 a0_0), .c (.int .i64 a0_1), .c (.int .i64 a0_2), .c (.int .i64 a0_3), .c (slC e28 a0_4), .c (slC e72 a0_5), .c (slC e65 a0_6), .c (slC e77 a0_7)])]) (T' := [(1, .cell (.op 0 0 8 0 0)), (65, .cell (.c (.bool y10)))]) (Φ := (True)) 1 [1, 65] (by kernel_rfl) trivial ?_
                      obtain ⟨y11, gy11, h⟩ := bind_some h
                      refine WO_join 22 [some (.lit 0 27 [.c (.int .i64 a0_0), .c (.int .i64 a0_1), .c (.int .i64 a0_2), .c (.int .i64 a0_3), .c (slC e28 a0_4), .c (slC e72 a0_5), .c (slC e65 a0_6), .c (slC e77 a0_7)])] [(1, .cell (.op 0 0 8 0 0)), (70, .cell (.c (.bool y11)))] ?_ ?_
                      · clear gy11
                        refine WO_fin (σ' := [some (.lit 0 27 [.c (.int .i64 a0_0), .c (.int .i64 a0_1), .c (.int .i64 a0_2), .c (.int .i64 a0_3), .c (slC e28 a0_4), .c (slC e72 a0_5), .c (slC e65 a0_6), .c (slC e77 a0_7)])]) (T' := [(1, .cell (.op 0 0 8 0 0)), (70, .cell (.c (.bool y11)))]) (Φ := True) 0 [1, 70] (by kernel_rfl) trivial (by kernel_rfl) ?_
                        refine thenQ_n ?_
                        refine W_cond_at (b := y11) (by kernel_rfl) (fun hb => ?_) (fun hb => ?_)
                        · have h := cond_t hb h
                          refine W_seq_at (by kernel_rfl) ?_
                          refine W_region_at (by kernel_rfl) ?_
                          refine WO_fin (σ' := [some (.lit 0 27 [.c (.int .i64 a0_0), .c (.int .i64 a0_1), .c (.int .i64 a0_2), .c (.int .i64 a0_3), .c (slC e28 a0_4), .c (slC e72 a0_5), .c (slC e65 a0_6), .c (slC e77 a0_7)])]) (T' := [(2, .cell (.c (.bool false)))]) (Φ := (True)) 1 [2] (by kernel_rfl) trivial (by kernel_rfl) ?_
                          refine thenQ_n ?_
                          refine W_ret_at (by kernel_rfl) ?_
                          refine thenQ_r ?_
                          obtain rfl := Option.some.inj h
                          exact qret [.cell (.c (.bool false))] (by kernel_rfl) (by kernel_rfl) ([]) (by kernel_rfl)
                        · have h := cond_f hb h
                          refine W_skip_at (by kernel_rfl) ?_
                          refine thenQ_n ?_
                          obtain ⟨y12, gy12, ky12⟩ := bind_some h
                          refine W_cutE (by kernel_rfl) (fun v13 => y12 = .inl v13) (fun v13 => ([some (.lit 0 27 [.c (.int .i64 a0_0), .c (.int .i64 a0_1), .c (.int .i64 a0_2), .c (.int .i64 a0_3), .c (slC e28 a0_4), .c (slC e72 a0_5), .c (slC e65 a0_6), .c (slC e77 a0_7)])], [(1, .cell (.op 0 0 8 0 0))])) ?_ ?_
                          · intro v13 hv; subst hv; have h := ky12; clear gy12 ky12; dsimp only at h
                            obtain ⟨y14, gy14, ky14⟩ := bind_some h
                            refine W_cutE (by kernel_rfl) (fun v15 => y14 = .inl v15) (fun v15 => ([some (.lit 0 27 [.c (.int .i64 a0_0), .c (.int .i64 a0_1), .c (.int .i64 a0_2), .c (.int .i64 a0_3), .c (slC e28 a0_4), .c (slC e72 a0_5), .c (slC e65 a0_6), .c (slC e77 a0_7)])], [(1, .cell (.op 0 0 8 0 0))])) ?_ ?_
                            · intro v15 hv; subst hv; have h := ky14; clear gy14 ky14; dsimp only at h
                              obtain ⟨y16, gy16, ky16⟩ := bind_some h
                              refine W_cutE (by kernel_rfl) (fun v17 => y16 = .inl v17) (fun v17 => ([some (.lit 0 27 [.c (.int .i64 a0_0), .c (.int .i64 a0_1), .c (.int .i64 a0_2), .c (.int .i64 a0_3), .c (slC e28 a0_4), .c (slC e72 a0_5), .c (slC e65 a0_6), .c (slC e77 a0_7)])], [(1, .cell (.op 0 0 8 0 0))])) ?_ ?_
                              · intro v17 hv; subst hv; have h := ky16; clear gy16 ky16; dsimp only at h
                                obtain ⟨y18, gy18, ky18⟩ := bind_some h
                                refine W_cutE (by kernel_rfl) (fun v19 => y18 = .inl v19) (fun v19 => ([some (.lit 0 27 [.c (.int .i64 a0_0), .c (.int .i64 a0_1), .c (.int .i64 a0_2), .c (.int .i64 a0_3), .c (slC e28 a0_4), .c (slC e72 a0_5), .c (slC e65 a0_6), .c (slC e77 a0_7)])], [])) ?_ ?_
                                · intro v19 hv; subst hv; have h := ky18; clear gy18 ky18; dsimp only at h
                                  refine W_seq_at (by kernel_rfl) ?_
                                  refine W_region_at (by kernel_rfl) ?_
                                  refine WO_fin (σ' := [some (.lit 0 27 [.c (.int .i64 a0_0), .c (.int .i64 a0_1), .c (.int .i64 a0_2), .c (.int .i64 a0_3), .c (slC e28 a0_4), .c (slC e72 a0_5), .c (slC e65 a0_6), .c (slC e77 a0_7)])]) (T' := [(2, .cell (.c (.bool true)))]) (Φ := (True)) 1 [2] (by kernel_rfl) trivial (by kernel_rfl) ?_
                                  refine thenQ_n ?_
                                  refine W_ret_at (by kernel_rfl) ?_
                                  obtain rfl := Option.some.inj h
                                  exact qret [.cell (.c (.bool true))] (by kernel_rfl) (by kernel_rfl) ([]) (by kernel_rfl)
                                · have h := gy18; clear gy18
                                  refine W_seq_at (by kernel_rfl) ?_
                                  refine W_region_at (by kernel_rfl) ?_
                                  refine WO_fin (σ' := [some (.lit 0 27 [.c (.int .i64 a0_0), .c (.int .i64 a0_1), .c (.int .i64 a0_2), .c (.int .i64 a0_3), .c (slC e28 a0_4), .c (slC e72 a0_5), .c (slC e65 a0_6), .c (slC e77 a0_7)])]) (T' := [(1, .cell (.op 0 0 8 0 0)), (6, .cell (.c (.int .i64 (0 : Int))))]) (Φ := (True)) 1 [1, 6] (by kernel_rfl) trivial (by kernel_rfl) ?_
                                  refine thenQ_n ?_
                                  refine W_block_at 6 (by kernel_rfl) (by kernel_rfl) ?_
                                  obtain ⟨b21, gb21, kb21⟩ := bind_some h
                                  refine W_loop_at (S := fun (y20 : Int) => ([some (.lit 0 27 [.c (.int .i64 a0_0), .c (.int .i64 a0_1), .c (.int .i64 a0_2), .c (.int .i64 a0_3), .c (slC e28 a0_4), .c (slC e72 a0_5), .c (slC e65 a0_6), .c (slC e77 a0_7)])], [(1, .cell (.op 0 0 8 0 0)), (6, .cell (.c (.int .i64 y20)))])) (step := _) (x0 := (0 : Int)) (b := b21) (L.ok _ _ _ gb21) (by kernel_rfl) (stps_ok [.keep [1, 6], .take 1] (by kernel_rfl)) ?_
                                  clear gb21 h; intro y20 o h; unfold s15_0 at h
                                  refine W_seq_at (by kernel_rfl) ?_
                                  refine W_seq_at (by kernel_rfl) ?_
                                  refine W_region_at (by kernel_rfl) ?_
                                  refine WO_fin (σ' := [some (.lit 0 27 [.c (.int .i64 a0_0), .c (.int .i64 a0_1), .c (.int .i64 a0_2), .c (.int .i64 a0_3), .c (slC e28 a0_4), .c (slC e72 a0_5), .c (slC e65 a0_6), .c (slC e77 a0_7)])]) (T' := [(1, .cell (.op 0 0 8 0 0)), (6, .cell (.c (.int .i64 y20))), (132, .cell (.c (.bool (decide (y20 < (a0_7.length : Int))))))]) (Φ := (True)) 5 [1, 6, 132] (by kernel_rfl) trivial (by kernel_rfl) ?_
                                  refine thenQ_n ?_
                                  refine W_cond_at (b := (decide (y20 < (a0_7.length : Int)))) (by kernel_rfl) (fun hb => ?_) (fun hb => ?_)
                                  · have h := cond_t hb h
                                    refine W_skip_at (by kernel_rfl) ?_
                                    refine thenQ_n ?_
                                    refine W_seq_at (by kernel_rfl) ?_
                                    refine W_block_at 7 (by kernel_rfl) (by kernel_rfl) ?_
                                    refine W_seq_at (by kernel_rfl) ?_
                                    refine W_drawK 6 (by kernel_rfl) mixed (by kernel_rfl) ?_
                                    obtain ⟨c22, h⟩ := ck_bind h
                                    refine WQ_exk (n' := 0) (T' := [(1, .cell (.op 0 0 8 0 0)), (6, .cell (.c (.int .i64 y20))), (135, .agg [.c (.int .i64 a0_0), .c (.int .i64 a0_1), .c (.int .i64 a0_2), .c (.int .i64 a0_3), .c (slC e28 a0_4), .c (slC e72 a0_5), .c (slC e65 a0_6), .c (slC e77 a0_7)]), (140, .agg [.c (slC e61 ((a0_7.getD y20.toNat e77.d).1)), .c (slC e61 ((a0_7.getD y20.toNat e77.d).2.1)), .c (.int .u8 ((a0_7.getD y20.toNat e77.d).2.2.1)), .c (.int .i64 ((a0_7.getD y20.toNat e77.d).2.2.2))])]) (Φ := (0 ≤ y20 ∧ y20 < (a0_7.length : Int)) ∧ (True)) 6 [1, 6, 135, 140] (by kernel_rfl) ⟨c22, trivial⟩ ?_
                                    refine WQ_done ?_
                                    obtain ⟨r23, gr23, h⟩ := bind_some h
                                    refine WO_call (f := 53) (all := [.agg [.c (.int .i64 a0_0), .c (.int .i64 a0_1), .c (.int .i64 a0_2), .c (.int .i64 a0_3), .c (slC e28 a0_4), .c (slC e72 a0_5), .c (slC e65 a0_6), .c (slC e77 a0_7)], .agg [.c (slC e61 ((a0_7.getD y20.toNat e77.d).1)), .c (slC e61 ((a0_7.getD y20.toNat e77.d).2.1)), .c (.int .u8 ((a0_7.getD y20.toNat e77.d).2.2.1)), .c (.int .i64 ((a0_7.getD y20.toNat e77.d).2.2.2))]]) (d := some 141) (r := .cell (.c (.bool r23))) (by kernel_rfl) (by kernel_rfl) (by kernel_rfl) Tryd.call53 (p53 L _ _ _ _ _ _ _ _ _ _ _ _ _ gr23) ?_
                                    refine WO_fin (σ' := [some (.lit 0 27 [.c (.int .i64 a0_0), .c (.int .i64 a0_1), .c (.int .i64 a0_2), .c (.int .i64 a0_3), .c (slC e28 a0_4), .c (slC e72 a0_5), .c (slC e65 a0_6), .c (slC e77 a0_7)])]) (T' := [(1, .cell (.op 0 0 8 0 0)), (6, .cell (.c (.int .i64 y20))), (142, .cell (.c (.bool (!r23))))]) (Φ := (True)) 1 [1, 6, 142] (by kernel_rfl) trivial (by kernel_rfl) ?_
                                    refine thenQ_n ?_
                                    refine W_cond_at (b := (!r23)) (by kernel_rfl) (fun hb => ?_) (fun hb => ?_)
                                    · have h := cond_t hb h
                                      refine W_seq_at (by kernel_rfl) ?_
                                      refine W_region_at (by kernel_rfl) ?_
                                      refine WO_fin (σ' := [some (.lit 0 27 [.c (.int .i64 a0_0), .c (.int .i64 a0_1), .c (.int .i64 a0_2), .c (.int .i64 a0_3), .c (slC e28 a0_4), .c (slC e72 a0_5), .c (slC e65 a0_6), .c (slC e77 a0_7)])]) (T' := [(2, .cell (.c (.bool false)))]) (Φ := (True)) 1 [2] (by kernel_rfl) trivial (by kernel_rfl) ?_
                                      refine thenQ_n ?_
                                      refine W_ret_at (by kernel_rfl) ?_
                                      refine blockQ_r ?_
                                      refine thenQ_r ?_
                                      obtain rfl := Option.some.inj h; refine round_r rfl (fun hb => ?_); subst hb; have h := kb21; dsimp only at h
                                      refine blockQ_r ?_
                                      obtain rfl := Option.some.inj h; have h := ky18; dsimp only at h; refine thenQ_r ?_
                                      obtain rfl := Option.some.inj h
                                      exact qret [.cell (.c (.bool false))] (by kernel_rfl) (by kernel_rfl) ([]) (by kernel_rfl)
                                    · have h := cond_f hb h
                                      refine W_skip_at (by kernel_rfl) ?_
                                      refine blockQ_n ?_
                                      refine thenQ_n ?_
                                      refine W_region_at (by kernel_rfl) ?_
                                      obtain ⟨c24, h⟩ := ck_bind h
                                      refine WO_fin (σ' := [some (.lit 0 27 [.c (.int .i64 a0_0), .c (.int .i64 a0_1), .c (.int .i64 a0_2), .c (.int .i64 a0_3), .c (slC e28 a0_4), .c (slC e72 a0_5), .c (slC e65 a0_6), .c (slC e77 a0_7)])]) (T' := [(1, .cell (.op 0 0 8 0 0)), (6, .cell (.c (.int .i64 (y20 + (1 : Int)))))]) (Φ := (inR .i64 (y20 + (1 : Int))) ∧ (True)) 3 [1, 6] (by kernel_rfl) ⟨c24, trivial⟩ (by kernel_rfl) ?_
                                      obtain rfl := Option.some.inj h
                                      exact round_n _ rfl (stps_ok [.keep [1, 6], .take 1] (by kernel_rfl))
                                  · have h := cond_f hb h
                                    refine W_exit_at 6 (by kernel_rfl) (by kernel_rfl) ?_
                                    refine thenQ_e ?_
                                    obtain rfl := Option.some.inj h; refine round_e rfl (fun hb => ?_); subst hb; have h := kb21; dsimp only at h
                                    refine blockQ_hit ?_
                                    obtain rfl := Option.some.inj h
                                    exact thenQ_n ⟨_, rfl, stps_ok [.keep [], .take 1] (by kernel_rfl)⟩
                              · have h := gy16; clear gy16
                                refine W_seq_at (by kernel_rfl) ?_
                                refine W_region_at (by kernel_rfl) ?_
                                refine WO_fin (σ' := [some (.lit 0 27 [.c (.int .i64 a0_0), .c (.int .i64 a0_1), .c (.int .i64 a0_2), .c (.int .i64 a0_3), .c (slC e28 a0_4), .c (slC e72 a0_5), .c (slC e65 a0_6), .c (slC e77 a0_7)])]) (T' := [(1, .cell (.op 0 0 8 0 0)), (5, .cell (.c (.int .i64 (0 : Int))))]) (Φ := (True)) 1 [1, 5] (by kernel_rfl) trivial (by kernel_rfl) ?_
                                refine thenQ_n ?_
                                refine W_block_at 4 (by kernel_rfl) (by kernel_rfl) ?_
                                obtain ⟨b26, gb26, kb26⟩ := bind_some h
                                refine W_loop_at (S := fun (y25 : Int) => ([some (.lit 0 27 [.c (.int .i64 a0_0), .c (.int .i64 a0_1), .c (.int .i64 a0_2), .c (.int .i64 a0_3), .c (slC e28 a0_4), .c (slC e72 a0_5), .c (slC e65 a0_6), .c (slC e77 a0_7)])], [(1, .cell (.op 0 0 8 0 0)), (5, .cell (.c (.int .i64 y25)))])) (step := _) (x0 := (0 : Int)) (b := b26) (L.ok _ _ _ gb26) (by kernel_rfl) (stps_ok [.keep [1, 5], .take 1] (by kernel_rfl)) ?_
                                clear gb26 h; intro y25 o h; unfold s15_1 at h
                                refine W_seq_at (by kernel_rfl) ?_
                                refine W_seq_at (by kernel_rfl) ?_
                                refine W_region_at (by kernel_rfl) ?_
                                refine WO_fin (σ' := [some (.lit 0 27 [.c (.int .i64 a0_0), .c (.int .i64 a0_1), .c (.int .i64 a0_2), .c (.int .i64 a0_3), .c (slC e28 a0_4), .c (slC e72 a0_5), .c (slC e65 a0_6), .c (slC e77 a0_7)])]) (T' := [(1, .cell (.op 0 0 8 0 0)), (5, .cell (.c (.int .i64 y25))), (117, .cell (.c (.bool (decide (y25 < (a0_6.length : Int))))))]) (Φ := (True)) 5 [1, 5, 117] (by kernel_rfl) trivial (by kernel_rfl) ?_
                                refine thenQ_n ?_
                                refine W_cond_at (b := (decide (y25 < (a0_6.length : Int)))) (by kernel_rfl) (fun hb => ?_) (fun hb => ?_)
                                · have h := cond_t hb h
                                  refine W_skip_at (by kernel_rfl) ?_
                                  refine thenQ_n ?_
                                  refine W_seq_at (by kernel_rfl) ?_
                                  refine W_block_at 5 (by kernel_rfl) (by kernel_rfl) ?_
                                  refine W_seq_at (by kernel_rfl) ?_
                                  refine W_drawK 6 (by kernel_rfl) mixed (by kernel_rfl) ?_
                                  obtain ⟨c27, h⟩ := ck_bind h
                                  refine WQ_exk (n' := 0) (T' := [(1, .cell (.op 0 0 8 0 0)), (5, .cell (.c (.int .i64 y25))), (120, .agg [.c (.int .i64 a0_0), .c (.int .i64 a0_1), .c (.int .i64 a0_2), .c (.int .i64 a0_3), .c (slC e28 a0_4), .c (slC e72 a0_5), .c (slC e65 a0_6), .c (slC e77 a0_7)]), (125, .agg [.c (slC e62 ((a0_6.getD y25.toNat e65.d).1)), .c (slC e62 ((a0_6.getD y25.toNat e65.d).2))])]) (Φ := (0 ≤ y25 ∧ y25 < (a0_6.length : Int)) ∧ (True)) 6 [1, 5, 120, 125] (by kernel_rfl) ⟨c27, trivial⟩ ?_
                                  refine WQ_done ?_
                                  obtain ⟨r28, gr28, h⟩ := bind_some h
                                  refine WO_call (f := 52) (all := [.agg [.c (.int .i64 a0_0), .c (.int .i64 a0_1), .c (.int .i64 a0_2), .c (.int .i64 a0_3), .c (slC e28 a0_4), .c (slC e72 a0_5), .c (slC e65 a0_6), .c (slC e77 a0_7)], .agg [.c (slC e62 ((a0_6.getD y25.toNat e65.d).1)), .c (slC e62 ((a0_6.getD y25.toNat e65.d).2))]]) (d := some 126) (r := .cell (.c (.bool r28))) (by kernel_rfl) (by kernel_rfl) (by kernel_rfl) Tryd.call52 (p52 L _ _ _ _ _ _ _ _ _ _ _ gr28) ?_
                                  refine WO_fin (σ' := [some (.lit 0 27 [.c (.int .i64 a0_0), .c (.int .i64 a0_1), .c (.int .i64 a0_2), .c (.int .i64 a0_3), .c (slC e28 a0_4), .c (slC e72 a0_5), .c (slC e65 a0_6), .c (slC e77 a0_7)])]) (T' := [(1, .cell (.op 0 0 8 0 0)), (5, .cell (.c (.int .i64 y25))), (127, .cell (.c (.bool (!r28))))]) (Φ := (True)) 1 [1, 5, 127] (by kernel_rfl) trivial (by kernel_rfl) ?_
                                  refine thenQ_n ?_
                                  refine W_cond_at (b := (!r28)) (by kernel_rfl) (fun hb => ?_) (fun hb => ?_)
                                  · have h := cond_t hb h
                                    refine W_seq_at (by kernel_rfl) ?_
                                    refine W_region_at (by kernel_rfl) ?_
                                    refine WO_fin (σ' := [some (.lit 0 27 [.c (.int .i64 a0_0), .c (.int .i64 a0_1), .c (.int .i64 a0_2), .c (.int .i64 a0_3), .c (slC e28 a0_4), .c (slC e72 a0_5), .c (slC e65 a0_6), .c (slC e77 a0_7)])]) (T' := [(2, .cell (.c (.bool false)))]) (Φ := (True)) 1 [2] (by kernel_rfl) trivial (by kernel_rfl) ?_
                                    refine thenQ_n ?_
                                    refine W_ret_at (by kernel_rfl) ?_
                                    refine blockQ_r ?_
                                    refine thenQ_r ?_
                                    obtain rfl := Option.some.inj h; refine round_r rfl (fun hb => ?_); subst hb; have h := kb26; dsimp only at h
                                    refine blockQ_r ?_
                                    obtain rfl := Option.some.inj h; have h := ky16; dsimp only at h; refine thenQ_r ?_
                                    obtain rfl := Option.some.inj h
                                    exact qret [.cell (.c (.bool false))] (by kernel_rfl) (by kernel_rfl) ([]) (by kernel_rfl)
                                  · have h := cond_f hb h
                                    refine W_skip_at (by kernel_rfl) ?_
                                    refine blockQ_n ?_
                                    refine thenQ_n ?_
                                    refine W_region_at (by kernel_rfl) ?_
                                    obtain ⟨c29, h⟩ := ck_bind h
                                    refine WO_fin (σ' := [some (.lit 0 27 [.c (.int .i64 a0_0), .c (.int .i64 a0_1), .c (.int .i64 a0_2), .c (.int .i64 a0_3), .c (slC e28 a0_4), .c (slC e72 a0_5), .c (slC e65 a0_6), .c (slC e77 a0_7)])]) (T' := [(1, .cell (.op 0 0 8 0 0)), (5, .cell (.c (.int .i64 (y25 + (1 : Int)))))]) (Φ := (inR .i64 (y25 + (1 : Int))) ∧ (True)) 3 [1, 5] (by kernel_rfl) ⟨c29, trivial⟩ (by kernel_rfl) ?_
                                    obtain rfl := Option.some.inj h
                                    exact round_n _ rfl (stps_ok [.keep [1, 5], .take 1] (by kernel_rfl))
                                · have h := cond_f hb h
                                  refine W_exit_at 4 (by kernel_rfl) (by kernel_rfl) ?_
                                  refine thenQ_e ?_
                                  obtain rfl := Option.some.inj h; refine round_e rfl (fun hb => ?_); subst hb; have h := kb26; dsimp only at h
                                  refine blockQ_hit ?_
                                  obtain rfl := Option.some.inj h
                                  exact thenQ_n ⟨_, rfl, stps_ok [.keep [1], .take 1] (by kernel_rfl)⟩
                            · have h := gy14; clear gy14
                              refine W_seq_at (by kernel_rfl) ?_
                              refine W_region_at (by kernel_rfl) ?_
                              refine WO_fin (σ' := [some (.lit 0 27 [.c (.int .i64 a0_0), .c (.int .i64 a0_1), .c (.int .i64 a0_2), .c (.int .i64 a0_3), .c (slC e28 a0_4), .c (slC e72 a0_5), .c (slC e65 a0_6), .c (slC e77 a0_7)])]) (T' := [(1, .cell (.op 0 0 8 0 0)), (4, .cell (.c (.int .i64 (0 : Int))))]) (Φ := (True)) 1 [1, 4] (by kernel_rfl) trivial (by kernel_rfl) ?_
                              refine thenQ_n ?_
                              refine W_block_at 2 (by kernel_rfl) (by kernel_rfl) ?_
                              obtain ⟨b31, gb31, kb31⟩ := bind_some h
                              refine W_loop_at (S := fun (y30 : Int) => ([some (.lit 0 27 [.c (.int .i64 a0_0), .c (.int .i64 a0_1), .c (.int .i64 a0_2), .c (.int .i64 a0_3), .c (slC e28 a0_4), .c (slC e72 a0_5), .c (slC e65 a0_6), .c (slC e77 a0_7)])], [(1, .cell (.op 0 0 8 0 0)), (4, .cell (.c (.int .i64 y30)))])) (step := _) (x0 := (0 : Int)) (b := b31) (L.ok _ _ _ gb31) (by kernel_rfl) (stps_ok [.keep [1, 4], .take 1] (by kernel_rfl)) ?_
                              clear gb31 h; intro y30 o h; unfold s15_2 at h
                              refine W_seq_at (by kernel_rfl) ?_
                              refine W_seq_at (by kernel_rfl) ?_
                              refine W_region_at (by kernel_rfl) ?_
                              refine WO_fin (σ' := [some (.lit 0 27 [.c (.int .i64 a0_0), .c (.int .i64 a0_1), .c (.int .i64 a0_2), .c (.int .i64 a0_3), .c (slC e28 a0_4), .c (slC e72 a0_5), .c (slC e65 a0_6), .c (slC e77 a0_7)])]) (T' := [(1, .cell (.op 0 0 8 0 0)), (4, .cell (.c (.int .i64 y30))), (102, .cell (.c (.bool (decide (y30 < (a0_5.length : Int))))))]) (Φ := (True)) 5 [1, 4, 102] (by kernel_rfl) trivial (by kernel_rfl) ?_
                              refine thenQ_n ?_
                              refine W_cond_at (b := (decide (y30 < (a0_5.length : Int)))) (by kernel_rfl) (fun hb => ?_) (fun hb => ?_)
                              · have h := cond_t hb h
                                refine W_skip_at (by kernel_rfl) ?_
                                refine thenQ_n ?_
                                refine W_seq_at (by kernel_rfl) ?_
                                refine W_block_at 3 (by kernel_rfl) (by kernel_rfl) ?_
                                refine W_seq_at (by kernel_rfl) ?_
                                refine W_drawK 6 (by kernel_rfl) mixed (by kernel_rfl) ?_
                                obtain ⟨c32, h⟩ := ck_bind h
                                refine WQ_exk (n' := 0) (T' := [(1, .cell (.op 0 0 8 0 0)), (4, .cell (.c (.int .i64 y30))), (105, .agg [.c (.int .i64 a0_0), .c (.int .i64 a0_1), .c (.int .i64 a0_2), .c (.int .i64 a0_3), .c (slC e28 a0_4), .c (slC e72 a0_5), .c (slC e65 a0_6), .c (slC e77 a0_7)]), (110, .agg [.c (.int .u8 ((a0_5.getD y30.toNat e72.d).1)), .c (slC e74 ((a0_5.getD y30.toNat e72.d).2))])]) (Φ := (0 ≤ y30 ∧ y30 < (a0_5.length : Int)) ∧ (True)) 6 [1, 4, 105, 110] (by kernel_rfl) ⟨c32, trivial⟩ ?_
                                refine WQ_done ?_
                                obtain ⟨r33, gr33, h⟩ := bind_some h
                                refine WO_call (f := 51) (all := [.agg [.c (.int .i64 a0_0), .c (.int .i64 a0_1), .c (.int .i64 a0_2), .c (.int .i64 a0_3), .c (slC e28 a0_4), .c (slC e72 a0_5), .c (slC e65 a0_6), .c (slC e77 a0_7)], .agg [.c (.int .u8 ((a0_5.getD y30.toNat e72.d).1)), .c (slC e74 ((a0_5.getD y30.toNat e72.d).2))]]) (d := some 111) (r := .cell (.c (.bool r33))) (by kernel_rfl) (by kernel_rfl) (by kernel_rfl) Tryd.call51 (p51 L _ _ _ _ _ _ _ _ _ _ _ gr33) ?_
                                refine WO_fin (σ' := [some (.lit 0 27 [.c (.int .i64 a0_0), .c (.int .i64 a0_1), .c (.int .i64 a0_2), .c (.int .i64 a0_3), .c (slC e28 a0_4), .c (slC e72 a0_5), .c (slC e65 a0_6), .c (slC e77 a0_7)])]) (T' := [(1, .cell (.op 0 0 8 0 0)), (4, .cell (.c (.int .i64 y30))), (112, .cell (.c (.bool (!r33))))]) (Φ := (True)) 1 [1, 4, 112] (by kernel_rfl) trivial (by kernel_rfl) ?_
                                refine thenQ_n ?_
                                refine W_cond_at (b := (!r33)) (by kernel_rfl) (fun hb => ?_) (fun hb => ?_)
                                · have h := cond_t hb h
                                  refine W_seq_at (by kernel_rfl) ?_
                                  refine W_region_at (by kernel_rfl) ?_
                                  refine WO_fin (σ' := [some (.lit 0 27 [.c (.int .i64 a0_0), .c (.int .i64 a0_1), .c (.int .i64 a0_2), .c (.int .i64 a0_3), .c (slC e28 a0_4), .c (slC e72 a0_5), .c (slC e65 a0_6), .c (slC e77 a0_7)])]) (T' := [(2, .cell (.c (.bool false)))]) (Φ := (True)) 1 [2] (by kernel_rfl) trivial (by kernel_rfl) ?_
                                  refine thenQ_n ?_
                                  refine W_ret_at (by kernel_rfl) ?_
                                  refine blockQ_r ?_
                                  refine thenQ_r ?_
                                  obtain rfl := Option.some.inj h; refine round_r rfl (fun hb => ?_); subst hb; have h := kb31; dsimp only at h
                                  refine blockQ_r ?_
                                  obtain rfl := Option.some.inj h; have h := ky14; dsimp only at h; refine thenQ_r ?_
                                  obtain rfl := Option.some.inj h
                                  exact qret [.cell (.c (.bool false))] (by kernel_rfl) (by kernel_rfl) ([]) (by kernel_rfl)
                                · have h := cond_f hb h
                                  refine W_skip_at (by kernel_rfl) ?_
                                  refine blockQ_n ?_
                                  refine thenQ_n ?_
                                  refine W_region_at (by kernel_rfl) ?_
                                  obtain ⟨c34, h⟩ := ck_bind h
                                  refine WO_fin (σ' := [some (.lit 0 27 [.c (.int .i64 a0_0), .c (.int .i64 a0_1), .c (.int .i64 a0_2), .c (.int .i64 a0_3), .c (slC e28 a0_4), .c (slC e72 a0_5), .c (slC e65 a0_6), .c (slC e77 a0_7)])]) (T' := [(1, .cell (.op 0 0 8 0 0)), (4, .cell (.c (.int .i64 (y30 + (1 : Int)))))]) (Φ := (inR .i64 (y30 + (1 : Int))) ∧ (True)) 3 [1, 4] (by kernel_rfl) ⟨c34, trivial⟩ (by kernel_rfl) ?_
                                  obtain rfl := Option.some.inj h
                                  exact round_n _ rfl (stps_ok [.keep [1, 4], .take 1] (by kernel_rfl))
                              · have h := cond_f hb h
                                refine W_exit_at 2 (by kernel_rfl) (by kernel_rfl) ?_
                                refine thenQ_e ?_
                                obtain rfl := Option.some.inj h; refine round_e rfl (fun hb => ?_); subst hb; have h := kb31; dsimp only at h
                                refine blockQ_hit ?_
                                obtain rfl := Option.some.inj h
                                exact thenQ_n ⟨_, rfl, stps_ok [.keep [1], .take 1] (by kernel_rfl)⟩
                          · have h := gy12; clear gy12
                            refine W_seq_at (by kernel_rfl) ?_
                            refine W_region_at (by kernel_rfl) ?_
                            refine WO_fin (σ' := [some (.lit 0 27 [.c (.int .i64 a0_0), .c (.int .i64 a0_1), .c (.int .i64 a0_2), .c (.int .i64 a0_3), .c (slC e28 a0_4), .c (slC e72 a0_5), .c (slC e65 a0_6), .c (slC e77 a0_7)])]) (T' := [(1, .cell (.op 0 0 8 0 0)), (3, .cell (.c (.int .i64 (0 : Int))))]) (Φ := (True)) 1 [1, 3] (by kernel_rfl) trivial (by kernel_rfl) ?_
                            refine thenQ_n ?_
                            refine W_block_at 0 (by kernel_rfl) (by kernel_rfl) ?_
                            obtain ⟨b36, gb36, kb36⟩ := bind_some h
                            refine W_loop_at (S := fun (y35 : Int) => ([some (.lit 0 27 [.c (.int .i64 a0_0), .c (.int .i64 a0_1), .c (.int .i64 a0_2), .c (.int .i64 a0_3), .c (slC e28 a0_4), .c (slC e72 a0_5), .c (slC e65 a0_6), .c (slC e77 a0_7)])], [(1, .cell (.op 0 0 8 0 0)), (3, .cell (.c (.int .i64 y35)))])) (step := _) (x0 := (0 : Int)) (b := b36) (L.ok _ _ _ gb36) (by kernel_rfl) (stps_ok [.keep [1, 3], .take 1] (by kernel_rfl)) ?_
                            clear gb36 h; intro y35 o h; unfold s15_3 at h
                            refine W_seq_at (by kernel_rfl) ?_
                            refine W_seq_at (by kernel_rfl) ?_
                            refine W_region_at (by kernel_rfl) ?_
                            refine WO_fin (σ' := [some (.lit 0 27 [.c (.int .i64 a0_0), .c (.int .i64 a0_1), .c (.int .i64 a0_2), .c (.int .i64 a0_3), .c (slC e28 a0_4), .c (slC e72 a0_5), .c (slC e65 a0_6), .c (slC e77 a0_7)])]) (T' := [(1, .cell (.op 0 0 8 0 0)), (3, .cell (.c (.int .i64 y35))), (75, .cell (.c (.bool (decide (y35 < (a0_4.length : Int))))))]) (Φ := (True)) 5 [1, 3, 75] (by kernel_rfl) trivial (by kernel_rfl) ?_
                            refine thenQ_n ?_
                            refine W_cond_at (b := (decide (y35 < (a0_4.length : Int)))) (by kernel_rfl) (fun hb => ?_) (fun hb => ?_)
                            · have h := cond_t hb h
                              refine W_skip_at (by kernel_rfl) ?_
                              refine thenQ_n ?_
                              refine W_seq_at (by kernel_rfl) ?_
                              refine W_block_at 1 (by kernel_rfl) (by kernel_rfl) ?_
                              refine W_seq_at (by kernel_rfl) ?_
                              refine W_drawK 20 (by kernel_rfl) mixed (by kernel_rfl) ?_
                              obtain ⟨c37, h⟩ := ck_bind h
                              refine WQ_exk (n' := 13) (T' := [(1, .cell (.op 0 0 8 0 0)), (3, .cell (.c (.int .i64 y35))), (83, .cell (.c (.int .i64 ((a0_4.getD y35.toNat e28.d).length : Int)))), (84, .agg [.c (.int .i64 a0_0), .c (.int .i64 a0_1), .c (.int .i64 a0_2), .c (.int .i64 a0_3), .c (slC e28 a0_4), .c (slC e72 a0_5), .c (slC e65 a0_6), .c (slC e77 a0_7)])]) (Φ := (0 ≤ y35 ∧ y35 < (a0_4.length : Int)) ∧ (True)) 7 [1, 3, 83, 84] (by kernel_rfl) ⟨c37, trivial⟩ ?_
                              obtain ⟨r38, gr38, h⟩ := bind_some h
                              refine WQ_call (f := 28) (all := [.agg [.c (.int .i64 a0_0), .c (.int .i64 a0_1), .c (.int .i64 a0_2), .c (.int .i64 a0_3), .c (slC e28 a0_4), .c (slC e72 a0_5), .c (slC e65 a0_6), .c (slC e77 a0_7)]]) (d := some 85) (r := .cell (.c (.int .i64 r38))) (by kernel_rfl) (by kernel_rfl) (by kernel_rfl) Tryd.call28 (p28 L _ _ _ _ _ _ _ _ _ gr38) ?_
                              refine WQ_exk (n' := 10) (T' := [(1, .cell (.op 0 0 8 0 0)), (3, .cell (.c (.int .i64 y35))), (87, .cell (.c (.bool (!(decide (((a0_4.getD y35.toNat e28.d).length : Int) = r38))))))]) (Φ := (True)) 2 [1, 3, 87] (by kernel_rfl) trivial ?_
                              obtain ⟨y39, gy39, h⟩ := bind_some h
                              refine WQ_join 0 20 [(1, .cell (.op 0 0 8 0 0)), (3, .cell (.c (.int .i64 y35))), (97, .cell (.c (.bool y39)))] ?_ ?_
                              · clear gy39
                                refine WQ_done ?_
                                refine WO_fin (σ' := [some (.lit 0 27 [.c (.int .i64 a0_0), .c (.int .i64 a0_1), .c (.int .i64 a0_2), .c (.int .i64 a0_3), .c (slC e28 a0_4), .c (slC e72 a0_5), .c (slC e65 a0_6), .c (slC e77 a0_7)])]) (T' := [(1, .cell (.op 0 0 8 0 0)), (3, .cell (.c (.int .i64 y35))), (97, .cell (.c (.bool y39)))]) (Φ := True) 0 [1, 3, 97] (by kernel_rfl) trivial (by kernel_rfl) ?_
                                refine thenQ_n ?_
                                refine W_cond_at (b := y39) (by kernel_rfl) (fun hb => ?_) (fun hb => ?_)
                                · have h := cond_t hb h
                                  refine W_seq_at (by kernel_rfl) ?_
                                  refine W_region_at (by kernel_rfl) ?_
                                  refine WO_fin (σ' := [some (.lit 0 27 [.c (.int .i64 a0_0), .c (.int .i64 a0_1), .c (.int .i64 a0_2), .c (.int .i64 a0_3), .c (slC e28 a0_4), .c (slC e72 a0_5), .c (slC e65 a0_6), .c (slC e77 a0_7)])]) (T' := [(2, .cell (.c (.bool false)))]) (Φ := (True)) 1 [2] (by kernel_rfl) trivial (by kernel_rfl) ?_
                                  refine thenQ_n ?_
                                  refine W_ret_at (by kernel_rfl) ?_
                                  refine blockQ_r ?_
                                  refine thenQ_r ?_
                                  obtain rfl := Option.some.inj h; refine round_r rfl (fun hb => ?_); subst hb; have h := kb36; dsimp only at h
                                  refine blockQ_r ?_
                                  obtain rfl := Option.some.inj h; have h := ky12; dsimp only at h; refine thenQ_r ?_
                                  obtain rfl := Option.some.inj h
                                  exact qret [.cell (.c (.bool false))] (by kernel_rfl) (by kernel_rfl) ([]) (by kernel_rfl)
                                · have h := cond_f hb h
                                  refine W_skip_at (by kernel_rfl) ?_
                                  refine blockQ_n ?_
                                  refine thenQ_n ?_
                                  refine W_region_at (by kernel_rfl) ?_
                                  obtain ⟨c40, h⟩ := ck_bind h
                                  refine WO_fin (σ' := [some (.lit 0 27 [.c (.int .i64 a0_0), .c (.int .i64 a0_1), .c (.int .i64 a0_2), .c (.int .i64 a0_3), .c (slC e28 a0_4), .c (slC e72 a0_5), .c (slC e65 a0_6), .c (slC e77 a0_7)])]) (T' := [(1, .cell (.op 0 0 8 0 0)), (3, .cell (.c (.int .i64 (y35 + (1 : Int)))))]) (Φ := (inR .i64 (y35 + (1 : Int))) ∧ (True)) 3 [1, 3] (by kernel_rfl) ⟨c40, trivial⟩ (by kernel_rfl) ?_
                                  obtain rfl := Option.some.inj h
                                  exact round_n _ rfl (stps_ok [.keep [1, 3], .take 1] (by kernel_rfl))
                              · intro J
                                clear h
                                rcases Bool.eq_false_or_eq_true (!(decide (((a0_4.getD y35.toNat e28.d).length : Int) = r38))) with hb | hb
                                · have h := cond_t hb gy39; clear gy39
                                  refine WQ_bool (T' := [(87, .cell (.c (.bool true))), (1, .cell (.op 0 0 8 0 0)), (3, .cell (.c (.int .i64 y35)))]) 87 hb (by kernel_rfl) (by kernel_rfl) ?_
                                  obtain rfl := Option.some.inj h
                                  refine WQ_exk (n' := 0) (T' := [(1, .cell (.op 0 0 8 0 0)), (3, .cell (.c (.int .i64 y35))), (97, .cell (.c (.bool true)))]) (Φ := True) 10 [1, 3, 97] (by kernel_rfl) trivial J
                                · have h := cond_f hb gy39; clear gy39
                                  refine WQ_bool (T' := [(87, .cell (.c (.bool false))), (1, .cell (.op 0 0 8 0 0)), (3, .cell (.c (.int .i64 y35)))]) 87 hb (by kernel_rfl) (by kernel_rfl) ?_
                                  obtain ⟨c41, h⟩ := ck_bind h
                                  refine WQ_exk (n' := 3) (T' := [(1, .cell (.op 0 0 8 0 0)), (3, .cell (.c (.int .i64 y35))), (87, .cell (.c (.bool false))), (88, .cell (.op 0 0 8 0 0)), (89, .cell (.c (.int .i64 a0_0))), (90, .cell (.op 0 0 8 0 4)), (91, .cell (.c (slC e28 a0_4))), (92, .cell (.c (.int .i64 y35))), (93, .cell (.c (ptC e28 a0_4 y35 0))), (94, .cell (.c (slC e44 (a0_4.getD y35.toNat e28.d))))]) (Φ := (0 ≤ y35 ∧ y35 < (a0_4.length : Int)) ∧ (True)) 7 [1, 3, 87, 88, 89, 90, 91, 92, 93, 94] (by kernel_rfl) ⟨c41, trivial⟩ ?_
                                  obtain ⟨r42, gr42, h⟩ := bind_some h
                                  refine WQ_call (f := 50) (all := [.cell (.c (.int .i64 a0_0)), .cell (.c (slC e44 (a0_4.getD y35.toNat e28.d)))]) (d := some 95) (r := .cell (.c (.bool r42))) (by kernel_rfl) (by kernel_rfl) (by kernel_rfl) Tryd.call50 (p50 L _ _ _ gr42) ?_
                                  refine WQ_exk (n' := 1) (T' := [(1, .cell (.op 0 0 8 0 0)), (3, .cell (.c (.int .i64 y35))), (87, .cell (.c (.bool false))), (88, .cell (.op 0 0 8 0 0)), (89, .cell (.c (.int .i64 a0_0))), (90, .cell (.op 0 0 8 0 4)), (91, .cell (.c (slC e28 a0_4))), (92, .cell (.c (.int .i64 y35))), (93, .cell (.c (ptC e28 a0_4 y35 0))), (94, .cell (.c (slC e44 (a0_4.getD y35.toNat e28.d)))), (95, .cell (.c (.bool r42))), (96, .cell (.c (.bool (!r42))))]) (Φ := (True)) 1 [1, 3, 87, 88, 89, 90, 91, 92, 93, 94, 95, 96] (by kernel_rfl) trivial ?_
                                  obtain rfl := Option.some.inj h
                                  refine WQ_exk (n' := 0) (T' := [(1, .cell (.op 0 0 8 0 0)), (3, .cell (.c (.int .i64 y35))), (97, .cell (.c (.bool (!r42))))]) (Φ := True) 1 [1, 3, 97] (by kernel_rfl) trivial J
                            · have h := cond_f hb h
                              refine W_exit_at 0 (by kernel_rfl) (by kernel_rfl) ?_
                              refine thenQ_e ?_
                              obtain rfl := Option.some.inj h; refine round_e rfl (fun hb => ?_); subst hb; have h := kb36; dsimp only at h
                              refine blockQ_hit ?_
                              obtain rfl := Option.some.inj h
                              exact thenQ_n ⟨_, rfl, stps_ok [.keep [1], .take 1] (by kernel_rfl)⟩
                      · intro J
                        clear h
                        rcases Bool.eq_false_or_eq_true y10 with hb | hb
                        · have h := cond_t hb gy11; clear gy11
                          refine WO_ent (ent_bool (T' := [(65, .cell (.c (.bool true))), (1, .cell (.op 0 0 8 0 0))]) 65 hb (by kernel_rfl) (by kernel_rfl)) ?_
                          obtain rfl := Option.some.inj h
                          refine WO_exk (σ' := [some (.lit 0 27 [.c (.int .i64 a0_0), .c (.int .i64 a0_1), .c (.int .i64 a0_2), .c (.int .i64 a0_3), .c (slC e28 a0_4), .c (slC e72 a0_5), .c (slC e65 a0_6), .c (slC e77 a0_7)])]) (T' := [(1, .cell (.op 0 0 8 0 0)), (70, .cell (.c (.bool true)))]) (Φ := True) 5 [1, 70] (by kernel_rfl) trivial J
                        · have h := cond_f hb gy11; clear gy11
                          refine WO_ent (ent_bool (T' := [(65, .cell (.c (.bool false))), (1, .cell (.op 0 0 8 0 0))]) 65 hb (by kernel_rfl) (by kernel_rfl)) ?_
                          refine WO_exk (σ' := [some (.lit 0 27 [.c (.int .i64 a0_0), .c (.int .i64 a0_1), .c (.int .i64 a0_2), .c (.int .i64 a0_3), .c (slC e28 a0_4), .c (slC e72 a0_5), .c (slC e65 a0_6), .c (slC e77 a0_7)])]) (T' := [(1, .cell (.op 0 0 8 0 0)), (65, .cell (.c (.bool false))), (69, .cell (.c (.bool (decide ((a0_7.length : Int) > (8 : Int))))))]) (Φ := (True)) 4 [1, 65, 69] (by kernel_rfl) trivial ?_
                          obtain rfl := Option.some.inj h
                          refine WO_exk (σ' := [some (.lit 0 27 [.c (.int .i64 a0_0), .c (.int .i64 a0_1), .c (.int .i64 a0_2), .c (.int .i64 a0_3), .c (slC e28 a0_4), .c (slC e72 a0_5), .c (slC e65 a0_6), .c (slC e77 a0_7)])]) (T' := [(1, .cell (.op 0 0 8 0 0)), (70, .cell (.c (.bool (decide ((a0_7.length : Int) > (8 : Int))))))]) (Φ := True) 1 [1, 70] (by kernel_rfl) trivial J
                    · intro J
                      clear h
                      rcases Bool.eq_false_or_eq_true y9 with hb | hb
                      · have h := cond_t hb gy10; clear gy10
                        refine WO_ent (ent_bool (T' := [(59, .cell (.c (.bool true))), (1, .cell (.op 0 0 8 0 0))]) 59 hb (by kernel_rfl) (by kernel_rfl)) ?_
                        obtain rfl := Option.some.inj h
                        refine WO_exk (σ' := [some (.lit 0 27 [.c (.int .i64 a0_0), .c (.int .i64 a0_1), .c (.int .i64 a0_2), .c (.int .i64 a0_3), .c (slC e28 a0_4), .c (slC e72 a0_5), .c (slC e65 a0_6), .c (slC e77 a0_7)])]) (T' := [(1, .cell (.op 0 0 8 0 0)), (64, .cell (.c (.bool true)))]) (Φ := True) 5 [1, 64] (by kernel_rfl) trivial J
                      · have h := cond_f hb gy10; clear gy10
                        refine WO_ent (ent_bool (T' := [(59, .cell (.c (.bool false))), (1, .cell (.op 0 0 8 0 0))]) 59 hb (by kernel_rfl) (by kernel_rfl)) ?_
                        refine WO_exk (σ' := [some (.lit 0 27 [.c (.int .i64 a0_0), .c (.int .i64 a0_1), .c (.int .i64 a0_2), .c (.int .i64 a0_3), .c (slC e28 a0_4), .c (slC e72 a0_5), .c (slC e65 a0_6), .c (slC e77 a0_7)])]) (T' := [(1, .cell (.op 0 0 8 0 0)), (59, .cell (.c (.bool false))), (63, .cell (.c (.bool (decide ((a0_6.length : Int) > (4 : Int))))))]) (Φ := (True)) 4 [1, 59, 63] (by kernel_rfl) trivial ?_
                        obtain rfl := Option.some.inj h
                        refine WO_exk (σ' := [some (.lit 0 27 [.c (.int .i64 a0_0), .c (.int .i64 a0_1), .c (.int .i64 a0_2), .c (.int .i64 a0_3), .c (slC e28 a0_4), .c (slC e72 a0_5), .c (slC e65 a0_6), .c (slC e77 a0_7)])]) (T' := [(1, .cell (.op 0 0 8 0 0)), (64, .cell (.c (.bool (decide ((a0_6.length : Int) > (4 : Int))))))]) (Φ := True) 1 [1, 64] (by kernel_rfl) trivial J
                  · intro J
                    clear h
                    rcases Bool.eq_false_or_eq_true (decide ((a0_4.length : Int) > (64 : Int))) with hb | hb
                    · have h := cond_t hb gy9; clear gy9
                      refine WO_ent (ent_bool (T' := [(53, .cell (.c (.bool true))), (1, .cell (.op 0 0 8 0 0))]) 53 hb (by kernel_rfl) (by kernel_rfl)) ?_
                      obtain rfl := Option.some.inj h
                      refine WO_exk (σ' := [some (.lit 0 27 [.c (.int .i64 a0_0), .c (.int .i64 a0_1), .c (.int .i64 a0_2), .c (.int .i64 a0_3), .c (slC e28 a0_4), .c (slC e72 a0_5), .c (slC e65 a0_6), .c (slC e77 a0_7)])]) (T' := [(1, .cell (.op 0 0 8 0 0)), (58, .cell (.c (.bool true)))]) (Φ := True) 5 [1, 58] (by kernel_rfl) trivial J
                    · have h := cond_f hb gy9; clear gy9
                      refine WO_ent (ent_bool (T' := [(53, .cell (.c (.bool false))), (1, .cell (.op 0 0 8 0 0))]) 53 hb (by kernel_rfl) (by kernel_rfl)) ?_
                      refine WO_exk (σ' := [some (.lit 0 27 [.c (.int .i64 a0_0), .c (.int .i64 a0_1), .c (.int .i64 a0_2), .c (.int .i64 a0_3), .c (slC e28 a0_4), .c (slC e72 a0_5), .c (slC e65 a0_6), .c (slC e77 a0_7)])]) (T' := [(1, .cell (.op 0 0 8 0 0)), (53, .cell (.c (.bool false))), (57, .cell (.c (.bool (decide ((a0_5.length : Int) > (64 : Int))))))]) (Φ := (True)) 4 [1, 53, 57] (by kernel_rfl) trivial ?_
                      obtain rfl := Option.some.inj h
                      refine WO_exk (σ' := [some (.lit 0 27 [.c (.int .i64 a0_0), .c (.int .i64 a0_1), .c (.int .i64 a0_2), .c (.int .i64 a0_3), .c (slC e28 a0_4), .c (slC e72 a0_5), .c (slC e65 a0_6), .c (slC e77 a0_7)])]) (T' := [(1, .cell (.op 0 0 8 0 0)), (58, .cell (.c (.bool (decide ((a0_5.length : Int) > (64 : Int))))))]) (Φ := True) 1 [1, 58] (by kernel_rfl) trivial J
              · intro J
                clear h
                rcases Bool.eq_false_or_eq_true y7 with hb | hb
                · have h := cond_t hb gy8; clear gy8
                  refine WO_ent (ent_bool (T' := [(44, .cell (.c (.bool true))), (1, .cell (.op 0 0 8 0 0))]) 44 hb (by kernel_rfl) (by kernel_rfl)) ?_
                  obtain rfl := Option.some.inj h
                  refine WO_exk (σ' := [some (.lit 0 27 [.c (.int .i64 a0_0), .c (.int .i64 a0_1), .c (.int .i64 a0_2), .c (.int .i64 a0_3), .c (slC e28 a0_4), .c (slC e72 a0_5), .c (slC e65 a0_6), .c (slC e77 a0_7)])]) (T' := [(1, .cell (.op 0 0 8 0 0)), (48, .cell (.c (.bool true)))]) (Φ := True) 4 [1, 48] (by kernel_rfl) trivial J
                · have h := cond_f hb gy8; clear gy8
                  refine WO_ent (ent_bool (T' := [(44, .cell (.c (.bool false))), (1, .cell (.op 0 0 8 0 0))]) 44 hb (by kernel_rfl) (by kernel_rfl)) ?_
                  refine WO_exk (σ' := [some (.lit 0 27 [.c (.int .i64 a0_0), .c (.int .i64 a0_1), .c (.int .i64 a0_2), .c (.int .i64 a0_3), .c (slC e28 a0_4), .c (slC e72 a0_5), .c (slC e65 a0_6), .c (slC e77 a0_7)])]) (T' := [(1, .cell (.op 0 0 8 0 0)), (44, .cell (.c (.bool false))), (47, .cell (.c (.bool (decide (a0_3 > (16 : Int))))))]) (Φ := (True)) 3 [1, 44, 47] (by kernel_rfl) trivial ?_
                  obtain rfl := Option.some.inj h
                  refine WO_exk (σ' := [some (.lit 0 27 [.c (.int .i64 a0_0), .c (.int .i64 a0_1), .c (.int .i64 a0_2), .c (.int .i64 a0_3), .c (slC e28 a0_4), .c (slC e72 a0_5), .c (slC e65 a0_6), .c (slC e77 a0_7)])]) (T' := [(1, .cell (.op 0 0 8 0 0)), (48, .cell (.c (.bool (decide (a0_3 > (16 : Int))))))]) (Φ := True) 1 [1, 48] (by kernel_rfl) trivial J
            · intro J
              clear h
              rcases Bool.eq_false_or_eq_true y6 with hb | hb
              · have h := cond_t hb gy7; clear gy7
                refine WO_ent (ent_bool (T' := [(39, .cell (.c (.bool true))), (1, .cell (.op 0 0 8 0 0))]) 39 hb (by kernel_rfl) (by kernel_rfl)) ?_
                obtain rfl := Option.some.inj h
                refine WO_exk (σ' := [some (.lit 0 27 [.c (.int .i64 a0_0), .c (.int .i64 a0_1), .c (.int .i64 a0_2), .c (.int .i64 a0_3), .c (slC e28 a0_4), .c (slC e72 a0_5), .c (slC e65 a0_6), .c (slC e77 a0_7)])]) (T' := [(1, .cell (.op 0 0 8 0 0)), (43, .cell (.c (.bool true)))]) (Φ := True) 4 [1, 43] (by kernel_rfl) trivial J
              · have h := cond_f hb gy7; clear gy7
                refine WO_ent (ent_bool (T' := [(39, .cell (.c (.bool false))), (1, .cell (.op 0 0 8 0 0))]) 39 hb (by kernel_rfl) (by kernel_rfl)) ?_
                refine WO_exk (σ' := [some (.lit 0 27 [.c (.int .i64 a0_0), .c (.int .i64 a0_1), .c (.int .i64 a0_2), .c (.int .i64 a0_3), .c (slC e28 a0_4), .c (slC e72 a0_5), .c (slC e65 a0_6), .c (slC e77 a0_7)])]) (T' := [(1, .cell (.op 0 0 8 0 0)), (39, .cell (.c (.bool false))), (42, .cell (.c (.bool (decide (a0_3 < (0 : Int))))))]) (Φ := (True)) 3 [1, 39, 42] (by kernel_rfl) trivial ?_
                obtain rfl := Option.some.inj h
                refine WO_exk (σ' := [some (.lit 0 27 [.c (.int .i64 a0_0), .c (.int .i64 a0_1), .c (.int .i64 a0_2), .c (.int .i64 a0_3), .c (slC e28 a0_4), .c (slC e72 a0_5), .c (slC e65 a0_6), .c (slC e77 a0_7)])]) (T' := [(1, .cell (.op 0 0 8 0 0)), (43, .cell (.c (.bool (decide (a0_3 < (0 : Int))))))]) (Φ := True) 1 [1, 43] (by kernel_rfl) trivial J
          · intro J
            clear h
            rcases Bool.eq_false_or_eq_true y5 with hb | hb
            · have h := cond_t hb gy6; clear gy6
              refine WO_ent (ent_bool (T' := [(34, .cell (.c (.bool true))), (1, .cell (.op 0 0 8 0 0))]) 34 hb (by kernel_rfl) (by kernel_rfl)) ?_
              obtain rfl := Option.some.inj h
              refine WO_exk (σ' := [some (.lit 0 27 [.c (.int .i64 a0_0), .c (.int .i64 a0_1), .c (.int .i64 a0_2), .c (.int .i64 a0_3), .c (slC e28 a0_4), .c (slC e72 a0_5), .c (slC e65 a0_6), .c (slC e77 a0_7)])]) (T' := [(1, .cell (.op 0 0 8 0 0)), (38, .cell (.c (.bool true)))]) (Φ := True) 4 [1, 38] (by kernel_rfl) trivial J
            · have h := cond_f hb gy6; clear gy6
              refine WO_ent (ent_bool (T' := [(34, .cell (.c (.bool false))), (1, .cell (.op 0 0 8 0 0))]) 34 hb (by kernel_rfl) (by kernel_rfl)) ?_
              refine WO_exk (σ' := [some (.lit 0 27 [.c (.int .i64 a0_0), .c (.int .i64 a0_1), .c (.int .i64 a0_2), .c (.int .i64 a0_3), .c (slC e28 a0_4), .c (slC e72 a0_5), .c (slC e65 a0_6), .c (slC e77 a0_7)])]) (T' := [(1, .cell (.op 0 0 8 0 0)), (34, .cell (.c (.bool false))), (37, .cell (.c (.bool (decide (a0_2 > (64 : Int))))))]) (Φ := (True)) 3 [1, 34, 37] (by kernel_rfl) trivial ?_
              obtain rfl := Option.some.inj h
              refine WO_exk (σ' := [some (.lit 0 27 [.c (.int .i64 a0_0), .c (.int .i64 a0_1), .c (.int .i64 a0_2), .c (.int .i64 a0_3), .c (slC e28 a0_4), .c (slC e72 a0_5), .c (slC e65 a0_6), .c (slC e77 a0_7)])]) (T' := [(1, .cell (.op 0 0 8 0 0)), (38, .cell (.c (.bool (decide (a0_2 > (64 : Int))))))]) (Φ := True) 1 [1, 38] (by kernel_rfl) trivial J
        · intro J
          clear h
          rcases Bool.eq_false_or_eq_true y4 with hb | hb
          · have h := cond_t hb gy5; clear gy5
            refine WO_ent (ent_bool (T' := [(29, .cell (.c (.bool true))), (1, .cell (.op 0 0 8 0 0))]) 29 hb (by kernel_rfl) (by kernel_rfl)) ?_
            obtain rfl := Option.some.inj h
            refine WO_exk (σ' := [some (.lit 0 27 [.c (.int .i64 a0_0), .c (.int .i64 a0_1), .c (.int .i64 a0_2), .c (.int .i64 a0_3), .c (slC e28 a0_4), .c (slC e72 a0_5), .c (slC e65 a0_6), .c (slC e77 a0_7)])]) (T' := [(1, .cell (.op 0 0 8 0 0)), (33, .cell (.c (.bool true)))]) (Φ := True) 4 [1, 33] (by kernel_rfl) trivial J
          · have h := cond_f hb gy5; clear gy5
            refine WO_ent (ent_bool (T' := [(29, .cell (.c (.bool false))), (1, .cell (.op 0 0 8 0 0))]) 29 hb (by kernel_rfl) (by kernel_rfl)) ?_
            refine WO_exk (σ' := [some (.lit 0 27 [.c (.int .i64 a0_0), .c (.int .i64 a0_1), .c (.int .i64 a0_2), .c (.int .i64 a0_3), .c (slC e28 a0_4), .c (slC e72 a0_5), .c (slC e65 a0_6), .c (slC e77 a0_7)])]) (T' := [(1, .cell (.op 0 0 8 0 0)), (29, .cell (.c (.bool false))), (32, .cell (.c (.bool (decide (a0_2 < (1 : Int))))))]) (Φ := (True)) 3 [1, 29, 32] (by kernel_rfl) trivial ?_
            obtain rfl := Option.some.inj h
            refine WO_exk (σ' := [some (.lit 0 27 [.c (.int .i64 a0_0), .c (.int .i64 a0_1), .c (.int .i64 a0_2), .c (.int .i64 a0_3), .c (slC e28 a0_4), .c (slC e72 a0_5), .c (slC e65 a0_6), .c (slC e77 a0_7)])]) (T' := [(1, .cell (.op 0 0 8 0 0)), (33, .cell (.c (.bool (decide (a0_2 < (1 : Int))))))]) (Φ := True) 1 [1, 33] (by kernel_rfl) trivial J
      · intro J
        clear h
        rcases Bool.eq_false_or_eq_true y3 with hb | hb
        · have h := cond_t hb gy4; clear gy4
          refine WQ_bool (T' := [(21, .cell (.c (.bool true))), (1, .cell (.op 0 0 8 0 0))]) 21 hb (by kernel_rfl) (by kernel_rfl) ?_
          obtain rfl := Option.some.inj h
          refine WQ_exk (n' := 0) (T' := [(1, .cell (.op 0 0 8 0 0)), (28, .cell (.c (.bool true)))]) (Φ := True) 7 [1, 28] (by kernel_rfl) trivial J
        · have h := cond_f hb gy4; clear gy4
          refine WQ_bool (T' := [(21, .cell (.c (.bool false))), (1, .cell (.op 0 0 8 0 0))]) 21 hb (by kernel_rfl) (by kernel_rfl) ?_
          refine WQ_exk (n' := 3) (T' := [(1, .cell (.op 0 0 8 0 0)), (21, .cell (.c (.bool false))), (23, .cell (.c (.int .i64 a0_1))), (25, .cell (.c (.int .i64 a0_0)))]) (Φ := (True)) 4 [1, 21, 23, 25] (by kernel_rfl) trivial ?_
          obtain ⟨r43, gr43, h⟩ := bind_some h
          refine WQ_call (f := 49) (all := [.cell (.c (.int .i64 a0_0))]) (d := some 26) (r := .cell (.c (.int .i64 r43))) (by kernel_rfl) (by kernel_rfl) (by kernel_rfl) Tryd.call49 (p49 L _ _ gr43) ?_
          refine WQ_exk (n' := 1) (T' := [(1, .cell (.op 0 0 8 0 0)), (21, .cell (.c (.bool false))), (27, .cell (.c (.bool (decide (a0_1 > r43)))))]) (Φ := (True)) 1 [1, 21, 27] (by kernel_rfl) trivial ?_
          obtain rfl := Option.some.inj h
          refine WQ_exk (n' := 0) (T' := [(1, .cell (.op 0 0 8 0 0)), (28, .cell (.c (.bool (decide (a0_1 > r43)))))]) (Φ := True) 1 [1, 28] (by kernel_rfl) trivial J
    · intro J
      clear h
      rcases Bool.eq_false_or_eq_true y2 with hb | hb
      · have h := cond_t hb gy3; clear gy3
        refine WQ_bool (T' := [(16, .cell (.c (.bool true))), (1, .cell (.op 0 0 8 0 0))]) 16 hb (by kernel_rfl) (by kernel_rfl) ?_
        obtain rfl := Option.some.inj h
        refine WQ_exk (n' := 8) (T' := [(1, .cell (.op 0 0 8 0 0)), (20, .cell (.c (.bool true)))]) (Φ := True) 4 [1, 20] (by kernel_rfl) trivial J
      · have h := cond_f hb gy3; clear gy3
        refine WQ_bool (T' := [(16, .cell (.c (.bool false))), (1, .cell (.op 0 0 8 0 0))]) 16 hb (by kernel_rfl) (by kernel_rfl) ?_
        refine WQ_exk (n' := 9) (T' := [(1, .cell (.op 0 0 8 0 0)), (16, .cell (.c (.bool false))), (19, .cell (.c (.bool (decide (a0_1 > (13 : Int))))))]) (Φ := (True)) 3 [1, 16, 19] (by kernel_rfl) trivial ?_
        obtain rfl := Option.some.inj h
        refine WQ_exk (n' := 8) (T' := [(1, .cell (.op 0 0 8 0 0)), (20, .cell (.c (.bool (decide (a0_1 > (13 : Int))))))]) (Φ := True) 1 [1, 20] (by kernel_rfl) trivial J
  · intro J
    clear h
    rcases Bool.eq_false_or_eq_true (!r1) with hb | hb
    · have h := cond_t hb gy2; clear gy2
      refine WQ_bool (T' := [(11, .cell (.c (.bool true))), (1, .cell (.op 0 0 8 0 0))]) 11 hb (by kernel_rfl) (by kernel_rfl) ?_
      obtain rfl := Option.some.inj h
      refine WQ_exk (n' := 13) (T' := [(1, .cell (.op 0 0 8 0 0)), (15, .cell (.c (.bool true)))]) (Φ := True) 4 [1, 15] (by kernel_rfl) trivial J
    · have h := cond_f hb gy2; clear gy2
      refine WQ_bool (T' := [(11, .cell (.c (.bool false))), (1, .cell (.op 0 0 8 0 0))]) 11 hb (by kernel_rfl) (by kernel_rfl) ?_
      refine WQ_exk (n' := 14) (T' := [(1, .cell (.op 0 0 8 0 0)), (11, .cell (.c (.bool false))), (14, .cell (.c (.bool (decide (a0_1 < (1 : Int))))))]) (Φ := (True)) 3 [1, 11, 14] (by kernel_rfl) trivial ?_
      obtain rfl := Option.some.inj h
      refine WQ_exk (n' := 13) (T' := [(1, .cell (.op 0 0 8 0 0)), (15, .cell (.c (.bool (decide (a0_1 < (1 : Int))))))]) (Φ := True) 1 [1, 15] (by kernel_rfl) trivial J

end Go.Proofs.YtkbpafipbhaknaaDoor
