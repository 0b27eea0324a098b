/- What functions compute. -/
import Derived.Test.YtkbpafipbhaknaaDoorQ3S1
namespace Go.Proofs.YtkbpafipbhaknaaDoor
open Go Go.Av
set_option maxRecDepth 100000
set_option linter.unusedVariables false
/- system.looked -/
def s65 (L : LP) (a0_0 : Int) (a0_1 : Int) (a0_2 : Int) (a0_3 : Int) (a0_4 : (List (List Int))) (a0_5 : (List (Int × (List (Int × (List (Int × Int))))))) (a0_6 : (List ((List (List (Int × Int))) × (List (List (Int × Int)))))) (a0_7 : (List ((List (Int × Int)) × (List (Int × Int)) × Int × Int))) (a1_0 : (List (Int × Int))) (a1_1 : (List (Int × Int))) (a1_2 : Int) (a1_3 : Int) : Option Bool :=
  (s45 L (a1_0.length : Int) (1 : Int) (4 : Int)).bind fun r1 =>
  (bif r1 then some (decide (a1_2 = (1 : Int)))
  else some false).bind fun y2 =>
  (bif y2 then (s109 L a0_0 a0_1 a0_2 a0_3 a0_4 a0_5 a0_6 a0_7 a1_2 a1_3).bind fun r8 =>
  some r8
  else some false).bind fun y3 =>
  (bif y3 then (s111 L a0_0 a0_1 a0_2 a0_3 a0_4 a0_5 a0_6 a0_7 a1_0 (a1_0.length : Int) [(1 : Int), (3 : Int)]).bind fun r7 =>
  some r7
  else some false).bind fun y4 =>
  (bif y4 then (s111 L a0_0 a0_1 a0_2 a0_3 a0_4 a0_5 a0_6 a0_7 a1_1 (a1_0.length : Int) [(3 : Int)]).bind fun r6 =>
  some r6
  else some false).bind fun y5 =>
  some y5
theorem p65 (L : LP) (a0_0 : Int) (a0_1 : Int) (a0_2 : Int) (a0_3 : Int) (a0_4 : (List (List Int))) (a0_5 : (List (Int × (List (Int × (List (Int × Int))))))) (a0_6 : (List ((List (List (Int × Int))) × (List (List (Int × Int)))))) (a0_7 : (List ((List (Int × Int)) × (List (Int × Int)) × Int × Int))) (a1_0 : (List (Int × Int))) (a1_1 : (List (Int × Int))) (a1_2 : Int) (a1_3 : Int) (r : Bool) (h : s65 L a0_0 a0_1 a0_2 a0_3 a0_4 a0_5 a0_6 a0_7 a1_0 a1_1 a1_2 a1_3 = some r) : Pure X 65 [.agg [.c (.int .i64 a0_0), .c (.int .i64 a0_1), .c (.int .i64 a0_2), .c (.int .i64 a0_3), .c (slC e28 a0_4), .c (slC e72 a0_5), .c (slC e65 a0_6), .c (slC e77 a0_7)], .agg [.c (slC e61 a1_0), .c (slC e61 a1_1), .c (.int .u8 a1_2), .c (.int .i64 a1_3)]] (.cell (.c (.bool r))) := by
  refine Pure_of_W (c := cd Tryd.f65 []) Tryd.func65 (by kernel_rfl) (N := 39) (by kernel_rfl) (Nat.le_of_ble_eq_true (by kernel_rfl)) ?_
  unfold s65 at h
  refine W_seq_at (by kernel_rfl) ?_
  refine W_region_at (by kernel_rfl) ?_
  refine WO_fin (σ' := [some (.lit 0 27 [.c (.int .i64 a0_0), .c (.int .i64 a0_1), .c (.int .i64 a0_2), .c (.int .i64 a0_3), .c (slC e28 a0_4), .c (slC e72 a0_5), .c (slC e65 a0_6), .c (slC e77 a0_7)]), some (.lit 0 77 [.c (slC e61 a1_0), .c (slC e61 a1_1), .c (.int .u8 a1_2), .c (.int .i64 a1_3)])]) (T' := [(2, .cell (.op 0 0 8 0 0)), (3, .cell (.op 1 0 4 0 0))]) (Φ := (True)) 3 [2, 3] (by kernel_rfl) trivial (by kernel_rfl) ?_
  refine thenQ_n ?_
  refine W_seq_at (by kernel_rfl) ?_
  refine W_region_at (by kernel_rfl) ?_
  refine WO_fin (σ' := [some (.lit 0 27 [.c (.int .i64 a0_0), .c (.int .i64 a0_1), .c (.int .i64 a0_2), .c (.int .i64 a0_3), .c (slC e28 a0_4), .c (slC e72 a0_5), .c (slC e65 a0_6), .c (slC e77 a0_7)]), some (.lit 0 77 [.c (slC e61 a1_0), .c (slC e61 a1_1), .c (.int .u8 a1_2), .c (.int .i64 a1_3)])]) (T' := [(2, .cell (.op 0 0 8 0 0)), (3, .cell (.op 1 0 4 0 0)), (5, .cell (.c (.int .i64 (a1_0.length : Int))))]) (Φ := (True)) 4 [2, 3, 5] (by kernel_rfl) trivial (by kernel_rfl) ?_
  refine thenQ_n ?_
  refine W_seq_at (by kernel_rfl) ?_
  refine W_region_at (by kernel_rfl) ?_
  refine WO_exk (σ' := [some (.lit 0 27 [.c (.int .i64 a0_0), .c (.int .i64 a0_1), .c (.int .i64 a0_2), .c (.int .i64 a0_3), .c (slC e28 a0_4), .c (slC e72 a0_5), .c (slC e65 a0_6), .c (slC e77 a0_7)]), some (.lit 0 77 [.c (slC e61 a1_0), .c (slC e61 a1_1), .c (.int .u8 a1_2), .c (.int .i64 a1_3)])]) (T' := [(2, .cell (.op 0 0 8 0 0)), (3, .cell (.op 1 0 4 0 0)), (5, .cell (.c (.int .i64 (a1_0.length : Int)))), (9, .cell (.c (.int .i64 (a1_0.length : Int))))]) (Φ := (True)) 1 [2, 3, 5, 9] (by kernel_rfl) trivial ?_
  obtain ⟨r1, gr1, h⟩ := bind_some h
  refine WO_call (f := 45) (all := [.cell (.c (.int .i64 (a1_0.length : Int))), .cell (.c (.int .i64 (1 : Int))), .cell (.c (.int .i64 (4 : Int)))]) (d := some 10) (r := .cell (.c (.bool r1))) (by kernel_rfl) (by kernel_rfl) (by kernel_rfl) Tryd.call45 (p45 L _ _ _ _ gr1) ?_
  refine WO_exk (σ' := [some (.lit 0 27 [.c (.int .i64 a0_0), .c (.int .i64 a0_1), .c (.int .i64 a0_2), .c (.int .i64 a0_3), .c (slC e28 a0_4), .c (slC e72 a0_5), .c (slC e65 a0_6), .c (slC e77 a0_7)]), some (.lit 0 77 [.c (slC e61 a1_0), .c (slC e61 a1_1), .c (.int .u8 a1_2), .c (.int .i64 a1_3)])]) (T' := [(2, .cell (.op 0 0 8 0 0)), (3, .cell (.op 1 0 4 0 0)), (5, .cell (.c (.int .i64 (a1_0.length : Int)))), (11, .cell (.c (.bool r1)))]) (Φ := (True)) 1 [2, 3, 5, 11] (by kernel_rfl) trivial ?_
  obtain ⟨y2, gy2, h⟩ := bind_some h
  refine WO_join 8 [some (.lit 0 27 [.c (.int .i64 a0_0), .c (.int .i64 a0_1), .c (.int .i64 a0_2), .c (.int .i64 a0_3), .c (slC e28 a0_4), .c (slC e72 a0_5), .c (slC e65 a0_6), .c (slC e77 a0_7)]), some (.lit 0 77 [.c (slC e61 a1_0), .c (slC e61 a1_1), .c (.int .u8 a1_2), .c (.int .i64 a1_3)])] [(2, .cell (.op 0 0 8 0 0)), (3, .cell (.op 1 0 4 0 0)), (5, .cell (.c (.int .i64 (a1_0.length : Int)))), (16, .cell (.c (.bool y2)))] ?_ ?_
  · clear gy2
    refine WO_exk (σ' := [some (.lit 0 27 [.c (.int .i64 a0_0), .c (.int .i64 a0_1), .c (.int .i64 a0_2), .c (.int .i64 a0_3), .c (slC e28 a0_4), .c (slC e72 a0_5), .c (slC e65 a0_6), .c (slC e77 a0_7)]), some (.lit 0 77 [.c (slC e61 a1_0), .c (slC e61 a1_1), .c (.int .u8 a1_2), .c (.int .i64 a1_3)])]) (T' := [(2, .cell (.op 0 0 8 0 0)), (3, .cell (.op 1 0 4 0 0)), (5, .cell (.c (.int .i64 (a1_0.length : Int)))), (17, .cell (.c (.bool y2)))]) (Φ := (True)) 1 [2, 3, 5, 17] (by kernel_rfl) trivial ?_
    obtain ⟨y3, gy3, h⟩ := bind_some h
    refine WO_join 14 [some (.lit 0 27 [.c (.int .i64 a0_0), .c (.int .i64 a0_1), .c (.int .i64 a0_2), .c (.int .i64 a0_3), .c (slC e28 a0_4), .c (slC e72 a0_5), .c (slC e65 a0_6), .c (slC e77 a0_7)]), some (.lit 0 77 [.c (slC e61 a1_0), .c (slC e61 a1_1), .c (.int .u8 a1_2), .c (.int .i64 a1_3)])] [(2, .cell (.op 0 0 8 0 0)), (3, .cell (.op 1 0 4 0 0)), (5, .cell (.c (.int .i64 (a1_0.length : Int)))), (22, .cell (.c (.bool y3)))] ?_ ?_
    · clear gy3
      refine WO_exk (σ' := [some (.lit 0 27 [.c (.int .i64 a0_0), .c (.int .i64 a0_1), .c (.int .i64 a0_2), .c (.int .i64 a0_3), .c (slC e28 a0_4), .c (slC e72 a0_5), .c (slC e65 a0_6), .c (slC e77 a0_7)]), some (.lit 0 77 [.c (slC e61 a1_0), .c (slC e61 a1_1), .c (.int .u8 a1_2), .c (.int .i64 a1_3)])]) (T' := [(2, .cell (.op 0 0 8 0 0)), (3, .cell (.op 1 0 4 0 0)), (5, .cell (.c (.int .i64 (a1_0.length : Int)))), (23, .cell (.c (.bool y3)))]) (Φ := (True)) 1 [2, 3, 5, 23] (by kernel_rfl) trivial ?_
      obtain ⟨y4, gy4, h⟩ := bind_some h
      refine WO_join 22 [some (.lit 0 27 [.c (.int .i64 a0_0), .c (.int .i64 a0_1), .c (.int .i64 a0_2), .c (.int .i64 a0_3), .c (slC e28 a0_4), .c (slC e72 a0_5), .c (slC e65 a0_6), .c (slC e77 a0_7)]), some (.lit 0 77 [.c (slC e61 a1_0), .c (slC e61 a1_1), .c (.int .u8 a1_2), .c (.int .i64 a1_3)])] [(2, .cell (.op 0 0 8 0 0)), (3, .cell (.op 1 0 4 0 0)), (5, .cell (.c (.int .i64 (a1_0.length : Int)))), (30, .cell (.c (.bool y4)))] ?_ ?_
      · clear gy4
        refine WO_exk (σ' := [some (.lit 0 27 [.c (.int .i64 a0_0), .c (.int .i64 a0_1), .c (.int .i64 a0_2), .c (.int .i64 a0_3), .c (slC e28 a0_4), .c (slC e72 a0_5), .c (slC e65 a0_6), .c (slC e77 a0_7)]), some (.lit 0 77 [.c (slC e61 a1_0), .c (slC e61 a1_1), .c (.int .u8 a1_2), .c (.int .i64 a1_3)])]) (T' := [(2, .cell (.op 0 0 8 0 0)), (3, .cell (.op 1 0 4 0 0)), (5, .cell (.c (.int .i64 (a1_0.length : Int)))), (31, .cell (.c (.bool y4)))]) (Φ := (True)) 1 [2, 3, 5, 31] (by kernel_rfl) trivial ?_
        obtain ⟨y5, gy5, h⟩ := bind_some h
        refine WO_join 30 [some (.lit 0 27 [.c (.int .i64 a0_0), .c (.int .i64 a0_1), .c (.int .i64 a0_2), .c (.int .i64 a0_3), .c (slC e28 a0_4), .c (slC e72 a0_5), .c (slC e65 a0_6), .c (slC e77 a0_7)]), some (.lit 0 77 [.c (slC e61 a1_0), .c (slC e61 a1_1), .c (.int .u8 a1_2), .c (.int .i64 a1_3)])] [(38, .cell (.c (.bool y5)))] ?_ ?_
        · clear gy5
          refine WO_fin (σ' := [some (.lit 0 27 [.c (.int .i64 a0_0), .c (.int .i64 a0_1), .c (.int .i64 a0_2), .c (.int .i64 a0_3), .c (slC e28 a0_4), .c (slC e72 a0_5), .c (slC e65 a0_6), .c (slC e77 a0_7)]), some (.lit 0 77 [.c (slC e61 a1_0), .c (slC e61 a1_1), .c (.int .u8 a1_2), .c (.int .i64 a1_3)])]) (T' := [(4, .cell (.c (.bool y5)))]) (Φ := (True)) 1 [4] (by kernel_rfl) trivial (by kernel_rfl) ?_
          refine thenQ_n ?_
          refine W_ret_at (by kernel_rfl) ?_
          obtain rfl := Option.some.inj h
          exact qret [.cell (.c (.bool y5))] (by kernel_rfl) (by kernel_rfl) ([]) (by kernel_rfl)
        · intro J
          clear h
          rcases Bool.eq_false_or_eq_true y4 with hb | hb
          · have h := cond_t hb gy5; clear gy5
            refine WO_ent (ent_bool (T' := [(31, .cell (.c (.bool true))), (2, .cell (.op 0 0 8 0 0)), (3, .cell (.op 1 0 4 0 0)), (5, .cell (.c (.int .i64 (a1_0.length : Int))))]) 31 hb (by kernel_rfl) (by kernel_rfl)) ?_
            refine WO_exk (σ' := [some (.lit 0 27 [.c (.int .i64 a0_0), .c (.int .i64 a0_1), .c (.int .i64 a0_2), .c (.int .i64 a0_3), .c (slC e28 a0_4), .c (slC e72 a0_5), .c (slC e65 a0_6), .c (slC e77 a0_7)]), some (.lit 0 77 [.c (slC e61 a1_0), .c (slC e61 a1_1), .c (.int .u8 a1_2), .c (.int .i64 a1_3)])]) (T' := [(31, .cell (.c (.bool true))), (32, .agg [.c (.int .i64 a0_0), .c (.int .i64 a0_1), .c (.int .i64 a0_2), .c (.int .i64 a0_3), .c (slC e28 a0_4), .c (slC e72 a0_5), .c (slC e65 a0_6), .c (slC e77 a0_7)]), (34, .cell (.c (slC e61 a1_1))), (35, .cell (.c (.int .i64 (a1_0.length : Int))))]) (Φ := (True)) 4 [31, 32, 34, 35] (by kernel_rfl) trivial ?_
            refine WO_q1 (r := .cell (.c (rawC 1 1 [.int .u8 (3 : Int)]))) (r' := .cell (.c (slC e59 [(3 : Int)]))) (d := some 36) (φ := True) (raw_weak e59 (xs := [(3 : Int)]) rfl rfl (by kernel_rfl) (by kernel_rfl)) (by kernel_rfl) trivial ?_
            obtain ⟨r6, gr6, h⟩ := bind_some h
            refine WO_call (f := 111) (all := [.agg [.c (.int .i64 a0_0), .c (.int .i64 a0_1), .c (.int .i64 a0_2), .c (.int .i64 a0_3), .c (slC e28 a0_4), .c (slC e72 a0_5), .c (slC e65 a0_6), .c (slC e77 a0_7)], .cell (.c (slC e61 a1_1)), .cell (.c (.int .i64 (a1_0.length : Int))), .cell (.c (slC e59 [(3 : Int)]))]) (d := some 37) (r := .cell (.c (.bool r6))) (by kernel_rfl) (by kernel_rfl) (by kernel_rfl) Tryd.call111 (p111 L _ _ _ _ _ _ _ _ _ _ _ _ gr6) ?_
            obtain rfl := Option.some.inj h
            refine WO_exk (σ' := [some (.lit 0 27 [.c (.int .i64 a0_0), .c (.int .i64 a0_1), .c (.int .i64 a0_2), .c (.int .i64 a0_3), .c (slC e28 a0_4), .c (slC e72 a0_5), .c (slC e65 a0_6), .c (slC e77 a0_7)]), some (.lit 0 77 [.c (slC e61 a1_0), .c (slC e61 a1_1), .c (.int .u8 a1_2), .c (.int .i64 a1_3)])]) (T' := [(38, .cell (.c (.bool r6)))]) (Φ := True) 1 [38] (by kernel_rfl) trivial J
          · have h := cond_f hb gy5; clear gy5
            refine WO_ent (ent_bool (T' := [(31, .cell (.c (.bool false))), (2, .cell (.op 0 0 8 0 0)), (3, .cell (.op 1 0 4 0 0)), (5, .cell (.c (.int .i64 (a1_0.length : Int))))]) 31 hb (by kernel_rfl) (by kernel_rfl)) ?_
            obtain rfl := Option.some.inj h
            refine WO_exk (σ' := [some (.lit 0 27 [.c (.int .i64 a0_0), .c (.int .i64 a0_1), .c (.int .i64 a0_2), .c (.int .i64 a0_3), .c (slC e28 a0_4), .c (slC e72 a0_5), .c (slC e65 a0_6), .c (slC e77 a0_7)]), some (.lit 0 77 [.c (slC e61 a1_0), .c (slC e61 a1_1), .c (.int .u8 a1_2), .c (.int .i64 a1_3)])]) (T' := [(38, .cell (.c (.bool false)))]) (Φ := True) 7 [38] (by kernel_rfl) trivial J
      · intro J
        clear h
        rcases Bool.eq_false_or_eq_true y3 with hb | hb
        · have h := cond_t hb gy4; clear gy4
          refine WO_ent (ent_bool (T' := [(23, .cell (.c (.bool true))), (2, .cell (.op 0 0 8 0 0)), (3, .cell (.op 1 0 4 0 0)), (5, .cell (.c (.int .i64 (a1_0.length : Int))))]) 23 hb (by kernel_rfl) (by kernel_rfl)) ?_
          refine WO_exk (σ' := [some (.lit 0 27 [.c (.int .i64 a0_0), .c (.int .i64 a0_1), .c (.int .i64 a0_2), .c (.int .i64 a0_3), .c (slC e28 a0_4), .c (slC e72 a0_5), .c (slC e65 a0_6), .c (slC e77 a0_7)]), some (.lit 0 77 [.c (slC e61 a1_0), .c (slC e61 a1_1), .c (.int .u8 a1_2), .c (.int .i64 a1_3)])]) (T' := [(2, .cell (.op 0 0 8 0 0)), (3, .cell (.op 1 0 4 0 0)), (5, .cell (.c (.int .i64 (a1_0.length : Int)))), (23, .cell (.c (.bool true))), (24, .agg [.c (.int .i64 a0_0), .c (.int .i64 a0_1), .c (.int .i64 a0_2), .c (.int .i64 a0_3), .c (slC e28 a0_4), .c (slC e72 a0_5), .c (slC e65 a0_6), .c (slC e77 a0_7)]), (26, .cell (.c (slC e61 a1_0))), (27, .cell (.c (.int .i64 (a1_0.length : Int))))]) (Φ := (True)) 4 [2, 3, 5, 23, 24, 26, 27] (by kernel_rfl) trivial ?_
          refine WO_q1 (r := .cell (.c (rawC 2 1 [.int .u8 (1 : Int), .int .u8 (3 : Int)]))) (r' := .cell (.c (slC e59 [(1 : Int), (3 : Int)]))) (d := some 28) (φ := True) (raw_weak e59 (xs := [(1 : Int), (3 : Int)]) rfl rfl (by kernel_rfl) (by kernel_rfl)) (by kernel_rfl) trivial ?_
          obtain ⟨r7, gr7, h⟩ := bind_some h
          refine WO_call (f := 111) (all := [.agg [.c (.int .i64 a0_0), .c (.int .i64 a0_1), .c (.int .i64 a0_2), .c (.int .i64 a0_3), .c (slC e28 a0_4), .c (slC e72 a0_5), .c (slC e65 a0_6), .c (slC e77 a0_7)], .cell (.c (slC e61 a1_0)), .cell (.c (.int .i64 (a1_0.length : Int))), .cell (.c (slC e59 [(1 : Int), (3 : Int)]))]) (d := some 29) (r := .cell (.c (.bool r7))) (by kernel_rfl) (by kernel_rfl) (by kernel_rfl) Tryd.call111 (p111 L _ _ _ _ _ _ _ _ _ _ _ _ gr7) ?_
          obtain rfl := Option.some.inj h
          refine WO_exk (σ' := [some (.lit 0 27 [.c (.int .i64 a0_0), .c (.int .i64 a0_1), .c (.int .i64 a0_2), .c (.int .i64 a0_3), .c (slC e28 a0_4), .c (slC e72 a0_5), .c (slC e65 a0_6), .c (slC e77 a0_7)]), some (.lit 0 77 [.c (slC e61 a1_0), .c (slC e61 a1_1), .c (.int .u8 a1_2), .c (.int .i64 a1_3)])]) (T' := [(2, .cell (.op 0 0 8 0 0)), (3, .cell (.op 1 0 4 0 0)), (5, .cell (.c (.int .i64 (a1_0.length : Int)))), (30, .cell (.c (.bool r7)))]) (Φ := True) 1 [2, 3, 5, 30] (by kernel_rfl) trivial J
        · have h := cond_f hb gy4; clear gy4
          refine WO_ent (ent_bool (T' := [(23, .cell (.c (.bool false))), (2, .cell (.op 0 0 8 0 0)), (3, .cell (.op 1 0 4 0 0)), (5, .cell (.c (.int .i64 (a1_0.length : Int))))]) 23 hb (by kernel_rfl) (by kernel_rfl)) ?_
          obtain rfl := Option.some.inj h
          refine WO_exk (σ' := [some (.lit 0 27 [.c (.int .i64 a0_0), .c (.int .i64 a0_1), .c (.int .i64 a0_2), .c (.int .i64 a0_3), .c (slC e28 a0_4), .c (slC e72 a0_5), .c (slC e65 a0_6), .c (slC e77 a0_7)]), some (.lit 0 77 [.c (slC e61 a1_0), .c (slC e61 a1_1), .c (.int .u8 a1_2), .c (.int .i64 a1_3)])]) (T' := [(2, .cell (.op 0 0 8 0 0)), (3, .cell (.op 1 0 4 0 0)), (5, .cell (.c (.int .i64 (a1_0.length : Int)))), (30, .cell (.c (.bool false)))]) (Φ := True) 7 [2, 3, 5, 30] (by kernel_rfl) trivial J
    · intro J
      clear h
      rcases Bool.eq_false_or_eq_true y2 with hb | hb
      · have h := cond_t hb gy3; clear gy3
        refine WO_ent (ent_bool (T' := [(17, .cell (.c (.bool true))), (2, .cell (.op 0 0 8 0 0)), (3, .cell (.op 1 0 4 0 0)), (5, .cell (.c (.int .i64 (a1_0.length : Int))))]) 17 hb (by kernel_rfl) (by kernel_rfl)) ?_
        refine WO_exk (σ' := [some (.lit 0 27 [.c (.int .i64 a0_0), .c (.int .i64 a0_1), .c (.int .i64 a0_2), .c (.int .i64 a0_3), .c (slC e28 a0_4), .c (slC e72 a0_5), .c (slC e65 a0_6), .c (slC e77 a0_7)]), some (.lit 0 77 [.c (slC e61 a1_0), .c (slC e61 a1_1), .c (.int .u8 a1_2), .c (.int .i64 a1_3)])]) (T' := [(2, .cell (.op 0 0 8 0 0)), (3, .cell (.op 1 0 4 0 0)), (5, .cell (.c (.int .i64 (a1_0.length : Int)))), (17, .cell (.c (.bool true))), (18, .agg [.c (.int .i64 a0_0), .c (.int .i64 a0_1), .c (.int .i64 a0_2), .c (.int .i64 a0_3), .c (slC e28 a0_4), .c (slC e72 a0_5), .c (slC e65 a0_6), .c (slC e77 a0_7)]), (20, .agg [.c (.int .u8 a1_2), .c (.int .i64 a1_3)])]) (Φ := (True)) 3 [2, 3, 5, 17, 18, 20] (by kernel_rfl) trivial ?_
        obtain ⟨r8, gr8, h⟩ := bind_some h
        refine WO_call (f := 109) (all := [.agg [.c (.int .i64 a0_0), .c (.int .i64 a0_1), .c (.int .i64 a0_2), .c (.int .i64 a0_3), .c (slC e28 a0_4), .c (slC e72 a0_5), .c (slC e65 a0_6), .c (slC e77 a0_7)], .agg [.c (.int .u8 a1_2), .c (.int .i64 a1_3)]]) (d := some 21) (r := .cell (.c (.bool r8))) (by kernel_rfl) (by kernel_rfl) (by kernel_rfl) Tryd.call109 (p109 L _ _ _ _ _ _ _ _ _ _ _ gr8) ?_
        obtain rfl := Option.some.inj h
        refine WO_exk (σ' := [some (.lit 0 27 [.c (.int .i64 a0_0), .c (.int .i64 a0_1), .c (.int .i64 a0_2), .c (.int .i64 a0_3), .c (slC e28 a0_4), .c (slC e72 a0_5), .c (slC e65 a0_6), .c (slC e77 a0_7)]), some (.lit 0 77 [.c (slC e61 a1_0), .c (slC e61 a1_1), .c (.int .u8 a1_2), .c (.int .i64 a1_3)])]) (T' := [(2, .cell (.op 0 0 8 0 0)), (3, .cell (.op 1 0 4 0 0)), (5, .cell (.c (.int .i64 (a1_0.length : Int)))), (22, .cell (.c (.bool r8)))]) (Φ := True) 1 [2, 3, 5, 22] (by kernel_rfl) trivial J
      · have h := cond_f hb gy3; clear gy3
        refine WO_ent (ent_bool (T' := [(17, .cell (.c (.bool false))), (2, .cell (.op 0 0 8 0 0)), (3, .cell (.op 1 0 4 0 0)), (5, .cell (.c (.int .i64 (a1_0.length : Int))))]) 17 hb (by kernel_rfl) (by kernel_rfl)) ?_
        obtain rfl := Option.some.inj h
        refine WO_exk (σ' := [some (.lit 0 27 [.c (.int .i64 a0_0), .c (.int .i64 a0_1), .c (.int .i64 a0_2), .c (.int .i64 a0_3), .c (slC e28 a0_4), .c (slC e72 a0_5), .c (slC e65 a0_6), .c (slC e77 a0_7)]), some (.lit 0 77 [.c (slC e61 a1_0), .c (slC e61 a1_1), .c (.int .u8 a1_2), .c (.int .i64 a1_3)])]) (T' := [(2, .cell (.op 0 0 8 0 0)), (3, .cell (.op 1 0 4 0 0)), (5, .cell (.c (.int .i64 (a1_0.length : Int)))), (22, .cell (.c (.bool false)))]) (Φ := True) 5 [2, 3, 5, 22] (by kernel_rfl) trivial J
  · intro J
    clear h
    rcases Bool.eq_false_or_eq_true r1 with hb | hb
    · have h := cond_t hb gy2; clear gy2
      refine WO_ent (ent_bool (T' := [(11, .cell (.c (.bool true))), (2, .cell (.op 0 0 8 0 0)), (3, .cell (.op 1 0 4 0 0)), (5, .cell (.c (.int .i64 (a1_0.length : Int))))]) 11 hb (by kernel_rfl) (by kernel_rfl)) ?_
      refine WO_exk (σ' := [some (.lit 0 27 [.c (.int .i64 a0_0), .c (.int .i64 a0_1), .c (.int .i64 a0_2), .c (.int .i64 a0_3), .c (slC e28 a0_4), .c (slC e72 a0_5), .c (slC e65 a0_6), .c (slC e77 a0_7)]), some (.lit 0 77 [.c (slC e61 a1_0), .c (slC e61 a1_1), .c (.int .u8 a1_2), .c (.int .i64 a1_3)])]) (T' := [(2, .cell (.op 0 0 8 0 0)), (3, .cell (.op 1 0 4 0 0)), (5, .cell (.c (.int .i64 (a1_0.length : Int)))), (11, .cell (.c (.bool true))), (15, .cell (.c (.bool (decide (a1_2 = (1 : Int))))))]) (Φ := (True)) 4 [2, 3, 5, 11, 15] (by kernel_rfl) trivial ?_
      obtain rfl := Option.some.inj h
      refine WO_exk (σ' := [some (.lit 0 27 [.c (.int .i64 a0_0), .c (.int .i64 a0_1), .c (.int .i64 a0_2), .c (.int .i64 a0_3), .c (slC e28 a0_4), .c (slC e72 a0_5), .c (slC e65 a0_6), .c (slC e77 a0_7)]), some (.lit 0 77 [.c (slC e61 a1_0), .c (slC e61 a1_1), .c (.int .u8 a1_2), .c (.int .i64 a1_3)])]) (T' := [(2, .cell (.op 0 0 8 0 0)), (3, .cell (.op 1 0 4 0 0)), (5, .cell (.c (.int .i64 (a1_0.length : Int)))), (16, .cell (.c (.bool (decide (a1_2 = (1 : Int))))))]) (Φ := True) 1 [2, 3, 5, 16] (by kernel_rfl) trivial J
    · have h := cond_f hb gy2; clear gy2
      refine WO_ent (ent_bool (T' := [(11, .cell (.c (.bool false))), (2, .cell (.op 0 0 8 0 0)), (3, .cell (.op 1 0 4 0 0)), (5, .cell (.c (.int .i64 (a1_0.length : Int))))]) 11 hb (by kernel_rfl) (by kernel_rfl)) ?_
      obtain rfl := Option.some.inj h
      refine WO_exk (σ' := [some (.lit 0 27 [.c (.int .i64 a0_0), .c (.int .i64 a0_1), .c (.int .i64 a0_2), .c (.int .i64 a0_3), .c (slC e28 a0_4), .c (slC e72 a0_5), .c (slC e65 a0_6), .c (slC e77 a0_7)]), some (.lit 0 77 [.c (slC e61 a1_0), .c (slC e61 a1_1), .c (.int .u8 a1_2), .c (.int .i64 a1_3)])]) (T' := [(2, .cell (.op 0 0 8 0 0)), (3, .cell (.op 1 0 4 0 0)), (5, .cell (.c (.int .i64 (a1_0.length : Int)))), (16, .cell (.c (.bool false)))]) (Φ := True) 5 [2, 3, 5, 16] (by kernel_rfl) trivial J

/- system.Valid -/
def s18_0 (L : LP) (a0_0 : Int) (a0_1 : Int) (a0_2 : Int) (a0_3 : Int) (a0_4 : (List (List Int))) (a0_5 : (List (Int × (List (Int × (List (Int × Int))))))) (a0_6 : (List ((List (List (Int × Int))) × (List (List (Int × Int)))))) (a0_7 : (List ((List (Int × Int)) × (List (Int × Int)) × Int × Int))) (y16 : Int) : Option (Int ⊕ (Bool ⊕ Unit)) :=
  (bif (decide (y16 < (a0_7.length : Int))) then
  (ck (0 ≤ y16 ∧ y16 < (a0_7.length : Int))).bind fun _ =>
  (s65 L a0_0 a0_1 a0_2 a0_3 a0_4 a0_5 a0_6 a0_7 ((a0_7.getD y16.toNat e77.d).1) ((a0_7.getD y16.toNat e77.d).2.1) ((a0_7.getD y16.toNat e77.d).2.2.1) ((a0_7.getD y16.toNat e77.d).2.2.2)).bind fun r19 =>
  (bif (!r19) then
  some (.inr (.inl false))
  else (ck (inR .i64 (y16 + (1 : Int)))).bind fun _ =>
  some (.inl (y16 + (1 : Int))))
  else some (.inr (.inr ())))
def s18_1 (L : LP) (a0_0 : Int) (a0_1 : Int) (a0_2 : Int) (a0_3 : Int) (a0_4 : (List (List Int))) (a0_5 : (List (Int × (List (Int × (List (Int × Int))))))) (a0_6 : (List ((List (List (Int × Int))) × (List (List (Int × Int)))))) (a0_7 : (List ((List (Int × Int)) × (List (Int × Int)) × Int × Int))) (y21 : Int) : Option (Int ⊕ (Bool ⊕ Unit)) :=
  (bif (decide (y21 < (a0_6.length : Int))) then
  (ck (0 ≤ y21 ∧ y21 < (a0_6.length : Int))).bind fun _ =>
  (s64 L a0_0 a0_1 a0_2 a0_3 a0_4 a0_5 a0_6 a0_7 ((a0_6.getD y21.toNat e65.d).1) ((a0_6.getD y21.toNat e65.d).2)).bind fun r24 =>
  (bif (!r24) then
  some (.inr (.inl false))
  else (ck (inR .i64 (y21 + (1 : Int)))).bind fun _ =>
  some (.inl (y21 + (1 : Int))))
  else some (.inr (.inr ())))
def s18_2 (L : LP) (a0_0 : Int) (a0_1 : Int) (a0_2 : Int) (a0_3 : Int) (a0_4 : (List (List Int))) (a0_5 : (List (Int × (List (Int × (List (Int × Int))))))) (a0_6 : (List ((List (List (Int × Int))) × (List (List (Int × Int)))))) (a0_7 : (List ((List (Int × Int)) × (List (Int × Int)) × Int × Int))) (y26 : Int) : Option (Int ⊕ (Bool ⊕ Unit)) :=
  (bif (decide (y26 < (a0_5.length : Int))) then
  (ck (0 ≤ y26 ∧ y26 < (a0_5.length : Int))).bind fun _ =>
  (s63 L a0_0 a0_1 a0_2 a0_3 a0_4 a0_5 a0_6 a0_7 ((a0_5.getD y26.toNat e72.d).1) ((a0_5.getD y26.toNat e72.d).2)).bind fun r29 =>
  (bif (!r29) then
  some (.inr (.inl false))
  else (ck (inR .i64 (y26 + (1 : Int)))).bind fun _ =>
  some (.inl (y26 + (1 : Int))))
  else some (.inr (.inr ())))
def s18 (L : LP) (a0_0 : Int) (a0_1 : Int) (a0_2 : Int) (a0_3 : Int) (a0_4 : (List (List Int))) (a0_5 : (List (Int × (List (Int × (List (Int × Int))))))) (a0_6 : (List ((List (List (Int × Int))) × (List (List (Int × Int)))))) (a0_7 : (List ((List (Int × Int)) × (List (Int × Int)) × Int × Int))) : Option Bool :=
  (s60 L a0_0).bind fun r1 =>
  (bif (!r1) then some true
  else (s61 L a0_0).bind fun r33 =>
  (s45 L a0_1 (1 : Int) (if r33 < (13 : Int) then r33 else (13 : Int))).bind fun r34 =>
  some (!r34)).bind fun y2 =>
  (bif y2 then some true
  else (s45 L a0_2 (1 : Int) (64 : Int)).bind fun r32 =>
  some (!r32)).bind fun y3 =>
  (bif y3 then some true
  else (s45 L a0_3 (0 : Int) (16 : Int)).bind fun r31 =>
  some (!r31)).bind fun y4 =>
  (bif y4 then
  some false
  else (bif (decide ((a0_4.length : Int) > (64 : Int))) then some true
  else some (decide ((a0_5.length : Int) > (64 : Int)))).bind fun y5 =>
  (bif y5 then some true
  else some (decide ((a0_6.length : Int) > (4 : Int)))).bind fun y6 =>
  (bif y6 then some true
  else some (decide ((a0_7.length : Int) > (8 : Int)))).bind fun y7 =>
  (bif y7 then
  some false
  else (ck (0 ≤ a0_1 ∧ a0_1 < ((IntKind.bits .i64 : Nat) : Int) ∧ inR .i64 ((1 : Int) * 2 ^ a0_1.toNat))).bind fun _ =>
  (s62 L a0_0 ((1 : Int) * 2 ^ a0_1.toNat) a0_4).bind fun r9 =>
  (bif (!r9) then
  some false
  else ((L.run (s18_2 L a0_0 a0_1 a0_2 a0_3 a0_4 a0_5 a0_6 a0_7) (0 : Int)).bind (fun (b : Bool ⊕ Unit) => (match b with
  | .inl v => some (.inr v)
  | .inr v => some (.inl ())))).bind fun (y10 : Unit ⊕ Bool) => (match y10 with
  | .inl v11 => ((L.run (s18_1 L a0_0 a0_1 a0_2 a0_3 a0_4 a0_5 a0_6 a0_7) (0 : Int)).bind (fun (b : Bool ⊕ Unit) => (match b with
  | .inl v => some (.inr v)
  | .inr v => some (.inl ())))).bind fun (y12 : Unit ⊕ Bool) => (match y12 with
  | .inl v13 => ((L.run (s18_0 L a0_0 a0_1 a0_2 a0_3 a0_4 a0_5 a0_6 a0_7) (0 : Int)).bind (fun (b : Bool ⊕ Unit) => (match b with
  | .inl v => some (.inr v)
  | .inr v => some (.inl ())))).bind fun (y14 : Unit ⊕ Bool) => (match y14 with
  | .inl v15 => some true
  | .inr v15 => some v15)
  | .inr v13 => some v13)
  | .inr v11 => some v11))))
theorem p18 (L : LP) (a0_0 : Int) (a0_1 : Int) (a0_2 : Int) (a0_3 : Int) (a0_4 : (List (List Int))) (a0_5 : (List (Int × (List (Int × (List (Int × Int))))))) (a0_6 : (List ((List (List (Int × Int))) × (List (List (Int × Int)))))) (a0_7 : (List ((List (Int × Int)) × (List (Int × Int)) × Int × Int))) (r : Bool) (h : s18 L a0_0 a0_1 a0_2 a0_3 a0_4 a0_5 a0_6 a0_7 = some r) : Pure X 18 [.agg [.c (.int .i64 a0_0), .c (.int .i64 a0_1), .c (.int .i64 a0_2), .c (.int .i64 a0_3), .c (slC e28 a0_4), .c (slC e72 a0_5), .c (slC e65 a0_6), .c (slC e77 a0_7)]] (.cell (.c (.bool r))) := by
  refine Pure_of_W (c := cd Tryd.f18 []) Tryd.func18 (by kernel_rfl) (N := 102) (by kernel_rfl) (Nat.le_of_ble_eq_true (by kernel_rfl)) ?_
  unfold s18 at h
  refine W_seq_at (by kernel_rfl) ?_
  refine W_region_at (by kernel_rfl) ?_
  refine WO_fin (σ' := [some (.lit 0 27 [.c (.int .i64 a0_0), .c (.int .i64 a0_1), .c (.int .i64 a0_2), .c (.int .i64 a0_3), .c (slC e28 a0_4), .c (slC e72 a0_5), .c (slC e65 a0_6), .c (slC e77 a0_7)])]) (T' := [(1, .cell (.op 0 0 8 0 0))]) (Φ := (True)) 2 [1] (by kernel_rfl) trivial (by kernel_rfl) ?_
  refine thenQ_n ?_
  refine W_seq_at (by kernel_rfl) ?_
  refine W_seq_at (by kernel_rfl) ?_
  refine W_drawK 14 (by kernel_rfl) mixed (by kernel_rfl) ?_
  refine WQ_exk (n' := 12) (T' := [(1, .cell (.op 0 0 8 0 0)), (10, .cell (.c (.int .i64 a0_0)))]) (Φ := (True)) 2 [1, 10] (by kernel_rfl) trivial ?_
  obtain ⟨r1, gr1, h⟩ := bind_some h
  refine WQ_call (f := 60) (all := [.cell (.c (.int .i64 a0_0))]) (d := some 11) (r := .cell (.c (.bool r1))) (by kernel_rfl) (by kernel_rfl) (by kernel_rfl) Tryd.call60 (p60 L _ _ gr1) ?_
  refine WQ_exk (n' := 9) (T' := [(1, .cell (.op 0 0 8 0 0)), (13, .cell (.c (.bool (!r1))))]) (Φ := (True)) 2 [1, 13] (by kernel_rfl) trivial ?_
  obtain ⟨y2, gy2, h⟩ := bind_some h
  refine WQ_join 0 14 [(1, .cell (.op 0 0 8 0 0)), (22, .cell (.c (.bool y2)))] ?_ ?_
  · clear gy2
    refine WQ_done ?_
    refine WO_exk (σ' := [some (.lit 0 27 [.c (.int .i64 a0_0), .c (.int .i64 a0_1), .c (.int .i64 a0_2), .c (.int .i64 a0_3), .c (slC e28 a0_4), .c (slC e72 a0_5), .c (slC e65 a0_6), .c (slC e77 a0_7)])]) (T' := [(1, .cell (.op 0 0 8 0 0)), (23, .cell (.c (.bool y2)))]) (Φ := (True)) 1 [1, 23] (by kernel_rfl) trivial ?_
    obtain ⟨y3, gy3, h⟩ := bind_some h
    refine WO_join 20 [some (.lit 0 27 [.c (.int .i64 a0_0), .c (.int .i64 a0_1), .c (.int .i64 a0_2), .c (.int .i64 a0_3), .c (slC e28 a0_4), .c (slC e72 a0_5), .c (slC e65 a0_6), .c (slC e77 a0_7)])] [(1, .cell (.op 0 0 8 0 0)), (28, .cell (.c (.bool y3)))] ?_ ?_
    · clear gy3
      refine WO_exk (σ' := [some (.lit 0 27 [.c (.int .i64 a0_0), .c (.int .i64 a0_1), .c (.int .i64 a0_2), .c (.int .i64 a0_3), .c (slC e28 a0_4), .c (slC e72 a0_5), .c (slC e65 a0_6), .c (slC e77 a0_7)])]) (T' := [(1, .cell (.op 0 0 8 0 0)), (29, .cell (.c (.bool y3)))]) (Φ := (True)) 1 [1, 29] (by kernel_rfl) trivial ?_
      obtain ⟨y4, gy4, h⟩ := bind_some h
      refine WO_join 26 [some (.lit 0 27 [.c (.int .i64 a0_0), .c (.int .i64 a0_1), .c (.int .i64 a0_2), .c (.int .i64 a0_3), .c (slC e28 a0_4), .c (slC e72 a0_5), .c (slC e65 a0_6), .c (slC e77 a0_7)])] [(1, .cell (.op 0 0 8 0 0)), (34, .cell (.c (.bool y4)))] ?_ ?_
      · clear gy4
        refine WO_fin (σ' := [some (.lit 0 27 [.c (.int .i64 a0_0), .c (.int .i64 a0_1), .c (.int .i64 a0_2), .c (.int .i64 a0_3), .c (slC e28 a0_4), .c (slC e72 a0_5), .c (slC e65 a0_6), .c (slC e77 a0_7)])]) (T' := [(1, .cell (.op 0 0 8 0 0)), (34, .cell (.c (.bool y4)))]) (Φ := True) 0 [1, 34] (by kernel_rfl) trivial (by kernel_rfl) ?_
        refine thenQ_n ?_
        refine W_cond_at (b := y4) (by kernel_rfl) (fun hb => ?_) (fun hb => ?_)
        · have h := cond_t hb h
          refine W_seq_at (by kernel_rfl) ?_
          refine W_region_at (by kernel_rfl) ?_
          refine WO_fin (σ' := [some (.lit 0 27 [.c (.int .i64 a0_0), .c (.int .i64 a0_1), .c (.int .i64 a0_2), .c (.int .i64 a0_3), .c (slC e28 a0_4), .c (slC e72 a0_5), .c (slC e65 a0_6), .c (slC e77 a0_7)])]) (T' := [(2, .cell (.c (.bool false)))]) (Φ := (True)) 1 [2] (by kernel_rfl) trivial (by kernel_rfl) ?_
          refine thenQ_n ?_
          refine W_ret_at (by kernel_rfl) ?_
          refine thenQ_r ?_
          obtain rfl := Option.some.inj h
          exact qret [.cell (.c (.bool false))] (by kernel_rfl) (by kernel_rfl) ([]) (by kernel_rfl)
        · have h := cond_f hb h
          refine W_skip_at (by kernel_rfl) ?_
          refine thenQ_n ?_
          refine W_seq_at (by kernel_rfl) ?_
          refine W_seq_at (by kernel_rfl) ?_
          refine W_region_at (by kernel_rfl) ?_
          refine WO_exk (σ' := [some (.lit 0 27 [.c (.int .i64 a0_0), .c (.int .i64 a0_1), .c (.int .i64 a0_2), .c (.int .i64 a0_3), .c (slC e28 a0_4), .c (slC e72 a0_5), .c (slC e65 a0_6), .c (slC e77 a0_7)])]) (T' := [(1, .cell (.op 0 0 8 0 0)), (39, .cell (.c (.bool (decide ((a0_4.length : Int) > (64 : Int))))))]) (Φ := (True)) 5 [1, 39] (by kernel_rfl) trivial ?_
          obtain ⟨y5, gy5, h⟩ := bind_some h
          refine WO_join 10 [some (.lit 0 27 [.c (.int .i64 a0_0), .c (.int .i64 a0_1), .c (.int .i64 a0_2), .c (.int .i64 a0_3), .c (slC e28 a0_4), .c (slC e72 a0_5), .c (slC e65 a0_6), .c (slC e77 a0_7)])] [(1, .cell (.op 0 0 8 0 0)), (44, .cell (.c (.bool y5)))] ?_ ?_
          · clear gy5
            refine WO_exk (σ' := [some (.lit 0 27 [.c (.int .i64 a0_0), .c (.int .i64 a0_1), .c (.int .i64 a0_2), .c (.int .i64 a0_3), .c (slC e28 a0_4), .c (slC e72 a0_5), .c (slC e65 a0_6), .c (slC e77 a0_7)])]) (T' := [(1, .cell (.op 0 0 8 0 0)), (45, .cell (.c (.bool y5)))]) (Φ := (True)) 1 [1, 45] (by kernel_rfl) trivial ?_
            obtain ⟨y6, gy6, h⟩ := bind_some h
            refine WO_join 16 [some (.lit 0 27 [.c (.int .i64 a0_0), .c (.int .i64 a0_1), .c (.int .i64 a0_2), .c (.int .i64 a0_3), .c (slC e28 a0_4), .c (slC e72 a0_5), .c (slC e65 a0_6), .c (slC e77 a0_7)])] [(1, .cell (.op 0 0 8 0 0)), (50, .cell (.c (.bool y6)))] ?_ ?_
            · clear gy6
              refine WO_exk (σ' := [some (.lit 0 27 [.c (.int .i64 a0_0), .c (.int .i64 a0_1), .c (.int .i64 a0_2), .c (.int .i64 a0_3), .c (slC e28 a0_4), .c (slC e72 a0_5), .c (slC e65 a0_6), .c (slC e77 a0_7)])]) (T' := [(1, .cell (.op 0 0 8 0 0)), (51, .cell (.c (.bool y6)))]) (Φ := (True)) 1 [1, 51] (by kernel_rfl) trivial ?_
              obtain ⟨y7, gy7, h⟩ := bind_some h
              refine WO_join 22 [some (.lit 0 27 [.c (.int .i64 a0_0), .c (.int .i64 a0_1), .c (.int .i64 a0_2), .c (.int .i64 a0_3), .c (slC e28 a0_4), .c (slC e72 a0_5), .c (slC e65 a0_6), .c (slC e77 a0_7)])] [(1, .cell (.op 0 0 8 0 0)), (56, .cell (.c (.bool y7)))] ?_ ?_
              · clear gy7
                refine WO_fin (σ' := [some (.lit 0 27 [.c (.int .i64 a0_0), .c (.int .i64 a0_1), .c (.int .i64 a0_2), .c (.int .i64 a0_3), .c (slC e28 a0_4), .c (slC e72 a0_5), .c (slC e65 a0_6), .c (slC e77 a0_7)])]) (T' := [(1, .cell (.op 0 0 8 0 0)), (56, .cell (.c (.bool y7)))]) (Φ := True) 0 [1, 56] (by kernel_rfl) trivial (by kernel_rfl) ?_
                refine thenQ_n ?_
                refine W_cond_at (b := y7) (by kernel_rfl) (fun hb => ?_) (fun hb => ?_)
                · have h := cond_t hb h
                  refine W_seq_at (by kernel_rfl) ?_
                  refine W_region_at (by kernel_rfl) ?_
                  refine WO_fin (σ' := [some (.lit 0 27 [.c (.int .i64 a0_0), .c (.int .i64 a0_1), .c (.int .i64 a0_2), .c (.int .i64 a0_3), .c (slC e28 a0_4), .c (slC e72 a0_5), .c (slC e65 a0_6), .c (slC e77 a0_7)])]) (T' := [(2, .cell (.c (.bool false)))]) (Φ := (True)) 1 [2] (by kernel_rfl) trivial (by kernel_rfl) ?_
                  refine thenQ_n ?_
                  refine W_ret_at (by kernel_rfl) ?_
                  refine thenQ_r ?_
                  obtain rfl := Option.some.inj h
                  exact qret [.cell (.c (.bool false))] (by kernel_rfl) (by kernel_rfl) ([]) (by kernel_rfl)
                · have h := cond_f hb h
                  refine W_skip_at (by kernel_rfl) ?_
                  refine thenQ_n ?_
                  refine W_seq_at (by kernel_rfl) ?_
                  refine W_seq_at (by kernel_rfl) ?_
                  refine W_drawK 7 (by kernel_rfl) mixed (by kernel_rfl) ?_
                  obtain ⟨c8, h⟩ := ck_bind h
                  refine WQ_exk (n' := 0) (T' := [(1, .cell (.op 0 0 8 0 0)), (58, .cell (.c (.int .i64 a0_0))), (61, .cell (.c (.int .i64 ((1 : Int) * 2 ^ a0_1.toNat)))), (63, .cell (.c (slC e28 a0_4)))]) (Φ := (0 ≤ a0_1 ∧ a0_1 < ((IntKind.bits .i64 : Nat) : Int) ∧ inR .i64 ((1 : Int) * 2 ^ a0_1.toNat)) ∧ (True)) 7 [1, 58, 61, 63] (by kernel_rfl) ⟨c8, trivial⟩ ?_
                  refine WQ_done ?_
                  obtain ⟨r9, gr9, h⟩ := bind_some h
                  refine WO_call (f := 62) (all := [.cell (.c (.int .i64 a0_0)), .cell (.c (.int .i64 ((1 : Int) * 2 ^ a0_1.toNat))), .cell (.c (slC e28 a0_4))]) (d := some 64) (r := .cell (.c (.bool r9))) (by kernel_rfl) (by kernel_rfl) (by kernel_rfl) Tryd.call62 (p62 L _ _ _ _ gr9) ?_
                  refine WO_fin (σ' := [some (.lit 0 27 [.c (.int .i64 a0_0), .c (.int .i64 a0_1), .c (.int .i64 a0_2), .c (.int .i64 a0_3), .c (slC e28 a0_4), .c (slC e72 a0_5), .c (slC e65 a0_6), .c (slC e77 a0_7)])]) (T' := [(1, .cell (.op 0 0 8 0 0)), (65, .cell (.c (.bool (!r9))))]) (Φ := (True)) 1 [1, 65] (by kernel_rfl) trivial (by kernel_rfl) ?_
                  refine thenQ_n ?_
                  refine W_cond_at (b := (!r9)) (by kernel_rfl) (fun hb => ?_) (fun hb => ?_)
                  · have h := cond_t hb h
                    refine W_seq_at (by kernel_rfl) ?_
                    refine W_region_at (by kernel_rfl) ?_
                    refine WO_fin (σ' := [some (.lit 0 27 [.c (.int .i64 a0_0), .c (.int .i64 a0_1), .c (.int .i64 a0_2), .c (.int .i64 a0_3), .c (slC e28 a0_4), .c (slC e72 a0_5), .c (slC e65 a0_6), .c (slC e77 a0_7)])]) (T' := [(2, .cell (.c (.bool false)))]) (Φ := (True)) 1 [2] (by kernel_rfl) trivial (by kernel_rfl) ?_
                    refine thenQ_n ?_
                    refine W_ret_at (by kernel_rfl) ?_
                    refine thenQ_r ?_
                    obtain rfl := Option.some.inj h
                    exact qret [.cell (.c (.bool false))] (by kernel_rfl) (by kernel_rfl) ([]) (by kernel_rfl)
                  · have h := cond_f hb h
                    refine W_skip_at (by kernel_rfl) ?_
                    refine thenQ_n ?_
                    obtain ⟨y10, gy10, ky10⟩ := bind_some h
                    refine W_cutE (by kernel_rfl) (fun v11 => y10 = .inl v11) (fun v11 => ([some (.lit 0 27 [.c (.int .i64 a0_0), .c (.int .i64 a0_1), .c (.int .i64 a0_2), .c (.int .i64 a0_3), .c (slC e28 a0_4), .c (slC e72 a0_5), .c (slC e65 a0_6), .c (slC e77 a0_7)])], [(1, .cell (.op 0 0 8 0 0))])) ?_ ?_
                    · intro v11 hv; subst hv; have h := ky10; clear gy10 ky10; dsimp only at h
                      obtain ⟨y12, gy12, ky12⟩ := bind_some h
                      refine W_cutE (by kernel_rfl) (fun v13 => y12 = .inl v13) (fun v13 => ([some (.lit 0 27 [.c (.int .i64 a0_0), .c (.int .i64 a0_1), .c (.int .i64 a0_2), .c (.int .i64 a0_3), .c (slC e28 a0_4), .c (slC e72 a0_5), .c (slC e65 a0_6), .c (slC e77 a0_7)])], [(1, .cell (.op 0 0 8 0 0))])) ?_ ?_
                      · intro v13 hv; subst hv; have h := ky12; clear gy12 ky12; dsimp only at h
                        obtain ⟨y14, gy14, ky14⟩ := bind_some h
                        refine W_cutE (by kernel_rfl) (fun v15 => y14 = .inl v15) (fun v15 => ([some (.lit 0 27 [.c (.int .i64 a0_0), .c (.int .i64 a0_1), .c (.int .i64 a0_2), .c (.int .i64 a0_3), .c (slC e28 a0_4), .c (slC e72 a0_5), .c (slC e65 a0_6), .c (slC e77 a0_7)])], [])) ?_ ?_
                        · intro v15 hv; subst hv; have h := ky14; clear gy14 ky14; dsimp only at h
                          refine W_seq_at (by kernel_rfl) ?_
                          refine W_region_at (by kernel_rfl) ?_
                          refine WO_fin (σ' := [some (.lit 0 27 [.c (.int .i64 a0_0), .c (.int .i64 a0_1), .c (.int .i64 a0_2), .c (.int .i64 a0_3), .c (slC e28 a0_4), .c (slC e72 a0_5), .c (slC e65 a0_6), .c (slC e77 a0_7)])]) (T' := [(2, .cell (.c (.bool true)))]) (Φ := (True)) 1 [2] (by kernel_rfl) trivial (by kernel_rfl) ?_
                          refine thenQ_n ?_
                          refine W_ret_at (by kernel_rfl) ?_
                          obtain rfl := Option.some.inj h
                          exact qret [.cell (.c (.bool true))] (by kernel_rfl) (by kernel_rfl) ([]) (by kernel_rfl)
                        · have h := gy14; clear gy14
                          refine W_seq_at (by kernel_rfl) ?_
                          refine W_region_at (by kernel_rfl) ?_
                          refine WO_fin (σ' := [some (.lit 0 27 [.c (.int .i64 a0_0), .c (.int .i64 a0_1), .c (.int .i64 a0_2), .c (.int .i64 a0_3), .c (slC e28 a0_4), .c (slC e72 a0_5), .c (slC e65 a0_6), .c (slC e77 a0_7)])]) (T' := [(1, .cell (.op 0 0 8 0 0)), (91, .cell (.c (slC e77 a0_7))), (92, .cell (.c (.int .i64 (a0_7.length : Int)))), (93, .cell (.c (.int .i64 (0 : Int))))]) (Φ := (True)) 4 [1, 91, 92, 93] (by kernel_rfl) trivial (by kernel_rfl) ?_
                          refine thenQ_n ?_
                          refine W_block_at 4 (by kernel_rfl) (by kernel_rfl) ?_
                          obtain ⟨b17, gb17, kb17⟩ := bind_some h
                          refine W_loop_at (S := fun (y16 : Int) => ([some (.lit 0 27 [.c (.int .i64 a0_0), .c (.int .i64 a0_1), .c (.int .i64 a0_2), .c (.int .i64 a0_3), .c (slC e28 a0_4), .c (slC e72 a0_5), .c (slC e65 a0_6), .c (slC e77 a0_7)])], [(1, .cell (.op 0 0 8 0 0)), (91, .cell (.c (slC e77 a0_7))), (92, .cell (.c (.int .i64 (a0_7.length : Int)))), (93, .cell (.c (.int .i64 y16)))])) (step := _) (x0 := (0 : Int)) (b := b17) (L.ok _ _ _ gb17) (by kernel_rfl) (stps_ok [.keep [1, 91, 92, 93], .take 1] (by kernel_rfl)) ?_
                          clear gb17 h; intro y16 o h; unfold s18_0 at h
                          refine W_seq_at (by kernel_rfl) ?_
                          refine W_region_at (by kernel_rfl) ?_
                          refine WO_fin (σ' := [some (.lit 0 27 [.c (.int .i64 a0_0), .c (.int .i64 a0_1), .c (.int .i64 a0_2), .c (.int .i64 a0_3), .c (slC e28 a0_4), .c (slC e72 a0_5), .c (slC e65 a0_6), .c (slC e77 a0_7)])]) (T' := [(1, .cell (.op 0 0 8 0 0)), (91, .cell (.c (slC e77 a0_7))), (92, .cell (.c (.int .i64 (a0_7.length : Int)))), (93, .cell (.c (.int .i64 y16))), (94, .cell (.c (.bool (decide (y16 < (a0_7.length : Int))))))]) (Φ := (True)) 1 [1, 91, 92, 93, 94] (by kernel_rfl) trivial (by kernel_rfl) ?_
                          refine thenQ_n ?_
                          refine W_seq_at (by kernel_rfl) ?_
                          refine W_cond_at (b := (decide (y16 < (a0_7.length : Int)))) (by kernel_rfl) (fun hb => ?_) (fun hb => ?_)
                          · have h := cond_t hb h
                            refine W_skip_at (by kernel_rfl) ?_
                            refine thenQ_n ?_
                            refine W_seq_at (by kernel_rfl) ?_
                            refine W_block_at 5 (by kernel_rfl) (by kernel_rfl) ?_
                            refine W_seq_at (by kernel_rfl) ?_
                            refine W_region_at (by kernel_rfl) ?_
                            obtain ⟨c18, h⟩ := ck_bind h
                            refine WO_fin (σ' := [some (.lit 0 27 [.c (.int .i64 a0_0), .c (.int .i64 a0_1), .c (.int .i64 a0_2), .c (.int .i64 a0_3), .c (slC e28 a0_4), .c (slC e72 a0_5), .c (slC e65 a0_6), .c (slC e77 a0_7)]), some (.lit 0 77 [.c (slC e61 ((a0_7.getD y16.toNat e77.d).1)), .c (slC e61 ((a0_7.getD y16.toNat e77.d).2.1)), .c (.int .u8 ((a0_7.getD y16.toNat e77.d).2.2.1)), .c (.int .i64 ((a0_7.getD y16.toNat e77.d).2.2.2))])]) (T' := [(1, .cell (.op 0 0 8 0 0)), (8, .cell (.op 1 0 4 0 0)), (91, .cell (.c (slC e77 a0_7))), (92, .cell (.c (.int .i64 (a0_7.length : Int)))), (93, .cell (.c (.int .i64 y16)))]) (Φ := (0 ≤ y16 ∧ y16 < (a0_7.length : Int)) ∧ (True)) 4 [1, 8, 91, 92, 93] (by kernel_rfl) ⟨c18, trivial⟩ (by kernel_rfl) ?_
                            refine thenQ_n ?_
                            refine W_seq_at (by kernel_rfl) ?_
                            refine W_region_at (by kernel_rfl) ?_
                            refine WO_exk (σ' := [some (.lit 0 27 [.c (.int .i64 a0_0), .c (.int .i64 a0_1), .c (.int .i64 a0_2), .c (.int .i64 a0_3), .c (slC e28 a0_4), .c (slC e72 a0_5), .c (slC e65 a0_6), .c (slC e77 a0_7)]), some (.lit 0 77 [.c (slC e61 ((a0_7.getD y16.toNat e77.d).1)), .c (slC e61 ((a0_7.getD y16.toNat e77.d).2.1)), .c (.int .u8 ((a0_7.getD y16.toNat e77.d).2.2.1)), .c (.int .i64 ((a0_7.getD y16.toNat e77.d).2.2.2))])]) (T' := [(1, .cell (.op 0 0 8 0 0)), (91, .cell (.c (slC e77 a0_7))), (92, .cell (.c (.int .i64 (a0_7.length : Int)))), (93, .cell (.c (.int .i64 y16))), (97, .agg [.c (.int .i64 a0_0), .c (.int .i64 a0_1), .c (.int .i64 a0_2), .c (.int .i64 a0_3), .c (slC e28 a0_4), .c (slC e72 a0_5), .c (slC e65 a0_6), .c (slC e77 a0_7)]), (98, .agg [.c (slC e61 ((a0_7.getD y16.toNat e77.d).1)), .c (slC e61 ((a0_7.getD y16.toNat e77.d).2.1)), .c (.int .u8 ((a0_7.getD y16.toNat e77.d).2.2.1)), .c (.int .i64 ((a0_7.getD y16.toNat e77.d).2.2.2))])]) (Φ := (True)) 2 [1, 91, 92, 93, 97, 98] (by kernel_rfl) trivial ?_
                            obtain ⟨r19, gr19, h⟩ := bind_some h
                            refine WO_call (f := 65) (all := [.agg [.c (.int .i64 a0_0), .c (.int .i64 a0_1), .c (.int .i64 a0_2), .c (.int .i64 a0_3), .c (slC e28 a0_4), .c (slC e72 a0_5), .c (slC e65 a0_6), .c (slC e77 a0_7)], .agg [.c (slC e61 ((a0_7.getD y16.toNat e77.d).1)), .c (slC e61 ((a0_7.getD y16.toNat e77.d).2.1)), .c (.int .u8 ((a0_7.getD y16.toNat e77.d).2.2.1)), .c (.int .i64 ((a0_7.getD y16.toNat e77.d).2.2.2))]]) (d := some 99) (r := .cell (.c (.bool r19))) (by kernel_rfl) (by kernel_rfl) (by kernel_rfl) Tryd.call65 (p65 L _ _ _ _ _ _ _ _ _ _ _ _ _ gr19) ?_
                            refine WO_fin (σ' := [some (.lit 0 27 [.c (.int .i64 a0_0), .c (.int .i64 a0_1), .c (.int .i64 a0_2), .c (.int .i64 a0_3), .c (slC e28 a0_4), .c (slC e72 a0_5), .c (slC e65 a0_6), .c (slC e77 a0_7)]), some (.lit 0 77 [.c (slC e61 ((a0_7.getD y16.toNat e77.d).1)), .c (slC e61 ((a0_7.getD y16.toNat e77.d).2.1)), .c (.int .u8 ((a0_7.getD y16.toNat e77.d).2.2.1)), .c (.int .i64 ((a0_7.getD y16.toNat e77.d).2.2.2))])]) (T' := [(1, .cell (.op 0 0 8 0 0)), (91, .cell (.c (slC e77 a0_7))), (92, .cell (.c (.int .i64 (a0_7.length : Int)))), (93, .cell (.c (.int .i64 y16))), (100, .cell (.c (.bool (!r19))))]) (Φ := (True)) 1 [1, 91, 92, 93, 100] (by kernel_rfl) trivial (by kernel_rfl) ?_
                            refine thenQ_n ?_
                            refine W_cond_at (b := (!r19)) (by kernel_rfl) (fun hb => ?_) (fun hb => ?_)
                            · have h := cond_t hb h
                              refine W_seq_at (by kernel_rfl) ?_
                              refine W_region_at (by kernel_rfl) ?_
                              refine WO_fin (σ' := [some (.lit 0 27 [.c (.int .i64 a0_0), .c (.int .i64 a0_1), .c (.int .i64 a0_2), .c (.int .i64 a0_3), .c (slC e28 a0_4), .c (slC e72 a0_5), .c (slC e65 a0_6), .c (slC e77 a0_7)]), some (.lit 0 77 [.c (slC e61 ((a0_7.getD y16.toNat e77.d).1)), .c (slC e61 ((a0_7.getD y16.toNat e77.d).2.1)), .c (.int .u8 ((a0_7.getD y16.toNat e77.d).2.2.1)), .c (.int .i64 ((a0_7.getD y16.toNat e77.d).2.2.2))])]) (T' := [(2, .cell (.c (.bool false)))]) (Φ := (True)) 1 [2] (by kernel_rfl) trivial (by kernel_rfl) ?_
                              refine thenQ_n ?_
                              refine W_ret_at (by kernel_rfl) ?_
                              refine blockQ_r ?_
                              refine thenQ_r ?_
                              obtain rfl := Option.some.inj h; refine round_r rfl (fun hb => ?_); subst hb; have h := kb17; dsimp only at h
                              refine blockQ_r ?_
                              obtain rfl := Option.some.inj h; have h := ky14; dsimp only at h; refine thenQ_r ?_
                              obtain rfl := Option.some.inj h
                              exact qret [.cell (.c (.bool false))] (by kernel_rfl) (by kernel_rfl) ([]) (by kernel_rfl)
                            · have h := cond_f hb h
                              refine W_skip_at (by kernel_rfl) ?_
                              refine blockQ_n ?_
                              refine thenQ_n ?_
                              refine W_region_at (by kernel_rfl) ?_
                              obtain ⟨c20, h⟩ := ck_bind h
                              refine WO_fin (σ' := [some (.lit 0 27 [.c (.int .i64 a0_0), .c (.int .i64 a0_1), .c (.int .i64 a0_2), .c (.int .i64 a0_3), .c (slC e28 a0_4), .c (slC e72 a0_5), .c (slC e65 a0_6), .c (slC e77 a0_7)]), some (.lit 0 77 [.c (slC e61 ((a0_7.getD y16.toNat e77.d).1)), .c (slC e61 ((a0_7.getD y16.toNat e77.d).2.1)), .c (.int .u8 ((a0_7.getD y16.toNat e77.d).2.2.1)), .c (.int .i64 ((a0_7.getD y16.toNat e77.d).2.2.2))])]) (T' := [(1, .cell (.op 0 0 8 0 0)), (91, .cell (.c (slC e77 a0_7))), (92, .cell (.c (.int .i64 (a0_7.length : Int)))), (93, .cell (.c (.int .i64 (y16 + (1 : Int)))))]) (Φ := (inR .i64 (y16 + (1 : Int))) ∧ (True)) 2 [1, 91, 92, 93] (by kernel_rfl) ⟨c20, trivial⟩ (by kernel_rfl) ?_
                              obtain rfl := Option.some.inj h
                              exact round_n _ rfl (stps_ok [.keep [1, 91, 92, 93], .take 1] (by kernel_rfl))
                          · have h := cond_f hb h
                            refine W_exit_at 4 (by kernel_rfl) (by kernel_rfl) ?_
                            refine thenQ_e ?_
                            obtain rfl := Option.some.inj h; refine round_e rfl (fun hb => ?_); subst hb; have h := kb17; dsimp only at h
                            refine blockQ_hit ?_
                            obtain rfl := Option.some.inj h
                            exact thenQ_n ⟨_, rfl, stps_ok [.keep [], .take 1] (by kernel_rfl)⟩
                      · have h := gy12; clear gy12
                        refine W_seq_at (by kernel_rfl) ?_
                        refine W_region_at (by kernel_rfl) ?_
                        refine WO_fin (σ' := [some (.lit 0 27 [.c (.int .i64 a0_0), .c (.int .i64 a0_1), .c (.int .i64 a0_2), .c (.int .i64 a0_3), .c (slC e28 a0_4), .c (slC e72 a0_5), .c (slC e65 a0_6), .c (slC e77 a0_7)])]) (T' := [(1, .cell (.op 0 0 8 0 0)), (79, .cell (.c (slC e65 a0_6))), (80, .cell (.c (.int .i64 (a0_6.length : Int)))), (81, .cell (.c (.int .i64 (0 : Int))))]) (Φ := (True)) 4 [1, 79, 80, 81] (by kernel_rfl) trivial (by kernel_rfl) ?_
                        refine thenQ_n ?_
                        refine W_block_at 2 (by kernel_rfl) (by kernel_rfl) ?_
                        obtain ⟨b22, gb22, kb22⟩ := bind_some h
                        refine W_loop_at (S := fun (y21 : Int) => ([some (.lit 0 27 [.c (.int .i64 a0_0), .c (.int .i64 a0_1), .c (.int .i64 a0_2), .c (.int .i64 a0_3), .c (slC e28 a0_4), .c (slC e72 a0_5), .c (slC e65 a0_6), .c (slC e77 a0_7)])], [(1, .cell (.op 0 0 8 0 0)), (79, .cell (.c (slC e65 a0_6))), (80, .cell (.c (.int .i64 (a0_6.length : Int)))), (81, .cell (.c (.int .i64 y21)))])) (step := _) (x0 := (0 : Int)) (b := b22) (L.ok _ _ _ gb22) (by kernel_rfl) (stps_ok [.keep [1, 79, 80, 81], .take 1] (by kernel_rfl)) ?_
                        clear gb22 h; intro y21 o h; unfold s18_1 at h
                        refine W_seq_at (by kernel_rfl) ?_
                        refine W_region_at (by kernel_rfl) ?_
                        refine WO_fin (σ' := [some (.lit 0 27 [.c (.int .i64 a0_0), .c (.int .i64 a0_1), .c (.int .i64 a0_2), .c (.int .i64 a0_3), .c (slC e28 a0_4), .c (slC e72 a0_5), .c (slC e65 a0_6), .c (slC e77 a0_7)])]) (T' := [(1, .cell (.op 0 0 8 0 0)), (79, .cell (.c (slC e65 a0_6))), (80, .cell (.c (.int .i64 (a0_6.length : Int)))), (81, .cell (.c (.int .i64 y21))), (82, .cell (.c (.bool (decide (y21 < (a0_6.length : Int))))))]) (Φ := (True)) 1 [1, 79, 80, 81, 82] (by kernel_rfl) trivial (by kernel_rfl) ?_
                        refine thenQ_n ?_
                        refine W_seq_at (by kernel_rfl) ?_
                        refine W_cond_at (b := (decide (y21 < (a0_6.length : Int)))) (by kernel_rfl) (fun hb => ?_) (fun hb => ?_)
                        · have h := cond_t hb h
                          refine W_skip_at (by kernel_rfl) ?_
                          refine thenQ_n ?_
                          refine W_seq_at (by kernel_rfl) ?_
                          refine W_block_at 3 (by kernel_rfl) (by kernel_rfl) ?_
                          refine W_seq_at (by kernel_rfl) ?_
                          refine W_region_at (by kernel_rfl) ?_
                          obtain ⟨c23, h⟩ := ck_bind h
                          refine WO_fin (σ' := [some (.lit 0 27 [.c (.int .i64 a0_0), .c (.int .i64 a0_1), .c (.int .i64 a0_2), .c (.int .i64 a0_3), .c (slC e28 a0_4), .c (slC e72 a0_5), .c (slC e65 a0_6), .c (slC e77 a0_7)]), some (.lit 0 65 [.c (slC e62 ((a0_6.getD y21.toNat e65.d).1)), .c (slC e62 ((a0_6.getD y21.toNat e65.d).2))])]) (T' := [(1, .cell (.op 0 0 8 0 0)), (6, .cell (.op 1 0 2 0 0)), (79, .cell (.c (slC e65 a0_6))), (80, .cell (.c (.int .i64 (a0_6.length : Int)))), (81, .cell (.c (.int .i64 y21)))]) (Φ := (0 ≤ y21 ∧ y21 < (a0_6.length : Int)) ∧ (True)) 4 [1, 6, 79, 80, 81] (by kernel_rfl) ⟨c23, trivial⟩ (by kernel_rfl) ?_
                          refine thenQ_n ?_
                          refine W_seq_at (by kernel_rfl) ?_
                          refine W_region_at (by kernel_rfl) ?_
                          refine WO_exk (σ' := [some (.lit 0 27 [.c (.int .i64 a0_0), .c (.int .i64 a0_1), .c (.int .i64 a0_2), .c (.int .i64 a0_3), .c (slC e28 a0_4), .c (slC e72 a0_5), .c (slC e65 a0_6), .c (slC e77 a0_7)]), some (.lit 0 65 [.c (slC e62 ((a0_6.getD y21.toNat e65.d).1)), .c (slC e62 ((a0_6.getD y21.toNat e65.d).2))])]) (T' := [(1, .cell (.op 0 0 8 0 0)), (79, .cell (.c (slC e65 a0_6))), (80, .cell (.c (.int .i64 (a0_6.length : Int)))), (81, .cell (.c (.int .i64 y21))), (85, .agg [.c (.int .i64 a0_0), .c (.int .i64 a0_1), .c (.int .i64 a0_2), .c (.int .i64 a0_3), .c (slC e28 a0_4), .c (slC e72 a0_5), .c (slC e65 a0_6), .c (slC e77 a0_7)]), (86, .agg [.c (slC e62 ((a0_6.getD y21.toNat e65.d).1)), .c (slC e62 ((a0_6.getD y21.toNat e65.d).2))])]) (Φ := (True)) 2 [1, 79, 80, 81, 85, 86] (by kernel_rfl) trivial ?_
                          obtain ⟨r24, gr24, h⟩ := bind_some h
                          refine WO_call (f := 64) (all := [.agg [.c (.int .i64 a0_0), .c (.int .i64 a0_1), .c (.int .i64 a0_2), .c (.int .i64 a0_3), .c (slC e28 a0_4), .c (slC e72 a0_5), .c (slC e65 a0_6), .c (slC e77 a0_7)], .agg [.c (slC e62 ((a0_6.getD y21.toNat e65.d).1)), .c (slC e62 ((a0_6.getD y21.toNat e65.d).2))]]) (d := some 87) (r := .cell (.c (.bool r24))) (by kernel_rfl) (by kernel_rfl) (by kernel_rfl) Tryd.call64 (p64 L _ _ _ _ _ _ _ _ _ _ _ gr24) ?_
                          refine WO_fin (σ' := [some (.lit 0 27 [.c (.int .i64 a0_0), .c (.int .i64 a0_1), .c (.int .i64 a0_2), .c (.int .i64 a0_3), .c (slC e28 a0_4), .c (slC e72 a0_5), .c (slC e65 a0_6), .c (slC e77 a0_7)]), some (.lit 0 65 [.c (slC e62 ((a0_6.getD y21.toNat e65.d).1)), .c (slC e62 ((a0_6.getD y21.toNat e65.d).2))])]) (T' := [(1, .cell (.op 0 0 8 0 0)), (79, .cell (.c (slC e65 a0_6))), (80, .cell (.c (.int .i64 (a0_6.length : Int)))), (81, .cell (.c (.int .i64 y21))), (88, .cell (.c (.bool (!r24))))]) (Φ := (True)) 1 [1, 79, 80, 81, 88] (by kernel_rfl) trivial (by kernel_rfl) ?_
                          refine thenQ_n ?_
                          refine W_cond_at (b := (!r24)) (by kernel_rfl) (fun hb => ?_) (fun hb => ?_)
                          · have h := cond_t hb h
                            refine W_seq_at (by kernel_rfl) ?_
                            refine W_region_at (by kernel_rfl) ?_
                            refine WO_fin (σ' := [some (.lit 0 27 [.c (.int .i64 a0_0), .c (.int .i64 a0_1), .c (.int .i64 a0_2), .c (.int .i64 a0_3), .c (slC e28 a0_4), .c (slC e72 a0_5), .c (slC e65 a0_6), .c (slC e77 a0_7)]), some (.lit 0 65 [.c (slC e62 ((a0_6.getD y21.toNat e65.d).1)), .c (slC e62 ((a0_6.getD y21.toNat e65.d).2))])]) (T' := [(2, .cell (.c (.bool false)))]) (Φ := (True)) 1 [2] (by kernel_rfl) trivial (by kernel_rfl) ?_
                            refine thenQ_n ?_
                            refine W_ret_at (by kernel_rfl) ?_
                            refine blockQ_r ?_
                            refine thenQ_r ?_
                            obtain rfl := Option.some.inj h; refine round_r rfl (fun hb => ?_); subst hb; have h := kb22; dsimp only at h
                            refine blockQ_r ?_
                            obtain rfl := Option.some.inj h; have h := ky12; dsimp only at h; refine thenQ_r ?_
                            obtain rfl := Option.some.inj h
                            exact qret [.cell (.c (.bool false))] (by kernel_rfl) (by kernel_rfl) ([]) (by kernel_rfl)
                          · have h := cond_f hb h
                            refine W_skip_at (by kernel_rfl) ?_
                            refine blockQ_n ?_
                            refine thenQ_n ?_
                            refine W_region_at (by kernel_rfl) ?_
                            obtain ⟨c25, h⟩ := ck_bind h
                            refine WO_fin (σ' := [some (.lit 0 27 [.c (.int .i64 a0_0), .c (.int .i64 a0_1), .c (.int .i64 a0_2), .c (.int .i64 a0_3), .c (slC e28 a0_4), .c (slC e72 a0_5), .c (slC e65 a0_6), .c (slC e77 a0_7)]), some (.lit 0 65 [.c (slC e62 ((a0_6.getD y21.toNat e65.d).1)), .c (slC e62 ((a0_6.getD y21.toNat e65.d).2))])]) (T' := [(1, .cell (.op 0 0 8 0 0)), (79, .cell (.c (slC e65 a0_6))), (80, .cell (.c (.int .i64 (a0_6.length : Int)))), (81, .cell (.c (.int .i64 (y21 + (1 : Int)))))]) (Φ := (inR .i64 (y21 + (1 : Int))) ∧ (True)) 2 [1, 79, 80, 81] (by kernel_rfl) ⟨c25, trivial⟩ (by kernel_rfl) ?_
                            obtain rfl := Option.some.inj h
                            exact round_n _ rfl (stps_ok [.keep [1, 79, 80, 81], .take 1] (by kernel_rfl))
                        · have h := cond_f hb h
                          refine W_exit_at 2 (by kernel_rfl) (by kernel_rfl) ?_
                          refine thenQ_e ?_
                          obtain rfl := Option.some.inj h; refine round_e rfl (fun hb => ?_); subst hb; have h := kb22; dsimp only at h
                          refine blockQ_hit ?_
                          obtain rfl := Option.some.inj h
                          exact thenQ_n ⟨_, rfl, stps_ok [.keep [1], .take 1] (by kernel_rfl)⟩
                    · have h := gy10; clear gy10
                      refine W_seq_at (by kernel_rfl) ?_
                      refine W_region_at (by kernel_rfl) ?_
                      refine WO_fin (σ' := [some (.lit 0 27 [.c (.int .i64 a0_0), .c (.int .i64 a0_1), .c (.int .i64 a0_2), .c (.int .i64 a0_3), .c (slC e28 a0_4), .c (slC e72 a0_5), .c (slC e65 a0_6), .c (slC e77 a0_7)])]) (T' := [(1, .cell (.op 0 0 8 0 0)), (67, .cell (.c (slC e72 a0_5))), (68, .cell (.c (.int .i64 (a0_5.length : Int)))), (69, .cell (.c (.int .i64 (0 : Int))))]) (Φ := (True)) 4 [1, 67, 68, 69] (by kernel_rfl) trivial (by kernel_rfl) ?_
                      refine thenQ_n ?_
                      refine W_block_at 0 (by kernel_rfl) (by kernel_rfl) ?_
                      obtain ⟨b27, gb27, kb27⟩ := bind_some h
                      refine W_loop_at (S := fun (y26 : Int) => ([some (.lit 0 27 [.c (.int .i64 a0_0), .c (.int .i64 a0_1), .c (.int .i64 a0_2), .c (.int .i64 a0_3), .c (slC e28 a0_4), .c (slC e72 a0_5), .c (slC e65 a0_6), .c (slC e77 a0_7)])], [(1, .cell (.op 0 0 8 0 0)), (67, .cell (.c (slC e72 a0_5))), (68, .cell (.c (.int .i64 (a0_5.length : Int)))), (69, .cell (.c (.int .i64 y26)))])) (step := _) (x0 := (0 : Int)) (b := b27) (L.ok _ _ _ gb27) (by kernel_rfl) (stps_ok [.keep [1, 67, 68, 69], .take 1] (by kernel_rfl)) ?_
                      clear gb27 h; intro y26 o h; unfold s18_2 at h
                      refine W_seq_at (by kernel_rfl) ?_
                      refine W_region_at (by kernel_rfl) ?_
                      refine WO_fin (σ' := [some (.lit 0 27 [.c (.int .i64 a0_0), .c (.int .i64 a0_1), .c (.int .i64 a0_2), .c (.int .i64 a0_3), .c (slC e28 a0_4), .c (slC e72 a0_5), .c (slC e65 a0_6), .c (slC e77 a0_7)])]) (T' := [(1, .cell (.op 0 0 8 0 0)), (67, .cell (.c (slC e72 a0_5))), (68, .cell (.c (.int .i64 (a0_5.length : Int)))), (69, .cell (.c (.int .i64 y26))), (70, .cell (.c (.bool (decide (y26 < (a0_5.length : Int))))))]) (Φ := (True)) 1 [1, 67, 68, 69, 70] (by kernel_rfl) trivial (by kernel_rfl) ?_
                      refine thenQ_n ?_
                      refine W_seq_at (by kernel_rfl) ?_
                      refine W_cond_at (b := (decide (y26 < (a0_5.length : Int)))) (by kernel_rfl) (fun hb => ?_) (fun hb => ?_)
                      · have h := cond_t hb h
                        refine W_skip_at (by kernel_rfl) ?_
                        refine thenQ_n ?_
                        refine W_seq_at (by kernel_rfl) ?_
                        refine W_block_at 1 (by kernel_rfl) (by kernel_rfl) ?_
                        refine W_seq_at (by kernel_rfl) ?_
                        refine W_region_at (by kernel_rfl) ?_
                        obtain ⟨c28, h⟩ := ck_bind h
                        refine WO_fin (σ' := [some (.lit 0 27 [.c (.int .i64 a0_0), .c (.int .i64 a0_1), .c (.int .i64 a0_2), .c (.int .i64 a0_3), .c (slC e28 a0_4), .c (slC e72 a0_5), .c (slC e65 a0_6), .c (slC e77 a0_7)]), some (.lit 0 72 [.c (.int .u8 ((a0_5.getD y26.toNat e72.d).1)), .c (slC e74 ((a0_5.getD y26.toNat e72.d).2))])]) (T' := [(1, .cell (.op 0 0 8 0 0)), (4, .cell (.op 1 0 2 0 0)), (67, .cell (.c (slC e72 a0_5))), (68, .cell (.c (.int .i64 (a0_5.length : Int)))), (69, .cell (.c (.int .i64 y26)))]) (Φ := (0 ≤ y26 ∧ y26 < (a0_5.length : Int)) ∧ (True)) 4 [1, 4, 67, 68, 69] (by kernel_rfl) ⟨c28, trivial⟩ (by kernel_rfl) ?_
                        refine thenQ_n ?_
                        refine W_seq_at (by kernel_rfl) ?_
                        refine W_region_at (by kernel_rfl) ?_
                        refine WO_exk (σ' := [some (.lit 0 27 [.c (.int .i64 a0_0), .c (.int .i64 a0_1), .c (.int .i64 a0_2), .c (.int .i64 a0_3), .c (slC e28 a0_4), .c (slC e72 a0_5), .c (slC e65 a0_6), .c (slC e77 a0_7)]), some (.lit 0 72 [.c (.int .u8 ((a0_5.getD y26.toNat e72.d).1)), .c (slC e74 ((a0_5.getD y26.toNat e72.d).2))])]) (T' := [(1, .cell (.op 0 0 8 0 0)), (67, .cell (.c (slC e72 a0_5))), (68, .cell (.c (.int .i64 (a0_5.length : Int)))), (69, .cell (.c (.int .i64 y26))), (73, .agg [.c (.int .i64 a0_0), .c (.int .i64 a0_1), .c (.int .i64 a0_2), .c (.int .i64 a0_3), .c (slC e28 a0_4), .c (slC e72 a0_5), .c (slC e65 a0_6), .c (slC e77 a0_7)]), (74, .agg [.c (.int .u8 ((a0_5.getD y26.toNat e72.d).1)), .c (slC e74 ((a0_5.getD y26.toNat e72.d).2))])]) (Φ := (True)) 2 [1, 67, 68, 69, 73, 74] (by kernel_rfl) trivial ?_
                        obtain ⟨r29, gr29, h⟩ := bind_some h
                        refine WO_call (f := 63) (all := [.agg [.c (.int .i64 a0_0), .c (.int .i64 a0_1), .c (.int .i64 a0_2), .c (.int .i64 a0_3), .c (slC e28 a0_4), .c (slC e72 a0_5), .c (slC e65 a0_6), .c (slC e77 a0_7)], .agg [.c (.int .u8 ((a0_5.getD y26.toNat e72.d).1)), .c (slC e74 ((a0_5.getD y26.toNat e72.d).2))]]) (d := some 75) (r := .cell (.c (.bool r29))) (by kernel_rfl) (by kernel_rfl) (by kernel_rfl) Tryd.call63 (p63 L _ _ _ _ _ _ _ _ _ _ _ gr29) ?_
                        refine WO_fin (σ' := [some (.lit 0 27 [.c (.int .i64 a0_0), .c (.int .i64 a0_1), .c (.int .i64 a0_2), .c (.int .i64 a0_3), .c (slC e28 a0_4), .c (slC e72 a0_5), .c (slC e65 a0_6), .c (slC e77 a0_7)]), some (.lit 0 72 [.c (.int .u8 ((a0_5.getD y26.toNat e72.d).1)), .c (slC e74 ((a0_5.getD y26.toNat e72.d).2))])]) (T' := [(1, .cell (.op 0 0 8 0 0)), (67, .cell (.c (slC e72 a0_5))), (68, .cell (.c (.int .i64 (a0_5.length : Int)))), (69, .cell (.c (.int .i64 y26))), (76, .cell (.c (.bool (!r29))))]) (Φ := (True)) 1 [1, 67, 68, 69, 76] (by kernel_rfl) trivial (by kernel_rfl) ?_
                        refine thenQ_n ?_
                        refine W_cond_at (b := (!r29)) (by kernel_rfl) (fun hb => ?_) (fun hb => ?_)
                        · have h := cond_t hb h
                          refine W_seq_at (by kernel_rfl) ?_
                          refine W_region_at (by kernel_rfl) ?_
                          refine WO_fin (σ' := [some (.lit 0 27 [.c (.int .i64 a0_0), .c (.int .i64 a0_1), .c (.int .i64 a0_2), .c (.int .i64 a0_3), .c (slC e28 a0_4), .c (slC e72 a0_5), .c (slC e65 a0_6), .c (slC e77 a0_7)]), some (.lit 0 72 [.c (.int .u8 ((a0_5.getD y26.toNat e72.d).1)), .c (slC e74 ((a0_5.getD y26.toNat e72.d).2))])]) (T' := [(2, .cell (.c (.bool false)))]) (Φ := (True)) 1 [2] (by kernel_rfl) trivial (by kernel_rfl) ?_
                          refine thenQ_n ?_
                          refine W_ret_at (by kernel_rfl) ?_
                          refine blockQ_r ?_
                          refine thenQ_r ?_
                          obtain rfl := Option.some.inj h; refine round_r rfl (fun hb => ?_); subst hb; have h := kb27; dsimp only at h
                          refine blockQ_r ?_
                          obtain rfl := Option.some.inj h; have h := ky10; dsimp only at h; refine thenQ_r ?_
                          obtain rfl := Option.some.inj h
                          exact qret [.cell (.c (.bool false))] (by kernel_rfl) (by kernel_rfl) ([]) (by kernel_rfl)
                        · have h := cond_f hb h
                          refine W_skip_at (by kernel_rfl) ?_
                          refine blockQ_n ?_
                          refine thenQ_n ?_
                          refine W_region_at (by kernel_rfl) ?_
                          obtain ⟨c30, h⟩ := ck_bind h
                          refine WO_fin (σ' := [some (.lit 0 27 [.c (.int .i64 a0_0), .c (.int .i64 a0_1), .c (.int .i64 a0_2), .c (.int .i64 a0_3), .c (slC e28 a0_4), .c (slC e72 a0_5), .c (slC e65 a0_6), .c (slC e77 a0_7)]), some (.lit 0 72 [.c (.int .u8 ((a0_5.getD y26.toNat e72.d).1)), .c (slC e74 ((a0_5.getD y26.toNat e72.d).2))])]) (T' := [(1, .cell (.op 0 0 8 0 0)), (67, .cell (.c (slC e72 a0_5))), (68, .cell (.c (.int .i64 (a0_5.length : Int)))), (69, .cell (.c (.int .i64 (y26 + (1 : Int)))))]) (Φ := (inR .i64 (y26 + (1 : Int))) ∧ (True)) 2 [1, 67, 68, 69] (by kernel_rfl) ⟨c30, trivial⟩ (by kernel_rfl) ?_
                          obtain rfl := Option.some.inj h
                          exact round_n _ rfl (stps_ok [.keep [1, 67, 68, 69], .take 1] (by kernel_rfl))
                      · have h := cond_f hb h
                        refine W_exit_at 0 (by kernel_rfl) (by kernel_rfl) ?_
                        refine thenQ_e ?_
                        obtain rfl := Option.some.inj h; refine round_e rfl (fun hb => ?_); subst hb; have h := kb27; dsimp only at h
                        refine blockQ_hit ?_
                        obtain rfl := Option.some.inj h
                        exact thenQ_n ⟨_, rfl, stps_ok [.keep [1], .take 1] (by kernel_rfl)⟩
              · intro J
                clear h
                rcases Bool.eq_false_or_eq_true y6 with hb | hb
                · have h := cond_t hb gy7; clear gy7
                  refine WO_ent (ent_bool (T' := [(51, .cell (.c (.bool true))), (1, .cell (.op 0 0 8 0 0))]) 51 hb (by kernel_rfl) (by kernel_rfl)) ?_
                  obtain rfl := Option.some.inj h
                  refine WO_exk (σ' := [some (.lit 0 27 [.c (.int .i64 a0_0), .c (.int .i64 a0_1), .c (.int .i64 a0_2), .c (.int .i64 a0_3), .c (slC e28 a0_4), .c (slC e72 a0_5), .c (slC e65 a0_6), .c (slC e77 a0_7)])]) (T' := [(1, .cell (.op 0 0 8 0 0)), (56, .cell (.c (.bool true)))]) (Φ := True) 5 [1, 56] (by kernel_rfl) trivial J
                · have h := cond_f hb gy7; clear gy7
                  refine WO_ent (ent_bool (T' := [(51, .cell (.c (.bool false))), (1, .cell (.op 0 0 8 0 0))]) 51 hb (by kernel_rfl) (by kernel_rfl)) ?_
                  refine WO_exk (σ' := [some (.lit 0 27 [.c (.int .i64 a0_0), .c (.int .i64 a0_1), .c (.int .i64 a0_2), .c (.int .i64 a0_3), .c (slC e28 a0_4), .c (slC e72 a0_5), .c (slC e65 a0_6), .c (slC e77 a0_7)])]) (T' := [(1, .cell (.op 0 0 8 0 0)), (51, .cell (.c (.bool false))), (55, .cell (.c (.bool (decide ((a0_7.length : Int) > (8 : Int))))))]) (Φ := (True)) 4 [1, 51, 55] (by kernel_rfl) trivial ?_
                  obtain rfl := Option.some.inj h
                  refine WO_exk (σ' := [some (.lit 0 27 [.c (.int .i64 a0_0), .c (.int .i64 a0_1), .c (.int .i64 a0_2), .c (.int .i64 a0_3), .c (slC e28 a0_4), .c (slC e72 a0_5), .c (slC e65 a0_6), .c (slC e77 a0_7)])]) (T' := [(1, .cell (.op 0 0 8 0 0)), (56, .cell (.c (.bool (decide ((a0_7.length : Int) > (8 : Int))))))]) (Φ := True) 1 [1, 56] (by kernel_rfl) trivial J
            · intro J
              clear h
              rcases Bool.eq_false_or_eq_true y5 with hb | hb
              · have h := cond_t hb gy6; clear gy6
                refine WO_ent (ent_bool (T' := [(45, .cell (.c (.bool true))), (1, .cell (.op 0 0 8 0 0))]) 45 hb (by kernel_rfl) (by kernel_rfl)) ?_
                obtain rfl := Option.some.inj h
                refine WO_exk (σ' := [some (.lit 0 27 [.c (.int .i64 a0_0), .c (.int .i64 a0_1), .c (.int .i64 a0_2), .c (.int .i64 a0_3), .c (slC e28 a0_4), .c (slC e72 a0_5), .c (slC e65 a0_6), .c (slC e77 a0_7)])]) (T' := [(1, .cell (.op 0 0 8 0 0)), (50, .cell (.c (.bool true)))]) (Φ := True) 5 [1, 50] (by kernel_rfl) trivial J
              · have h := cond_f hb gy6; clear gy6
                refine WO_ent (ent_bool (T' := [(45, .cell (.c (.bool false))), (1, .cell (.op 0 0 8 0 0))]) 45 hb (by kernel_rfl) (by kernel_rfl)) ?_
                refine WO_exk (σ' := [some (.lit 0 27 [.c (.int .i64 a0_0), .c (.int .i64 a0_1), .c (.int .i64 a0_2), .c (.int .i64 a0_3), .c (slC e28 a0_4), .c (slC e72 a0_5), .c (slC e65 a0_6), .c (slC e77 a0_7)])]) (T' := [(1, .cell (.op 0 0 8 0 0)), (45, .cell (.c (.bool false))), (49, .cell (.c (.bool (decide ((a0_6.length : Int) > (4 : Int))))))]) (Φ := (True)) 4 [1, 45, 49] (by kernel_rfl) trivial ?_
                obtain rfl := Option.some.inj h
                refine WO_exk (σ' := [some (.lit 0 27 [.c (.int .i64 a0_0), .c (.int .i64 a0_1), .c (.int .i64 a0_2), .c (.int .i64 a0_3), .c (slC e28 a0_4), .c (slC e72 a0_5), .c (slC e65 a0_6), .c (slC e77 a0_7)])]) (T' := [(1, .cell (.op 0 0 8 0 0)), (50, .cell (.c (.bool (decide ((a0_6.length : Int) > (4 : Int))))))]) (Φ := True) 1 [1, 50] (by kernel_rfl) trivial J
          · intro J
            clear h
            rcases Bool.eq_false_or_eq_true (decide ((a0_4.length : Int) > (64 : Int))) with hb | hb
            · have h := cond_t hb gy5; clear gy5
              refine WO_ent (ent_bool (T' := [(39, .cell (.c (.bool true))), (1, .cell (.op 0 0 8 0 0))]) 39 hb (by kernel_rfl) (by kernel_rfl)) ?_
              obtain rfl := Option.some.inj h
              refine WO_exk (σ' := [some (.lit 0 27 [.c (.int .i64 a0_0), .c (.int .i64 a0_1), .c (.int .i64 a0_2), .c (.int .i64 a0_3), .c (slC e28 a0_4), .c (slC e72 a0_5), .c (slC e65 a0_6), .c (slC e77 a0_7)])]) (T' := [(1, .cell (.op 0 0 8 0 0)), (44, .cell (.c (.bool true)))]) (Φ := True) 5 [1, 44] (by kernel_rfl) trivial J
            · have h := cond_f hb gy5; clear gy5
              refine WO_ent (ent_bool (T' := [(39, .cell (.c (.bool false))), (1, .cell (.op 0 0 8 0 0))]) 39 hb (by kernel_rfl) (by kernel_rfl)) ?_
              refine WO_exk (σ' := [some (.lit 0 27 [.c (.int .i64 a0_0), .c (.int .i64 a0_1), .c (.int .i64 a0_2), .c (.int .i64 a0_3), .c (slC e28 a0_4), .c (slC e72 a0_5), .c (slC e65 a0_6), .c (slC e77 a0_7)])]) (T' := [(1, .cell (.op 0 0 8 0 0)), (39, .cell (.c (.bool false))), (43, .cell (.c (.bool (decide ((a0_5.length : Int) > (64 : Int))))))]) (Φ := (True)) 4 [1, 39, 43] (by kernel_rfl) trivial ?_
              obtain rfl := Option.some.inj h
              refine WO_exk (σ' := [some (.lit 0 27 [.c (.int .i64 a0_0), .c (.int .i64 a0_1), .c (.int .i64 a0_2), .c (.int .i64 a0_3), .c (slC e28 a0_4), .c (slC e72 a0_5), .c (slC e65 a0_6), .c (slC e77 a0_7)])]) (T' := [(1, .cell (.op 0 0 8 0 0)), (44, .cell (.c (.bool (decide ((a0_5.length : Int) > (64 : Int))))))]) (Φ := True) 1 [1, 44] (by kernel_rfl) trivial J
      · intro J
        clear h
        rcases Bool.eq_false_or_eq_true y3 with hb | hb
        · have h := cond_t hb gy4; clear gy4
          refine WO_ent (ent_bool (T' := [(29, .cell (.c (.bool true))), (1, .cell (.op 0 0 8 0 0))]) 29 hb (by kernel_rfl) (by kernel_rfl)) ?_
          obtain rfl := Option.some.inj h
          refine WO_exk (σ' := [some (.lit 0 27 [.c (.int .i64 a0_0), .c (.int .i64 a0_1), .c (.int .i64 a0_2), .c (.int .i64 a0_3), .c (slC e28 a0_4), .c (slC e72 a0_5), .c (slC e65 a0_6), .c (slC e77 a0_7)])]) (T' := [(1, .cell (.op 0 0 8 0 0)), (34, .cell (.c (.bool true)))]) (Φ := True) 5 [1, 34] (by kernel_rfl) trivial J
        · have h := cond_f hb gy4; clear gy4
          refine WO_ent (ent_bool (T' := [(29, .cell (.c (.bool false))), (1, .cell (.op 0 0 8 0 0))]) 29 hb (by kernel_rfl) (by kernel_rfl)) ?_
          refine WO_exk (σ' := [some (.lit 0 27 [.c (.int .i64 a0_0), .c (.int .i64 a0_1), .c (.int .i64 a0_2), .c (.int .i64 a0_3), .c (slC e28 a0_4), .c (slC e72 a0_5), .c (slC e65 a0_6), .c (slC e77 a0_7)])]) (T' := [(1, .cell (.op 0 0 8 0 0)), (29, .cell (.c (.bool false))), (31, .cell (.c (.int .i64 a0_3)))]) (Φ := (True)) 2 [1, 29, 31] (by kernel_rfl) trivial ?_
          obtain ⟨r31, gr31, h⟩ := bind_some h
          refine WO_call (f := 45) (all := [.cell (.c (.int .i64 a0_3)), .cell (.c (.int .i64 (0 : Int))), .cell (.c (.int .i64 (16 : Int)))]) (d := some 32) (r := .cell (.c (.bool r31))) (by kernel_rfl) (by kernel_rfl) (by kernel_rfl) Tryd.call45 (p45 L _ _ _ _ gr31) ?_
          refine WO_exk (σ' := [some (.lit 0 27 [.c (.int .i64 a0_0), .c (.int .i64 a0_1), .c (.int .i64 a0_2), .c (.int .i64 a0_3), .c (slC e28 a0_4), .c (slC e72 a0_5), .c (slC e65 a0_6), .c (slC e77 a0_7)])]) (T' := [(1, .cell (.op 0 0 8 0 0)), (29, .cell (.c (.bool false))), (33, .cell (.c (.bool (!r31))))]) (Φ := (True)) 1 [1, 29, 33] (by kernel_rfl) trivial ?_
          obtain rfl := Option.some.inj h
          refine WO_exk (σ' := [some (.lit 0 27 [.c (.int .i64 a0_0), .c (.int .i64 a0_1), .c (.int .i64 a0_2), .c (.int .i64 a0_3), .c (slC e28 a0_4), .c (slC e72 a0_5), .c (slC e65 a0_6), .c (slC e77 a0_7)])]) (T' := [(1, .cell (.op 0 0 8 0 0)), (34, .cell (.c (.bool (!r31))))]) (Φ := True) 1 [1, 34] (by kernel_rfl) trivial J
    · intro J
      clear h
      rcases Bool.eq_false_or_eq_true y2 with hb | hb
      · have h := cond_t hb gy3; clear gy3
        refine WO_ent (ent_bool (T' := [(23, .cell (.c (.bool true))), (1, .cell (.op 0 0 8 0 0))]) 23 hb (by kernel_rfl) (by kernel_rfl)) ?_
        obtain rfl := Option.some.inj h
        refine WO_exk (σ' := [some (.lit 0 27 [.c (.int .i64 a0_0), .c (.int .i64 a0_1), .c (.int .i64 a0_2), .c (.int .i64 a0_3), .c (slC e28 a0_4), .c (slC e72 a0_5), .c (slC e65 a0_6), .c (slC e77 a0_7)])]) (T' := [(1, .cell (.op 0 0 8 0 0)), (28, .cell (.c (.bool true)))]) (Φ := True) 5 [1, 28] (by kernel_rfl) trivial J
      · have h := cond_f hb gy3; clear gy3
        refine WO_ent (ent_bool (T' := [(23, .cell (.c (.bool false))), (1, .cell (.op 0 0 8 0 0))]) 23 hb (by kernel_rfl) (by kernel_rfl)) ?_
        refine WO_exk (σ' := [some (.lit 0 27 [.c (.int .i64 a0_0), .c (.int .i64 a0_1), .c (.int .i64 a0_2), .c (.int .i64 a0_3), .c (slC e28 a0_4), .c (slC e72 a0_5), .c (slC e65 a0_6), .c (slC e77 a0_7)])]) (T' := [(1, .cell (.op 0 0 8 0 0)), (23, .cell (.c (.bool false))), (25, .cell (.c (.int .i64 a0_2)))]) (Φ := (True)) 2 [1, 23, 25] (by kernel_rfl) trivial ?_
        obtain ⟨r32, gr32, h⟩ := bind_some h
        refine WO_call (f := 45) (all := [.cell (.c (.int .i64 a0_2)), .cell (.c (.int .i64 (1 : Int))), .cell (.c (.int .i64 (64 : Int)))]) (d := some 26) (r := .cell (.c (.bool r32))) (by kernel_rfl) (by kernel_rfl) (by kernel_rfl) Tryd.call45 (p45 L _ _ _ _ gr32) ?_
        refine WO_exk (σ' := [some (.lit 0 27 [.c (.int .i64 a0_0), .c (.int .i64 a0_1), .c (.int .i64 a0_2), .c (.int .i64 a0_3), .c (slC e28 a0_4), .c (slC e72 a0_5), .c (slC e65 a0_6), .c (slC e77 a0_7)])]) (T' := [(1, .cell (.op 0 0 8 0 0)), (23, .cell (.c (.bool false))), (27, .cell (.c (.bool (!r32))))]) (Φ := (True)) 1 [1, 23, 27] (by kernel_rfl) trivial ?_
        obtain rfl := Option.some.inj h
        refine WO_exk (σ' := [some (.lit 0 27 [.c (.int .i64 a0_0), .c (.int .i64 a0_1), .c (.int .i64 a0_2), .c (.int .i64 a0_3), .c (slC e28 a0_4), .c (slC e72 a0_5), .c (slC e65 a0_6), .c (slC e77 a0_7)])]) (T' := [(1, .cell (.op 0 0 8 0 0)), (28, .cell (.c (.bool (!r32))))]) (Φ := True) 1 [1, 28] (by kernel_rfl) trivial J
  · intro J
    clear h
    rcases Bool.eq_false_or_eq_true (!r1) with hb | hb
    · have h := cond_t hb gy2; clear gy2
      refine WQ_bool (T' := [(13, .cell (.c (.bool true))), (1, .cell (.op 0 0 8 0 0))]) 13 hb (by kernel_rfl) (by kernel_rfl) ?_
      obtain rfl := Option.some.inj h
      refine WQ_exk (n' := 0) (T' := [(1, .cell (.op 0 0 8 0 0)), (22, .cell (.c (.bool true)))]) (Φ := True) 9 [1, 22] (by kernel_rfl) trivial J
    · have h := cond_f hb gy2; clear gy2
      refine WQ_bool (T' := [(13, .cell (.c (.bool false))), (1, .cell (.op 0 0 8 0 0))]) 13 hb (by kernel_rfl) (by kernel_rfl) ?_
      refine WQ_exk (n' := 5) (T' := [(1, .cell (.op 0 0 8 0 0)), (13, .cell (.c (.bool false))), (15, .cell (.c (.int .i64 a0_1))), (17, .cell (.c (.int .i64 a0_0)))]) (Φ := (True)) 4 [1, 13, 15, 17] (by kernel_rfl) trivial ?_
      obtain ⟨r33, gr33, h⟩ := bind_some h
      refine WQ_call (f := 61) (all := [.cell (.c (.int .i64 a0_0))]) (d := some 18) (r := .cell (.c (.int .i64 r33))) (by kernel_rfl) (by kernel_rfl) (by kernel_rfl) Tryd.call61 (p61 L _ _ gr33) ?_
      refine WQ_exk (n' := 3) (T' := [(1, .cell (.op 0 0 8 0 0)), (13, .cell (.c (.bool false))), (15, .cell (.c (.int .i64 a0_1))), (19, .cell (.c (.int .i64 (if r33 < (13 : Int) then r33 else (13 : Int)))))]) (Φ := (True)) 1 [1, 13, 15, 19] (by kernel_rfl) trivial ?_
      obtain ⟨r34, gr34, h⟩ := bind_some h
      refine WQ_call (f := 45) (all := [.cell (.c (.int .i64 a0_1)), .cell (.c (.int .i64 (1 : Int))), .cell (.c (.int .i64 (if r33 < (13 : Int) then r33 else (13 : Int))))]) (d := some 20) (r := .cell (.c (.bool r34))) (by kernel_rfl) (by kernel_rfl) (by kernel_rfl) Tryd.call45 (p45 L _ _ _ _ gr34) ?_
      refine WQ_exk (n' := 1) (T' := [(1, .cell (.op 0 0 8 0 0)), (13, .cell (.c (.bool false))), (21, .cell (.c (.bool (!r34))))]) (Φ := (True)) 1 [1, 13, 21] (by kernel_rfl) trivial ?_
      obtain rfl := Option.some.inj h
      refine WQ_exk (n' := 0) (T' := [(1, .cell (.op 0 0 8 0 0)), (22, .cell (.c (.bool (!r34))))]) (Φ := True) 1 [1, 22] (by kernel_rfl) trivial J

/- system.Fits -/
def s44 (L : LP) (a0_0 : Int) (a0_1 : Int) (a0_2 : Int) (a0_3 : Int) (a0_4 : (List (List Int))) (a0_5 : (List (Int × (List (Int × (List (Int × Int))))))) (a0_6 : (List ((List (List (Int × Int))) × (List (List (Int × Int)))))) (a0_7 : (List ((List (Int × Int)) × (List (Int × Int)) × Int × Int))) (a1_0 : (List Int)) (a1_1 : (List (List Int))) : Option Bool :=
  (s18 L a0_0 a0_1 a0_2 a0_3 a0_4 a0_5 a0_6 a0_7).bind fun r1 =>
  (bif r1 then some (decide ((a1_0.length : Int) = a0_3))
  else some false).bind fun y2 =>
  (bif y2 then some (decide ((a1_1.length : Int) = a0_2))
  else some false).bind fun y3 =>
  (bif y3 then (s97 L a0_0 a1_0).bind fun r8 =>
  some r8
  else some false).bind fun y4 =>
  (bif y4 then (ck (0 ≤ a0_1 ∧ a0_1 < ((IntKind.bits .i64 : Nat) : Int) ∧ inR .i64 ((1 : Int) * 2 ^ a0_1.toNat))).bind fun _ =>
  (s62 L a0_0 ((1 : Int) * 2 ^ a0_1.toNat) a1_1).bind fun r7 =>
  some r7
  else some false).bind fun y5 =>
  some y5
theorem p44 (L : LP) (a0_0 : Int) (a0_1 : Int) (a0_2 : Int) (a0_3 : Int) (a0_4 : (List (List Int))) (a0_5 : (List (Int × (List (Int × (List (Int × Int))))))) (a0_6 : (List ((List (List (Int × Int))) × (List (List (Int × Int)))))) (a0_7 : (List ((List (Int × Int)) × (List (Int × Int)) × Int × Int))) (a1_0 : (List Int)) (a1_1 : (List (List Int))) (r : Bool) (h : s44 L a0_0 a0_1 a0_2 a0_3 a0_4 a0_5 a0_6 a0_7 a1_0 a1_1 = some r) : Pure X 44 [.agg [.c (.int .i64 a0_0), .c (.int .i64 a0_1), .c (.int .i64 a0_2), .c (.int .i64 a0_3), .c (slC e28 a0_4), .c (slC e72 a0_5), .c (slC e65 a0_6), .c (slC e77 a0_7)], .agg [.c (slC e44 a1_0), .c (slC e28 a1_1)]] (.cell (.c (.bool r))) := by
  refine Pure_of_W (c := cd Tryd.f44 []) Tryd.func44 (by kernel_rfl) (N := 40) (by kernel_rfl) (Nat.le_of_ble_eq_true (by kernel_rfl)) ?_
  unfold s44 at h
  refine W_seq_at (by kernel_rfl) ?_
  refine W_region_at (by kernel_rfl) ?_
  refine WO_fin (σ' := [some (.lit 0 27 [.c (.int .i64 a0_0), .c (.int .i64 a0_1), .c (.int .i64 a0_2), .c (.int .i64 a0_3), .c (slC e28 a0_4), .c (slC e72 a0_5), .c (slC e65 a0_6), .c (slC e77 a0_7)]), some (.lit 0 30 [.c (slC e44 a1_0), .c (slC e28 a1_1)])]) (T' := [(2, .cell (.op 0 0 8 0 0)), (3, .cell (.op 1 0 2 0 0))]) (Φ := (True)) 3 [2, 3] (by kernel_rfl) trivial (by kernel_rfl) ?_
  refine thenQ_n ?_
  refine W_seq_at (by kernel_rfl) ?_
  refine W_drawK 35 (by kernel_rfl) mixed (by kernel_rfl) ?_
  refine WQ_exk (n' := 34) (T' := [(2, .cell (.op 0 0 8 0 0)), (3, .cell (.op 1 0 2 0 0)), (5, .agg [.c (.int .i64 a0_0), .c (.int .i64 a0_1), .c (.int .i64 a0_2), .c (.int .i64 a0_3), .c (slC e28 a0_4), .c (slC e72 a0_5), .c (slC e65 a0_6), .c (slC e77 a0_7)])]) (Φ := (True)) 1 [2, 3, 5] (by kernel_rfl) trivial ?_
  obtain ⟨r1, gr1, h⟩ := bind_some h
  refine WQ_call (f := 18) (all := [.agg [.c (.int .i64 a0_0), .c (.int .i64 a0_1), .c (.int .i64 a0_2), .c (.int .i64 a0_3), .c (slC e28 a0_4), .c (slC e72 a0_5), .c (slC e65 a0_6), .c (slC e77 a0_7)]]) (d := some 6) (r := .cell (.c (.bool r1))) (by kernel_rfl) (by kernel_rfl) (by kernel_rfl) Tryd.call18 (p18 L _ _ _ _ _ _ _ _ _ gr1) ?_
  refine WQ_exk (n' := 32) (T' := [(2, .cell (.op 0 0 8 0 0)), (3, .cell (.op 1 0 2 0 0)), (7, .cell (.c (.bool r1)))]) (Φ := (True)) 1 [2, 3, 7] (by kernel_rfl) trivial ?_
  obtain ⟨y2, gy2, h⟩ := bind_some h
  refine WQ_join 25 10 [(2, .cell (.op 0 0 8 0 0)), (3, .cell (.op 1 0 2 0 0)), (14, .cell (.c (.bool y2)))] ?_ ?_
  · clear gy2
    refine WQ_exk (n' := 24) (T' := [(2, .cell (.op 0 0 8 0 0)), (3, .cell (.op 1 0 2 0 0)), (15, .cell (.c (.bool y2)))]) (Φ := (True)) 1 [2, 3, 15] (by kernel_rfl) trivial ?_
    obtain ⟨y3, gy3, h⟩ := bind_some h
    refine WQ_join 17 18 [(2, .cell (.op 0 0 8 0 0)), (3, .cell (.op 1 0 2 0 0)), (22, .cell (.c (.bool y3)))] ?_ ?_
    · clear gy3
      refine WQ_exk (n' := 16) (T' := [(2, .cell (.op 0 0 8 0 0)), (3, .cell (.op 1 0 2 0 0)), (23, .cell (.c (.bool y3)))]) (Φ := (True)) 1 [2, 3, 23] (by kernel_rfl) trivial ?_
      obtain ⟨y4, gy4, h⟩ := bind_some h
      refine WQ_join 10 25 [(2, .cell (.op 0 0 8 0 0)), (3, .cell (.op 1 0 2 0 0)), (29, .cell (.c (.bool y4)))] ?_ ?_
      · clear gy4
        refine WQ_exk (n' := 9) (T' := [(2, .cell (.op 0 0 8 0 0)), (3, .cell (.op 1 0 2 0 0)), (30, .cell (.c (.bool y4)))]) (Φ := (True)) 1 [2, 3, 30] (by kernel_rfl) trivial ?_
        obtain ⟨y5, gy5, h⟩ := bind_some h
        refine WQ_join 0 35 [(39, .cell (.c (.bool y5)))] ?_ ?_
        · clear gy5
          refine WQ_done ?_
          refine WO_fin (σ' := [some (.lit 0 27 [.c (.int .i64 a0_0), .c (.int .i64 a0_1), .c (.int .i64 a0_2), .c (.int .i64 a0_3), .c (slC e28 a0_4), .c (slC e72 a0_5), .c (slC e65 a0_6), .c (slC e77 a0_7)]), some (.lit 0 30 [.c (slC e44 a1_0), .c (slC e28 a1_1)])]) (T' := [(4, .cell (.c (.bool y5)))]) (Φ := (True)) 1 [4] (by kernel_rfl) trivial (by kernel_rfl) ?_
          refine thenQ_n ?_
          refine W_ret_at (by kernel_rfl) ?_
          obtain rfl := Option.some.inj h
          exact qret [.cell (.c (.bool y5))] (by kernel_rfl) (by kernel_rfl) ([]) (by kernel_rfl)
        · intro J
          clear h
          rcases Bool.eq_false_or_eq_true y4 with hb | hb
          · have h := cond_t hb gy5; clear gy5
            refine WQ_bool (T' := [(30, .cell (.c (.bool true))), (2, .cell (.op 0 0 8 0 0)), (3, .cell (.op 1 0 2 0 0))]) 30 hb (by kernel_rfl) (by kernel_rfl) ?_
            obtain ⟨c6, h⟩ := ck_bind h
            refine WQ_exk (n' := 2) (T' := [(30, .cell (.c (.bool true))), (32, .cell (.c (.int .i64 a0_0))), (35, .cell (.c (.int .i64 ((1 : Int) * 2 ^ a0_1.toNat)))), (37, .cell (.c (slC e28 a1_1)))]) (Φ := (0 ≤ a0_1 ∧ a0_1 < ((IntKind.bits .i64 : Nat) : Int) ∧ inR .i64 ((1 : Int) * 2 ^ a0_1.toNat)) ∧ (True)) 7 [30, 32, 35, 37] (by kernel_rfl) ⟨c6, trivial⟩ ?_
            obtain ⟨r7, gr7, h⟩ := bind_some h
            refine WQ_call (f := 62) (all := [.cell (.c (.int .i64 a0_0)), .cell (.c (.int .i64 ((1 : Int) * 2 ^ a0_1.toNat))), .cell (.c (slC e28 a1_1))]) (d := some 38) (r := .cell (.c (.bool r7))) (by kernel_rfl) (by kernel_rfl) (by kernel_rfl) Tryd.call62 (p62 L _ _ _ _ gr7) ?_
            obtain rfl := Option.some.inj h
            refine WQ_exk (n' := 0) (T' := [(39, .cell (.c (.bool r7)))]) (Φ := True) 1 [39] (by kernel_rfl) trivial J
          · have h := cond_f hb gy5; clear gy5
            refine WQ_bool (T' := [(30, .cell (.c (.bool false))), (2, .cell (.op 0 0 8 0 0)), (3, .cell (.op 1 0 2 0 0))]) 30 hb (by kernel_rfl) (by kernel_rfl) ?_
            obtain rfl := Option.some.inj h
            refine WQ_exk (n' := 0) (T' := [(39, .cell (.c (.bool false)))]) (Φ := True) 9 [39] (by kernel_rfl) trivial J
      · intro J
        clear h
        rcases Bool.eq_false_or_eq_true y3 with hb | hb
        · have h := cond_t hb gy4; clear gy4
          refine WQ_bool (T' := [(23, .cell (.c (.bool true))), (2, .cell (.op 0 0 8 0 0)), (3, .cell (.op 1 0 2 0 0))]) 23 hb (by kernel_rfl) (by kernel_rfl) ?_
          refine WQ_exk (n' := 12) (T' := [(2, .cell (.op 0 0 8 0 0)), (3, .cell (.op 1 0 2 0 0)), (23, .cell (.c (.bool true))), (25, .cell (.c (.int .i64 a0_0))), (27, .cell (.c (slC e44 a1_0)))]) (Φ := (True)) 4 [2, 3, 23, 25, 27] (by kernel_rfl) trivial ?_
          obtain ⟨r8, gr8, h⟩ := bind_some h
          refine WQ_call (f := 97) (all := [.cell (.c (.int .i64 a0_0)), .cell (.c (slC e44 a1_0))]) (d := some 28) (r := .cell (.c (.bool r8))) (by kernel_rfl) (by kernel_rfl) (by kernel_rfl) Tryd.call97 (p97 L _ _ _ gr8) ?_
          obtain rfl := Option.some.inj h
          refine WQ_exk (n' := 10) (T' := [(2, .cell (.op 0 0 8 0 0)), (3, .cell (.op 1 0 2 0 0)), (29, .cell (.c (.bool r8)))]) (Φ := True) 1 [2, 3, 29] (by kernel_rfl) trivial J
        · have h := cond_f hb gy4; clear gy4
          refine WQ_bool (T' := [(23, .cell (.c (.bool false))), (2, .cell (.op 0 0 8 0 0)), (3, .cell (.op 1 0 2 0 0))]) 23 hb (by kernel_rfl) (by kernel_rfl) ?_
          obtain rfl := Option.some.inj h
          refine WQ_exk (n' := 10) (T' := [(2, .cell (.op 0 0 8 0 0)), (3, .cell (.op 1 0 2 0 0)), (29, .cell (.c (.bool false)))]) (Φ := True) 6 [2, 3, 29] (by kernel_rfl) trivial J
    · intro J
      clear h
      rcases Bool.eq_false_or_eq_true y2 with hb | hb
      · have h := cond_t hb gy3; clear gy3
        refine WQ_bool (T' := [(15, .cell (.c (.bool true))), (2, .cell (.op 0 0 8 0 0)), (3, .cell (.op 1 0 2 0 0))]) 15 hb (by kernel_rfl) (by kernel_rfl) ?_
        refine WQ_exk (n' := 18) (T' := [(2, .cell (.op 0 0 8 0 0)), (3, .cell (.op 1 0 2 0 0)), (15, .cell (.c (.bool true))), (21, .cell (.c (.bool (decide ((a1_1.length : Int) = a0_2)))))]) (Φ := (True)) 6 [2, 3, 15, 21] (by kernel_rfl) trivial ?_
        obtain rfl := Option.some.inj h
        refine WQ_exk (n' := 17) (T' := [(2, .cell (.op 0 0 8 0 0)), (3, .cell (.op 1 0 2 0 0)), (22, .cell (.c (.bool (decide ((a1_1.length : Int) = a0_2)))))]) (Φ := True) 1 [2, 3, 22] (by kernel_rfl) trivial J
      · have h := cond_f hb gy3; clear gy3
        refine WQ_bool (T' := [(15, .cell (.c (.bool false))), (2, .cell (.op 0 0 8 0 0)), (3, .cell (.op 1 0 2 0 0))]) 15 hb (by kernel_rfl) (by kernel_rfl) ?_
        obtain rfl := Option.some.inj h
        refine WQ_exk (n' := 17) (T' := [(2, .cell (.op 0 0 8 0 0)), (3, .cell (.op 1 0 2 0 0)), (22, .cell (.c (.bool false)))]) (Φ := True) 7 [2, 3, 22] (by kernel_rfl) trivial J
  · intro J
    clear h
    rcases Bool.eq_false_or_eq_true r1 with hb | hb
    · have h := cond_t hb gy2; clear gy2
      refine WQ_bool (T' := [(7, .cell (.c (.bool true))), (2, .cell (.op 0 0 8 0 0)), (3, .cell (.op 1 0 2 0 0))]) 7 hb (by kernel_rfl) (by kernel_rfl) ?_
      refine WQ_exk (n' := 26) (T' := [(2, .cell (.op 0 0 8 0 0)), (3, .cell (.op 1 0 2 0 0)), (7, .cell (.c (.bool true))), (13, .cell (.c (.bool (decide ((a1_0.length : Int) = a0_3)))))]) (Φ := (True)) 6 [2, 3, 7, 13] (by kernel_rfl) trivial ?_
      obtain rfl := Option.some.inj h
      refine WQ_exk (n' := 25) (T' := [(2, .cell (.op 0 0 8 0 0)), (3, .cell (.op 1 0 2 0 0)), (14, .cell (.c (.bool (decide ((a1_0.length : Int) = a0_3)))))]) (Φ := True) 1 [2, 3, 14] (by kernel_rfl) trivial J
    · have h := cond_f hb gy2; clear gy2
      refine WQ_bool (T' := [(7, .cell (.c (.bool false))), (2, .cell (.op 0 0 8 0 0)), (3, .cell (.op 1 0 2 0 0))]) 7 hb (by kernel_rfl) (by kernel_rfl) ?_
      obtain rfl := Option.some.inj h
      refine WQ_exk (n' := 25) (T' := [(2, .cell (.op 0 0 8 0 0)), (3, .cell (.op 1 0 2 0 0)), (14, .cell (.c (.bool false)))]) (Φ := True) 7 [2, 3, 14] (by kernel_rfl) trivial J

/- system.row -/
def s98_0 (L : LP) (a0 : (List (List Int))) (a1 : Int) (y3 : (Int × (List Int))) : Option ((Int × (List Int)) ⊕ (List Int)) :=
  (bif (decide (y3.1 < (a0.length : Int))) then
  (ck (0 ≤ y3.1 ∧ y3.1 < (a0.length : Int))).bind fun _ =>
  (ck (0 ≤ a1 ∧ a1 < ((a0.getD y3.1.toNat e28.d).length : Int))).bind fun _ =>
  (ck (0 ≤ y3.1 ∧ y3.1 < ((y3.2.length : Nat) : Int))).bind fun _ =>
  (ck (y3.1.toNat < y3.2.length)).bind fun _ =>
  (ck (inR .i64 (y3.1 + (1 : Int)))).bind fun _ =>
  some (.inl ((y3.1 + (1 : Int)), (y3.2.set y3.1.toNat ((a0.getD y3.1.toNat e28.d).getD a1.toNat e44.d))))
  else some (.inr y3.2))
def s98 (L : LP) (a0 : (List (List Int))) (a1 : Int) : Option (List Int) :=
  (ck ((a0.length : Int) = (a0.length : Int) ∧ 0 ≤ (a0.length : Int) ∧ (a0.length : Int) * 8 ≤ 140737488355328 ∧ (a0.length : Int) ≤ 140737488355328)).bind fun _ =>
  ((L.run (s98_0 L a0 a1) ((0 : Int), (List.replicate (a0.length : Int).toNat e44.d))).bind (fun (v : (List Int)) => some v)).bind fun (y2 : (List Int)) =>
  some y2
theorem p98 (L : LP) (a0 : (List (List Int))) (a1 : Int) (r : (List Int)) (h : s98 L a0 a1 = some r) : Pure X 98 [.cell (.c (slC e28 a0)), .cell (.c (.int .i64 a1))] (.cell (.c (slC e44 r))) := by
  refine Pure_of_W (c := cd Tryd.f98 []) Tryd.func98 (by kernel_rfl) (N := 27) (by kernel_rfl) (Nat.le_of_ble_eq_true (by kernel_rfl)) ?_
  unfold s98 at h
  refine W_seq_at (by kernel_rfl) ?_
  refine W_region_at (by kernel_rfl) ?_
  refine WO_fin (σ' := []) (T' := [(0, .cell (.c (slC e28 a0))), (1, .cell (.c (.int .i64 a1)))]) (Φ := (True)) 1 [0, 1] (by kernel_rfl) trivial (by kernel_rfl) ?_
  refine thenQ_n ?_
  refine W_seq_at (by kernel_rfl) ?_
  refine W_region_at (by kernel_rfl) ?_
  refine WO_exk (σ' := []) (T' := [(0, .cell (.c (slC e28 a0))), (1, .cell (.c (.int .i64 a1))), (9, .cell (.c (.int .i64 (a0.length : Int))))]) (Φ := (True)) 2 [0, 1, 9] (by kernel_rfl) trivial ?_
  obtain ⟨c1, h⟩ := ck_bind h
  refine WO_exk (σ' := [some (.rows 0 44 1 (a0.length : Int).toNat (fun _ j => (e44.row e44.d).getD j .jk))]) (T' := [(10, .cell (.sl 0 0 ((a0.length : Int).toNat))), (0, .cell (.c (slC e28 a0))), (1, .cell (.c (.int .i64 a1))), (9, .cell (.c (.int .i64 (a0.length : Int))))]) (Φ := ((a0.length : Int) = (a0.length : Int) ∧ 0 ≤ (a0.length : Int) ∧ (a0.length : Int) * 8 ≤ 140737488355328 ∧ (a0.length : Int) ≤ 140737488355328) ∧ True) 1 [10, 0, 1, 9] (by kernel_rfl) ⟨c1, trivial⟩ ?_
  refine WO_ent (ent_make e44 0 44 (n := (a0.length : Int).toNat) (row := fun _ j => (e44.row e44.d).getD j .jk) (t := 10) (σ' := [some (rwB e44 0 44 (List.replicate (a0.length : Int).toNat e44.d))]) (T' := [(10, .cell (.sl 0 0 ((List.replicate (a0.length : Int).toNat e44.d).length))), (0, .cell (.c (slC e28 a0))), (1, .cell (.c (.int .i64 a1))), (9, .cell (.c (.int .i64 (a0.length : Int))))]) (by kernel_rfl) (fun _ _ _ => rfl) (by kernel_rfl) (by kernel_rfl) (by kernel_rfl)) ?_
  refine WO_fin (σ' := [some (rwB e44 0 44 (List.replicate (a0.length : Int).toNat e44.d))]) (T' := [(0, .cell (.c (slC e28 a0))), (1, .cell (.c (.int .i64 a1))), (5, .cell (.sl 0 0 ((List.replicate (a0.length : Int).toNat e44.d).length)))]) (Φ := (True)) 1 [0, 1, 5] (by kernel_rfl) trivial (by kernel_rfl) ?_
  refine thenQ_n ?_
  obtain ⟨y2, gy2, ky2⟩ := bind_some h
  refine W_cut (by kernel_rfl) [some (rwB e44 0 44 y2)] [(5, .cell (.sl 0 0 y2.length))] ?_ ?_
  · have h := ky2; clear gy2 ky2
    refine W_seq_at (by kernel_rfl) ?_
    refine W_region_at (by kernel_rfl) ?_
    refine WO_fin (σ' := [some (rwB e44 0 44 y2)]) (T' := [(4, .cell (.sl 0 0 y2.length))]) (Φ := (True)) 2 [4] (by kernel_rfl) trivial (by kernel_rfl) ?_
    refine thenQ_n ?_
    refine W_ret_at (by kernel_rfl) ?_
    obtain rfl := Option.some.inj h
    exact qret [.cell (.sl 0 0 y2.length)] (by kernel_rfl) (by kernel_rfl) ([]) (by kernel_rfl)
  · have h := gy2; clear gy2 ky2
    refine W_seq_at (by kernel_rfl) ?_
    refine W_region_at (by kernel_rfl) ?_
    refine WO_fin (σ' := [some (rwB e44 0 44 (List.replicate (a0.length : Int).toNat e44.d))]) (T' := [(1, .cell (.c (.int .i64 a1))), (5, .cell (.sl 0 0 ((List.replicate (a0.length : Int).toNat e44.d).length))), (11, .cell (.c (slC e28 a0))), (12, .cell (.c (.int .i64 (a0.length : Int)))), (13, .cell (.c (.int .i64 (0 : Int))))]) (Φ := (True)) 3 [1, 5, 11, 12, 13] (by kernel_rfl) trivial (by kernel_rfl) ?_
    refine thenQ_n ?_
    refine W_block_at 0 (by kernel_rfl) (by kernel_rfl) ?_
    obtain ⟨b4, gb4, kb4⟩ := bind_some h
    refine W_loop_at (S := fun (y3 : (Int × (List Int))) => ([some (rwB e44 0 44 y3.2)], [(1, .cell (.c (.int .i64 a1))), (5, .cell (.sl 0 0 y3.2.length)), (11, .cell (.c (slC e28 a0))), (12, .cell (.c (.int .i64 (a0.length : Int)))), (13, .cell (.c (.int .i64 y3.1)))])) (step := _) (x0 := ((0 : Int), (List.replicate (a0.length : Int).toNat e44.d))) (b := b4) (L.ok _ _ _ gb4) (by kernel_rfl) (stps_ok [.keep [1, 5, 11, 12, 13], .take 1, .ver0 0] (by kernel_rfl)) ?_
    clear gb4 h; intro y3 o h; unfold s98_0 at h
    refine W_seq_at (by kernel_rfl) ?_
    refine W_region_at (by kernel_rfl) ?_
    refine WO_fin (σ' := [some (rwB e44 0 44 y3.2)]) (T' := [(1, .cell (.c (.int .i64 a1))), (5, .cell (.sl 0 0 y3.2.length)), (11, .cell (.c (slC e28 a0))), (12, .cell (.c (.int .i64 (a0.length : Int)))), (13, .cell (.c (.int .i64 y3.1))), (14, .cell (.c (.bool (decide (y3.1 < (a0.length : Int))))))]) (Φ := (True)) 1 [1, 5, 11, 12, 13, 14] (by kernel_rfl) trivial (by kernel_rfl) ?_
    refine thenQ_n ?_
    refine W_seq_at (by kernel_rfl) ?_
    refine W_cond_at (b := (decide (y3.1 < (a0.length : Int)))) (by kernel_rfl) (fun hb => ?_) (fun hb => ?_)
    · have h := cond_t hb h
      refine W_skip_at (by kernel_rfl) ?_
      refine thenQ_n ?_
      refine W_seq_at (by kernel_rfl) ?_
      refine W_block_at 1 (by kernel_rfl) (by kernel_rfl) ?_
      refine W_seq_at (by kernel_rfl) ?_
      refine W_region_at (by kernel_rfl) ?_
      obtain ⟨c5, h⟩ := ck_bind h
      refine WO_fin (σ' := [some (rwB e44 0 44 y3.2)]) (T' := [(1, .cell (.c (.int .i64 a1))), (5, .cell (.sl 0 0 y3.2.length)), (6, .cell (.c (.int .i64 y3.1))), (7, .cell (.c (slC e44 (a0.getD y3.1.toNat e28.d)))), (11, .cell (.c (slC e28 a0))), (12, .cell (.c (.int .i64 (a0.length : Int)))), (13, .cell (.c (.int .i64 y3.1)))]) (Φ := (0 ≤ y3.1 ∧ y3.1 < (a0.length : Int)) ∧ (True)) 5 [1, 5, 6, 7, 11, 12, 13] (by kernel_rfl) ⟨c5, trivial⟩ (by kernel_rfl) ?_
      refine thenQ_n ?_
      refine W_region_at (by kernel_rfl) ?_
      obtain ⟨c6, h⟩ := ck_bind h
      obtain ⟨c7, h⟩ := ck_bind h
      refine WO_exk (σ' := [some (rwB e44 0 44 y3.2)]) (T' := [(1, .cell (.c (.int .i64 a1))), (5, .cell (.sl 0 0 y3.2.length)), (11, .cell (.c (slC e28 a0))), (12, .cell (.c (.int .i64 (a0.length : Int)))), (13, .cell (.c (.int .i64 y3.1))), (23, .cell (.c (.int .u64 ((a0.getD y3.1.toNat e28.d).getD a1.toNat e44.d)))), (24, .cell (.op 0 0 1 y3.1.toNat 0))]) (Φ := (0 ≤ a1 ∧ a1 < ((a0.getD y3.1.toNat e28.d).length : Int)) ∧ (0 ≤ y3.1 ∧ y3.1 < ((y3.2.length : Nat) : Int)) ∧ (True)) 7 [1, 5, 11, 12, 13, 23, 24] (by kernel_rfl) ⟨c6, c7, trivial⟩ ?_
      obtain ⟨c8, h⟩ := ck_bind h
      refine WO_put e44 y3.2 ((a0.getD y3.1.toNat e28.d).getD a1.toNat e44.d) (b := 0) (ver := 0) (e := 44) (r := y3.1.toNat) (σ' := [some (rwB e44 0 44 (y3.2.set y3.1.toNat ((a0.getD y3.1.toNat e28.d).getD a1.toNat e44.d)))]) (by kernel_rfl) (by kernel_rfl) c8 (by kernel_rfl) (fun n => [(1, .cell (.c (.int .i64 a1))), (5, .cell (.sl 0 0 n)), (11, .cell (.c (slC e28 a0))), (12, .cell (.c (.int .i64 (a0.length : Int)))), (13, .cell (.c (.int .i64 y3.1))), (23, .cell (.c (.int .u64 ((a0.getD y3.1.toNat e28.d).getD a1.toNat e44.d)))), (24, .cell (.op 0 0 1 y3.1.toNat 0))]) (by kernel_rfl) ?_
      refine WO_fin (σ' := [some (rwB e44 0 44 (y3.2.set y3.1.toNat ((a0.getD y3.1.toNat e28.d).getD a1.toNat e44.d)))]) (T' := [(1, .cell (.c (.int .i64 a1))), (5, .cell (.sl 0 0 ((y3.2.set y3.1.toNat ((a0.getD y3.1.toNat e28.d).getD a1.toNat e44.d)).length))), (11, .cell (.c (slC e28 a0))), (12, .cell (.c (.int .i64 (a0.length : Int)))), (13, .cell (.c (.int .i64 y3.1)))]) (Φ := True) 0 [1, 5, 11, 12, 13] (by kernel_rfl) trivial (by kernel_rfl) ?_
      refine blockQ_n ?_
      refine thenQ_n ?_
      refine W_region_at (by kernel_rfl) ?_
      obtain ⟨c9, h⟩ := ck_bind h
      refine WO_fin (σ' := [some (rwB e44 0 44 (y3.2.set y3.1.toNat ((a0.getD y3.1.toNat e28.d).getD a1.toNat e44.d)))]) (T' := [(1, .cell (.c (.int .i64 a1))), (5, .cell (.sl 0 0 ((y3.2.set y3.1.toNat ((a0.getD y3.1.toNat e28.d).getD a1.toNat e44.d)).length))), (11, .cell (.c (slC e28 a0))), (12, .cell (.c (.int .i64 (a0.length : Int)))), (13, .cell (.c (.int .i64 (y3.1 + (1 : Int)))))]) (Φ := (inR .i64 (y3.1 + (1 : Int))) ∧ (True)) 2 [1, 5, 11, 12, 13] (by kernel_rfl) ⟨c9, trivial⟩ (by kernel_rfl) ?_
      obtain rfl := Option.some.inj h
      exact round_n _ rfl (stps_ok [.keep [1, 5, 11, 12, 13], .take 1, .ver0 0] (by kernel_rfl))
    · have h := cond_f hb h
      refine W_exit_at 0 (by kernel_rfl) (by kernel_rfl) ?_
      refine thenQ_e ?_
      obtain rfl := Option.some.inj h; refine round_e rfl (fun hb => ?_); subst hb; have h := kb4
      refine blockQ_hit ?_
      obtain rfl := Option.some.inj h
      exact thenQ_n (stps_ok [.keep [5], .take 1, .ver0 0] (by kernel_rfl))

/- slices.Clone[[]uint64,uint64] -/
def s99 (L : LP) (a0 : List Int) : Option (List Int) :=
  (ck ((([] : List Int).length + a0.length) * 8 ≤ 140737488355328 ∧ ([] : List Int).length + a0.length ≤ 140737488355328)).bind fun _ => some a0
theorem p99 (L : LP) (a0 : List Int) (r : List Int) (h : s99 L a0 = some r) : Pure X 99 [.cell (.c (slC e44 a0))] (.cell (.c (slC e44 r))) := by
  unfold s99 at h
  obtain ⟨c1, h⟩ := ck_bind h
  obtain rfl := Option.some.inj h
  refine Pure_of_W (c := cd Tryd.f99 []) Tryd.func99 (by kernel_rfl) (N := 8) (by kernel_rfl) (Nat.le_of_ble_eq_true (by kernel_rfl)) ?_
  refine W_seq_at (by kernel_rfl) ?_
  refine W_region_at (by kernel_rfl) ?_
  refine WO_fin (σ' := []) (T' := [(0, .cell (.c (slC e44 a0)))]) (Φ := True) 1 [0] (by kernel_rfl) trivial (by kernel_rfl) ?_
  refine thenQ_n ?_
  refine W_seq_at (by kernel_rfl) ?_
  refine W_seq_at (by kernel_rfl) ?_
  refine W_region_at (by kernel_rfl) ?_
  refine WO_exk (σ' := []) (T' := [(0, .cell (.c (slC e44 a0))), (3, .cell (.c (slC e44 a0)))]) (Φ := True) 1 [0, 3] (by kernel_rfl) trivial ?_
  refine WO_isnil (d := some 4) (len := a0.length) (by kernel_rfl) (fun b hb0 => ?_)
  refine WO_fin (σ' := []) (T' := [(0, .cell (.c (slC e44 a0))), (4, .cell (.c (.bool b)))]) (Φ := True) 0 [0, 4] (by kernel_rfl) trivial (by kernel_rfl) ?_
  refine thenQ_n ?_
  refine W_cond_at (b := b) (by kernel_rfl) (fun hb => ?_) (fun hb => ?_)
  · have e0 : a0 = [] := List.eq_nil_of_length_eq_zero (hb0 hb)
    subst e0
    refine W_seq_at (by kernel_rfl) ?_
    refine W_region_at (by kernel_rfl) ?_
    refine WO_fin (σ' := []) (T' := [(2, .cell (.c .nsl))]) (Φ := True) 1 [2] (by kernel_rfl) trivial (by kernel_rfl) ?_
    refine thenQ_n ?_
    refine W_ret_at (by kernel_rfl) ?_
    refine thenQ_r ?_
    exact qret [.cell (.c .nsl)] (by kernel_rfl) (by kernel_rfl) [.sl 1 (fun i j => (e44.row (([] : List Int).getD i e44.d)).getD j .jk)] (by kernel_rfl)
  · refine W_skip_at (by kernel_rfl) ?_
    refine thenQ_n ?_
    refine W_seq_at (by kernel_rfl) ?_
    refine W_region_at (by kernel_rfl) ?_
    refine WO_rowown e44 ([] : List Int) (cs := []) (d := 5) (e := 44) (n := 0) (σ' := [some (rwB e44 0 44 ([] : List Int))]) (T' := [(5, .cell (.sl 0 0 0)), (0, .cell (.c (slC e44 a0))), (4, .cell (.c (.bool b)))]) (by kernel_rfl) rfl (by kernel_rfl) (by kernel_rfl) (by kernel_rfl) ?_
    refine WO_exk (σ' := [some (rwB e44 0 44 ([] : List Int))]) (T' := [(5, .cell (.sl 0 0 0)), (6, .cell (.c (slC e44 a0)))]) (Φ := True) 1 [5, 6] (by kernel_rfl) trivial ?_
    refine WO_app e44 ([] : List Int) a0 (b := 0) (ver := 0) (e := 44) (d := 7) (row2 := fun i j => (e44.row (a0.getD i e44.d)).getD j .jk) (Φ := (0 = 0 ∧ (([] : List Int).length + a0.length) * 8 ≤ 140737488355328 ∧ ([] : List Int).length + a0.length ≤ 140737488355328) ∧ True) (σ' := [some (rwB e44 1 44 (([] : List Int) ++ a0))]) (T' := [(7, .cell (.sl 0 1 (([] : List Int) ++ a0).length)), (5, .cell (.sl 0 0 0)), (6, .cell (.c (slC e44 a0)))]) (by kernel_rfl) ⟨⟨rfl, c1⟩, trivial⟩ (Nat.le_of_ble_eq_true (by kernel_rfl)) (fun _ _ _ _ => rfl) (by kernel_rfl) (by kernel_rfl) ?_
    refine WO_fin (σ' := [some (rwB e44 1 44 (([] : List Int) ++ a0))]) (T' := [(2, .cell (.sl 0 1 (([] : List Int) ++ a0).length))]) (Φ := True) 1 [2] (by kernel_rfl) trivial (by kernel_rfl) ?_
    refine thenQ_n ?_
    refine W_ret_at (by kernel_rfl) ?_
    exact qret [.cell (.sl 0 1 (([] : List Int) ++ a0).length)] (by kernel_rfl) (by kernel_rfl) [] (by kernel_rfl)

/- system.at -/
def s46 (L : LP) (a0_0 : Int) (a0_1 : Int) (a0_2 : Int) (a0_3 : Int) (a0_4 : (List (List Int))) (a0_5 : (List (Int × (List (Int × (List (Int × Int))))))) (a0_6 : (List ((List (List (Int × Int))) × (List (List (Int × Int)))))) (a0_7 : (List ((List (Int × Int)) × (List (Int × Int)) × Int × Int))) (a1_0 : (List Int)) (a1_1 : (List (List Int))) (a2 : Int) : Option ((List Int) × (List Int) × (List Int) × (List Int) × (List Int) × (List Int) × (List Int)) :=
  (s98 L a1_1 a2).bind fun r1 =>
  (ck (inR .i64 (a2 + (1 : Int)))).bind fun _ =>
  (ck (0 ≤ a0_1 ∧ a0_1 < ((IntKind.bits .i64 : Nat) : Int) ∧ inR .i64 ((1 : Int) * 2 ^ a0_1.toNat))).bind fun _ =>
  (ck (0 ≤ (a2 + (1 : Int)) ∧ 0 < ((1 : Int) * 2 ^ a0_1.toNat))).bind fun _ =>
  (s98 L a1_1 ((a2 + (1 : Int)) % ((1 : Int) * 2 ^ a0_1.toNat))).bind fun r5 =>
  (s98 L a0_4 a2).bind fun r6 =>
  (s99 L a1_0).bind fun r7 =>
  some (r1, r5, r6, r7, [], [], [])
theorem p46 (L : LP) (a0_0 : Int) (a0_1 : Int) (a0_2 : Int) (a0_3 : Int) (a0_4 : (List (List Int))) (a0_5 : (List (Int × (List (Int × (List (Int × Int))))))) (a0_6 : (List ((List (List (Int × Int))) × (List (List (Int × Int)))))) (a0_7 : (List ((List (Int × Int)) × (List (Int × Int)) × Int × Int))) (a1_0 : (List Int)) (a1_1 : (List (List Int))) (a2 : Int) (r : ((List Int) × (List Int) × (List Int) × (List Int) × (List Int) × (List Int) × (List Int))) (h : s46 L a0_0 a0_1 a0_2 a0_3 a0_4 a0_5 a0_6 a0_7 a1_0 a1_1 a2 = some r) : Pure X 46 [.agg [.c (.int .i64 a0_0), .c (.int .i64 a0_1), .c (.int .i64 a0_2), .c (.int .i64 a0_3), .c (slC e28 a0_4), .c (slC e72 a0_5), .c (slC e65 a0_6), .c (slC e77 a0_7)], .agg [.c (slC e44 a1_0), .c (slC e28 a1_1)], .cell (.c (.int .i64 a2))] (.agg [.c (slC e44 r.1), .c (slC e44 r.2.1), .c (slC e44 r.2.2.1), .c (slC e44 r.2.2.2.1), .c (slC e44 r.2.2.2.2.1), .c (slC e44 r.2.2.2.2.2.1), .c (slC e44 r.2.2.2.2.2.2)]) := by
  refine Pure_of_W (c := cd Tryd.f46 []) Tryd.func46 (by kernel_rfl) (N := 28) (by kernel_rfl) (Nat.le_of_ble_eq_true (by kernel_rfl)) ?_
  unfold s46 at h
  refine W_seq_at (by kernel_rfl) ?_
  refine W_region_at (by kernel_rfl) ?_
  refine WO_fin (σ' := [some (.lit 0 27 [.c (.int .i64 a0_0), .c (.int .i64 a0_1), .c (.int .i64 a0_2), .c (.int .i64 a0_3), .c (slC e28 a0_4), .c (slC e72 a0_5), .c (slC e65 a0_6), .c (slC e77 a0_7)]), some (.lit 0 30 [.c (slC e44 a1_0), .c (slC e28 a1_1)]), some (.lit 0 35 [.c (.nsl), .c (.nsl), .c (.nsl), .c (.nsl), .c (.nsl), .c (.nsl), .c (.nsl)])]) (T' := [(2, .cell (.c (.int .i64 a2))), (3, .cell (.op 0 0 8 0 0)), (4, .cell (.op 1 0 2 0 0)), (6, .cell (.op 2 0 7 0 0))]) (Φ := (True)) 3 [2, 3, 4, 6] (by kernel_rfl) trivial (by kernel_rfl) ?_
  refine thenQ_n ?_
  refine W_seq_at (by kernel_rfl) ?_
  refine W_drawK 19 (by kernel_rfl) mixed (by kernel_rfl) ?_
  refine WQ_exk (n' := 16) (T' := [(2, .cell (.c (.int .i64 a2))), (3, .cell (.op 0 0 8 0 0)), (4, .cell (.op 1 0 2 0 0)), (6, .cell (.op 2 0 7 0 0)), (8, .cell (.c (slC e28 a1_1))), (9, .cell (.c (.int .i64 a2)))]) (Φ := (True)) 3 [2, 3, 4, 6, 8, 9] (by kernel_rfl) trivial ?_
  obtain ⟨r1, gr1, h⟩ := bind_some h
  refine WQ_call (f := 98) (all := [.cell (.c (slC e28 a1_1)), .cell (.c (.int .i64 a2))]) (d := some 10) (r := .cell (.c (slC e44 r1))) (by kernel_rfl) (by kernel_rfl) (by kernel_rfl) Tryd.call98 (p98 L _ _ _ gr1) ?_
  obtain ⟨c2, h⟩ := ck_bind h
  obtain ⟨c3, h⟩ := ck_bind h
  obtain ⟨c4, h⟩ := ck_bind h
  refine WQ_exk (n' := 7) (T' := [(2, .cell (.c (.int .i64 a2))), (3, .cell (.op 0 0 8 0 0)), (4, .cell (.op 1 0 2 0 0)), (6, .cell (.op 2 0 7 0 0)), (10, .cell (.c (slC e44 r1))), (12, .cell (.c (slC e28 a1_1))), (18, .cell (.c (.int .i64 ((a2 + (1 : Int)) % ((1 : Int) * 2 ^ a0_1.toNat)))))]) (Φ := (inR .i64 (a2 + (1 : Int))) ∧ (0 ≤ a0_1 ∧ a0_1 < ((IntKind.bits .i64 : Nat) : Int) ∧ inR .i64 ((1 : Int) * 2 ^ a0_1.toNat)) ∧ (0 ≤ (a2 + (1 : Int)) ∧ 0 < ((1 : Int) * 2 ^ a0_1.toNat)) ∧ (True)) 8 [2, 3, 4, 6, 10, 12, 18] (by kernel_rfl) ⟨c2, c3, c4, trivial⟩ ?_
  obtain ⟨r5, gr5, h⟩ := bind_some h
  refine WQ_call (f := 98) (all := [.cell (.c (slC e28 a1_1)), .cell (.c (.int .i64 ((a2 + (1 : Int)) % ((1 : Int) * 2 ^ a0_1.toNat))))]) (d := some 19) (r := .cell (.c (slC e44 r5))) (by kernel_rfl) (by kernel_rfl) (by kernel_rfl) Tryd.call98 (p98 L _ _ _ gr5) ?_
  refine WQ_exk (n' := 3) (T' := [(4, .cell (.op 1 0 2 0 0)), (6, .cell (.op 2 0 7 0 0)), (10, .cell (.c (slC e44 r1))), (19, .cell (.c (slC e44 r5))), (21, .cell (.c (slC e28 a0_4))), (22, .cell (.c (.int .i64 a2)))]) (Φ := (True)) 3 [4, 6, 10, 19, 21, 22] (by kernel_rfl) trivial ?_
  obtain ⟨r6, gr6, h⟩ := bind_some h
  refine WQ_call (f := 98) (all := [.cell (.c (slC e28 a0_4)), .cell (.c (.int .i64 a2))]) (d := some 23) (r := .cell (.c (slC e44 r6))) (by kernel_rfl) (by kernel_rfl) (by kernel_rfl) Tryd.call98 (p98 L _ _ _ gr6) ?_
  refine WQ_exk (n' := 0) (T' := [(6, .cell (.op 2 0 7 0 0)), (10, .cell (.c (slC e44 r1))), (19, .cell (.c (slC e44 r5))), (23, .cell (.c (slC e44 r6))), (25, .cell (.c (slC e44 a1_0)))]) (Φ := (True)) 2 [6, 10, 19, 23, 25] (by kernel_rfl) trivial ?_
  refine WQ_done ?_
  obtain ⟨r7, gr7, h⟩ := bind_some h
  refine WO_call (f := 99) (all := [.cell (.c (slC e44 a1_0))]) (d := some 26) (r := .cell (.c (slC e44 r7))) (by kernel_rfl) (by kernel_rfl) (by kernel_rfl) Tryd.call99 (p99 L _ _ gr7) ?_
  refine WO_fin (σ' := [some (.lit 0 27 [.c (.int .i64 a0_0), .c (.int .i64 a0_1), .c (.int .i64 a0_2), .c (.int .i64 a0_3), .c (slC e28 a0_4), .c (slC e72 a0_5), .c (slC e65 a0_6), .c (slC e77 a0_7)]), some (.lit 0 30 [.c (slC e44 a1_0), .c (slC e28 a1_1)]), some (.lit 0 35 [.c (slC e44 r1), .c (slC e44 r5), .c (slC e44 r6), .c (slC e44 r7), .c (.nsl), .c (.nsl), .c (.nsl)])]) (T' := [(6, .cell (.op 2 0 7 0 0))]) (Φ := (True)) 2 [6] (by kernel_rfl) trivial (by kernel_rfl) ?_
  refine thenQ_n ?_
  refine W_ret_at (by kernel_rfl) ?_
  obtain rfl := Option.some.inj h
  exact qret [.agg [.c (slC e44 r1), .c (slC e44 r5), .c (slC e44 r6), .c (slC e44 r7), .c (.nsl), .c (.nsl), .c (.nsl)]] (by kernel_rfl) (by kernel_rfl) ([.agg [.no, .no, .no, .no, .sl 1 (fun i j => (e44.row (([] : List Int).getD i e44.d)).getD j .jk), .sl 1 (fun i j => (e44.row (([] : List Int).getD i e44.d)).getD j .jk), .sl 1 (fun i j => (e44.row (([] : List Int).getD i e44.d)).getD j .jk)]]) (by kernel_rfl)

/- system.span -/
def s93 (L : LP) (a0 : Int) (a1 : Int) : Option (Int × Int) :=
  (bif (decide (a0 = (2 : Int))) then
  (ck (inR .i64 (a1 - (1 : Int)))).bind fun _ =>
  some ((0 : Int), (a1 - (1 : Int)))
  else (bif (decide (a0 = (3 : Int))) then
  some ((0 : Int), (1 : Int))
  else (bif (decide (a0 = (4 : Int))) then
  (ck (inR .i64 (a1 - (1 : Int)))).bind fun _ =>
  some ((a1 - (1 : Int)), a1)
  else some ((0 : Int), a1))))
theorem p93 (L : LP) (a0 : Int) (a1 : Int) (r : (Int × Int)) (h : s93 L a0 a1 = some r) : Pure X 93 [.cell (.c (.int .u8 a0)), .cell (.c (.int .i64 a1))] (tupV [.cell (.c (.int .i64 r.1)), .cell (.c (.int .i64 r.2))]) := by
  refine Pure_of_W (c := cd Tryd.f93 []) Tryd.func93 (by kernel_rfl) (N := 19) (by kernel_rfl) (Nat.le_of_ble_eq_true (by kernel_rfl)) ?_
  unfold s93 at h
  refine W_seq_at (by kernel_rfl) ?_
  refine W_region_at (by kernel_rfl) ?_
  refine WO_fin (σ' := []) (T' := [(0, .cell (.c (.int .u8 a0))), (1, .cell (.c (.int .i64 a1)))]) (Φ := (True)) 2 [0, 1] (by kernel_rfl) trivial (by kernel_rfl) ?_
  refine thenQ_n ?_
  refine W_seq_at (by kernel_rfl) ?_
  refine W_seq_at (by kernel_rfl) ?_
  refine W_region_at (by kernel_rfl) ?_
  refine WO_fin (σ' := []) (T' := [(1, .cell (.c (.int .i64 a1))), (6, .cell (.c (.int .u8 a0)))]) (Φ := (True)) 1 [1, 6] (by kernel_rfl) trivial (by kernel_rfl) ?_
  refine thenQ_n ?_
  refine W_block_at 0 (by kernel_rfl) (by kernel_rfl) ?_
  refine W_seq_at (by kernel_rfl) ?_
  refine W_region_at (by kernel_rfl) ?_
  refine WO_fin (σ' := []) (T' := [(1, .cell (.c (.int .i64 a1))), (6, .cell (.c (.int .u8 a0))), (7, .cell (.c (.bool (decide (a0 = (2 : Int))))))]) (Φ := (True)) 2 [1, 6, 7] (by kernel_rfl) trivial (by kernel_rfl) ?_
  refine thenQ_n ?_
  refine W_cond_at (b := (decide (a0 = (2 : Int)))) (by kernel_rfl) (fun hb => ?_) (fun hb => ?_)
  · have h := cond_t hb h
    refine W_seq_at (by kernel_rfl) ?_
    refine W_region_at (by kernel_rfl) ?_
    obtain ⟨c1, h⟩ := ck_bind h
    refine WO_fin (σ' := []) (T' := [(4, .cell (.c (.int .i64 (0 : Int)))), (5, .cell (.c (.int .i64 (a1 - (1 : Int)))))]) (Φ := (inR .i64 (a1 - (1 : Int))) ∧ (True)) 4 [4, 5] (by kernel_rfl) ⟨c1, trivial⟩ (by kernel_rfl) ?_
    refine thenQ_n ?_
    refine W_ret_at (by kernel_rfl) ?_
    refine blockQ_r ?_
    refine thenQ_r ?_
    obtain rfl := Option.some.inj h
    exact qret [.cell (.c (.int .i64 (0 : Int))), .cell (.c (.int .i64 (a1 - (1 : Int))))] (by kernel_rfl) (by kernel_rfl) ([]) (by kernel_rfl)
  · have h := cond_f hb h
    refine W_seq_at (by kernel_rfl) ?_
    refine W_region_at (by kernel_rfl) ?_
    refine WO_fin (σ' := []) (T' := [(1, .cell (.c (.int .i64 a1))), (6, .cell (.c (.int .u8 a0))), (11, .cell (.c (.bool (decide (a0 = (3 : Int))))))]) (Φ := (True)) 2 [1, 6, 11] (by kernel_rfl) trivial (by kernel_rfl) ?_
    refine thenQ_n ?_
    refine W_cond_at (b := (decide (a0 = (3 : Int)))) (by kernel_rfl) (fun hb => ?_) (fun hb => ?_)
    · have h := cond_t hb h
      refine W_seq_at (by kernel_rfl) ?_
      refine W_region_at (by kernel_rfl) ?_
      refine WO_fin (σ' := []) (T' := [(4, .cell (.c (.int .i64 (0 : Int)))), (5, .cell (.c (.int .i64 (1 : Int))))]) (Φ := (True)) 2 [4, 5] (by kernel_rfl) trivial (by kernel_rfl) ?_
      refine thenQ_n ?_
      refine W_ret_at (by kernel_rfl) ?_
      refine blockQ_r ?_
      refine thenQ_r ?_
      obtain rfl := Option.some.inj h
      exact qret [.cell (.c (.int .i64 (0 : Int))), .cell (.c (.int .i64 (1 : Int)))] (by kernel_rfl) (by kernel_rfl) ([]) (by kernel_rfl)
    · have h := cond_f hb h
      refine W_seq_at (by kernel_rfl) ?_
      refine W_region_at (by kernel_rfl) ?_
      refine WO_fin (σ' := []) (T' := [(1, .cell (.c (.int .i64 a1))), (13, .cell (.c (.bool (decide (a0 = (4 : Int))))))]) (Φ := (True)) 2 [1, 13] (by kernel_rfl) trivial (by kernel_rfl) ?_
      refine thenQ_n ?_
      refine W_cond_at (b := (decide (a0 = (4 : Int)))) (by kernel_rfl) (fun hb => ?_) (fun hb => ?_)
      · have h := cond_t hb h
        refine W_seq_at (by kernel_rfl) ?_
        refine W_region_at (by kernel_rfl) ?_
        obtain ⟨c2, h⟩ := ck_bind h
        refine WO_fin (σ' := []) (T' := [(4, .cell (.c (.int .i64 (a1 - (1 : Int))))), (5, .cell (.c (.int .i64 a1)))]) (Φ := (inR .i64 (a1 - (1 : Int))) ∧ (True)) 5 [4, 5] (by kernel_rfl) ⟨c2, trivial⟩ (by kernel_rfl) ?_
        refine thenQ_n ?_
        refine W_ret_at (by kernel_rfl) ?_
        refine blockQ_r ?_
        refine thenQ_r ?_
        obtain rfl := Option.some.inj h
        exact qret [.cell (.c (.int .i64 (a1 - (1 : Int)))), .cell (.c (.int .i64 a1))] (by kernel_rfl) (by kernel_rfl) ([]) (by kernel_rfl)
      · have h := cond_f hb h
        refine W_skip_at (by kernel_rfl) ?_
        refine blockQ_n ?_
        refine thenQ_n ?_
        refine W_seq_at (by kernel_rfl) ?_
        refine W_region_at (by kernel_rfl) ?_
        refine WO_fin (σ' := []) (T' := [(4, .cell (.c (.int .i64 (0 : Int)))), (5, .cell (.c (.int .i64 a1)))]) (Φ := (True)) 3 [4, 5] (by kernel_rfl) trivial (by kernel_rfl) ?_
        refine thenQ_n ?_
        refine W_ret_at (by kernel_rfl) ?_
        obtain rfl := Option.some.inj h
        exact qret [.cell (.c (.int .i64 (0 : Int))), .cell (.c (.int .i64 a1))] (by kernel_rfl) (by kernel_rfl) ([]) (by kernel_rfl)

/- field.Mul -/
def s80 (L : LP) (a0 : Int) (a1 : Int) (a2 : Int) : Option Int :=
  (s73 L a0).bind fun r1 =>
  (bif (decide (r1 = (0 : Int))) then
  some (0 : Int)
  else (ck (0 ≤ a1 ∧ 0 < r1)).bind fun _ =>
  (ck (0 ≤ a2 ∧ 0 < r1)).bind fun _ =>
  (ck (inR .u64 ((a1 % r1) * (a2 % r1)))).bind fun _ =>
  (ck (0 ≤ ((a1 % r1) * (a2 % r1)) ∧ 0 < r1)).bind fun _ =>
  some (((a1 % r1) * (a2 % r1)) % r1))
theorem p80 (L : LP) (a0 : Int) (a1 : Int) (a2 : Int) (r : Int) (h : s80 L a0 a1 a2 = some r) : Pure X 80 [.cell (.c (.int .i64 a0)), .cell (.c (.int .u64 a1)), .cell (.c (.int .u64 a2))] (.cell (.c (.int .u64 r))) := by
  refine Pure_of_W (c := cd Tryd.f80 []) Tryd.func80 (by kernel_rfl) (N := 21) (by kernel_rfl) (Nat.le_of_ble_eq_true (by kernel_rfl)) ?_
  unfold s80 at h
  refine W_seq_at (by kernel_rfl) ?_
  refine W_region_at (by kernel_rfl) ?_
  refine WO_fin (σ' := []) (T' := [(0, .cell (.c (.int .i64 a0))), (1, .cell (.c (.int .u64 a1))), (2, .cell (.c (.int .u64 a2)))]) (Φ := (True)) 1 [0, 1, 2] (by kernel_rfl) trivial (by kernel_rfl) ?_
  refine thenQ_n ?_
  refine W_seq_at (by kernel_rfl) ?_
  refine W_region_at (by kernel_rfl) ?_
  refine WO_exk (σ' := []) (T' := [(1, .cell (.c (.int .u64 a1))), (2, .cell (.c (.int .u64 a2))), (8, .cell (.c (.int .i64 a0)))]) (Φ := (True)) 1 [1, 2, 8] (by kernel_rfl) trivial ?_
  obtain ⟨r1, gr1, h⟩ := bind_some h
  refine WO_call (f := 73) (all := [.cell (.c (.int .i64 a0))]) (d := some 9) (r := .cell (.c (.int .u64 r1))) (by kernel_rfl) (by kernel_rfl) (by kernel_rfl) Tryd.call73 (p73 L _ _ gr1) ?_
  refine WO_fin (σ' := []) (T' := [(1, .cell (.c (.int .u64 a1))), (2, .cell (.c (.int .u64 a2))), (7, .cell (.c (.int .u64 r1)))]) (Φ := (True)) 1 [1, 2, 7] (by kernel_rfl) trivial (by kernel_rfl) ?_
  refine thenQ_n ?_
  refine W_seq_at (by kernel_rfl) ?_
  refine W_seq_at (by kernel_rfl) ?_
  refine W_region_at (by kernel_rfl) ?_
  refine WO_fin (σ' := []) (T' := [(1, .cell (.c (.int .u64 a1))), (2, .cell (.c (.int .u64 a2))), (7, .cell (.c (.int .u64 r1))), (11, .cell (.c (.bool (decide (r1 = (0 : Int))))))]) (Φ := (True)) 2 [1, 2, 7, 11] (by kernel_rfl) trivial (by kernel_rfl) ?_
  refine thenQ_n ?_
  refine W_cond_at (b := (decide (r1 = (0 : Int)))) (by kernel_rfl) (fun hb => ?_) (fun hb => ?_)
  · have h := cond_t hb h
    refine W_seq_at (by kernel_rfl) ?_
    refine W_region_at (by kernel_rfl) ?_
    refine WO_fin (σ' := []) (T' := [(6, .cell (.c (.int .u64 (0 : Int))))]) (Φ := (True)) 1 [6] (by kernel_rfl) trivial (by kernel_rfl) ?_
    refine thenQ_n ?_
    refine W_ret_at (by kernel_rfl) ?_
    refine thenQ_r ?_
    obtain rfl := Option.some.inj h
    exact qret [.cell (.c (.int .u64 (0 : Int)))] (by kernel_rfl) (by kernel_rfl) ([]) (by kernel_rfl)
  · have h := cond_f hb h
    refine W_skip_at (by kernel_rfl) ?_
    refine thenQ_n ?_
    refine W_seq_at (by kernel_rfl) ?_
    refine W_drawK 8 (by kernel_rfl) mixed (by kernel_rfl) ?_
    obtain ⟨c2, h⟩ := ck_bind h
    obtain ⟨c3, h⟩ := ck_bind h
    obtain ⟨c4, h⟩ := ck_bind h
    refine WQ_exk (n' := 0) (T' := [(18, .cell (.c (.int .u64 ((a1 % r1) * (a2 % r1))))), (19, .cell (.c (.int .u64 r1)))]) (Φ := (0 ≤ a1 ∧ 0 < r1) ∧ (0 ≤ a2 ∧ 0 < r1) ∧ (inR .u64 ((a1 % r1) * (a2 % r1))) ∧ (True)) 8 [18, 19] (by kernel_rfl) ⟨c2, c3, c4, trivial⟩ ?_
    refine WQ_done ?_
    obtain ⟨c5, h⟩ := ck_bind h
    refine WO_fin (σ' := []) (T' := [(6, .cell (.c (.int .u64 (((a1 % r1) * (a2 % r1)) % r1))))]) (Φ := (0 ≤ ((a1 % r1) * (a2 % r1)) ∧ 0 < r1) ∧ (True)) 2 [6] (by kernel_rfl) ⟨c5, trivial⟩ (by kernel_rfl) ?_
    refine thenQ_n ?_
    refine W_ret_at (by kernel_rfl) ?_
    obtain rfl := Option.some.inj h
    exact qret [.cell (.c (.int .u64 (((a1 % r1) * (a2 % r1)) % r1)))] (by kernel_rfl) (by kernel_rfl) ([]) (by kernel_rfl)

/- field.Add -/
def s84 (L : LP) (a0 : Int) (a1 : Int) (a2 : Int) : Option Int :=
  (s73 L a0).bind fun r1 =>
  (bif (decide (r1 = (0 : Int))) then
  some (0 : Int)
  else (ck (0 ≤ a1 ∧ 0 < r1)).bind fun _ =>
  (ck (0 ≤ a2 ∧ 0 < r1)).bind fun _ =>
  (ck (inR .u64 ((a1 % r1) + (a2 % r1)))).bind fun _ =>
  ((bif (decide (((a1 % r1) + (a2 % r1)) ≥ r1)) then
  (ck (inR .u64 (((a1 % r1) + (a2 % r1)) - r1))).bind fun _ =>
  some (((a1 % r1) + (a2 % r1)) - r1)
  else some ((a1 % r1) + (a2 % r1)))).bind fun (y5 : Int) =>
  some y5)
theorem p84 (L : LP) (a0 : Int) (a1 : Int) (a2 : Int) (r : Int) (h : s84 L a0 a1 a2 = some r) : Pure X 84 [.cell (.c (.int .i64 a0)), .cell (.c (.int .u64 a1)), .cell (.c (.int .u64 a2))] (.cell (.c (.int .u64 r))) := by
  refine Pure_of_W (c := cd Tryd.f84 []) Tryd.func84 (by kernel_rfl) (N := 27) (by kernel_rfl) (Nat.le_of_ble_eq_true (by kernel_rfl)) ?_
  unfold s84 at h
  refine W_seq_at (by kernel_rfl) ?_
  refine W_region_at (by kernel_rfl) ?_
  refine WO_fin (σ' := []) (T' := [(0, .cell (.c (.int .i64 a0))), (1, .cell (.c (.int .u64 a1))), (2, .cell (.c (.int .u64 a2)))]) (Φ := (True)) 1 [0, 1, 2] (by kernel_rfl) trivial (by kernel_rfl) ?_
  refine thenQ_n ?_
  refine W_seq_at (by kernel_rfl) ?_
  refine W_region_at (by kernel_rfl) ?_
  refine WO_exk (σ' := []) (T' := [(1, .cell (.c (.int .u64 a1))), (2, .cell (.c (.int .u64 a2))), (9, .cell (.c (.int .i64 a0)))]) (Φ := (True)) 1 [1, 2, 9] (by kernel_rfl) trivial ?_
  obtain ⟨r1, gr1, h⟩ := bind_some h
  refine WO_call (f := 73) (all := [.cell (.c (.int .i64 a0))]) (d := some 10) (r := .cell (.c (.int .u64 r1))) (by kernel_rfl) (by kernel_rfl) (by kernel_rfl) Tryd.call73 (p73 L _ _ gr1) ?_
  refine WO_fin (σ' := []) (T' := [(1, .cell (.c (.int .u64 a1))), (2, .cell (.c (.int .u64 a2))), (7, .cell (.c (.int .u64 r1)))]) (Φ := (True)) 1 [1, 2, 7] (by kernel_rfl) trivial (by kernel_rfl) ?_
  refine thenQ_n ?_
  refine W_seq_at (by kernel_rfl) ?_
  refine W_seq_at (by kernel_rfl) ?_
  refine W_region_at (by kernel_rfl) ?_
  refine WO_fin (σ' := []) (T' := [(1, .cell (.c (.int .u64 a1))), (2, .cell (.c (.int .u64 a2))), (7, .cell (.c (.int .u64 r1))), (12, .cell (.c (.bool (decide (r1 = (0 : Int))))))]) (Φ := (True)) 2 [1, 2, 7, 12] (by kernel_rfl) trivial (by kernel_rfl) ?_
  refine thenQ_n ?_
  refine W_cond_at (b := (decide (r1 = (0 : Int)))) (by kernel_rfl) (fun hb => ?_) (fun hb => ?_)
  · have h := cond_t hb h
    refine W_seq_at (by kernel_rfl) ?_
    refine W_region_at (by kernel_rfl) ?_
    refine WO_fin (σ' := []) (T' := [(6, .cell (.c (.int .u64 (0 : Int))))]) (Φ := (True)) 1 [6] (by kernel_rfl) trivial (by kernel_rfl) ?_
    refine thenQ_n ?_
    refine W_ret_at (by kernel_rfl) ?_
    refine thenQ_r ?_
    obtain rfl := Option.some.inj h
    exact qret [.cell (.c (.int .u64 (0 : Int)))] (by kernel_rfl) (by kernel_rfl) ([]) (by kernel_rfl)
  · have h := cond_f hb h
    refine W_skip_at (by kernel_rfl) ?_
    refine thenQ_n ?_
    refine W_seq_at (by kernel_rfl) ?_
    refine W_drawK 6 (by kernel_rfl) mixed (by kernel_rfl) ?_
    obtain ⟨c2, h⟩ := ck_bind h
    obtain ⟨c3, h⟩ := ck_bind h
    refine WQ_exk (n' := 0) (T' := [(7, .cell (.c (.int .u64 r1))), (15, .cell (.c (.int .u64 (a1 % r1)))), (18, .cell (.c (.int .u64 (a2 % r1))))]) (Φ := (0 ≤ a1 ∧ 0 < r1) ∧ (0 ≤ a2 ∧ 0 < r1) ∧ (True)) 6 [7, 15, 18] (by kernel_rfl) ⟨c2, c3, trivial⟩ ?_
    refine WQ_done ?_
    obtain ⟨c4, h⟩ := ck_bind h
    refine WO_fin (σ' := []) (T' := [(7, .cell (.c (.int .u64 r1))), (8, .cell (.c (.int .u64 ((a1 % r1) + (a2 % r1)))))]) (Φ := (inR .u64 ((a1 % r1) + (a2 % r1))) ∧ (True)) 2 [7, 8] (by kernel_rfl) ⟨c4, trivial⟩ (by kernel_rfl) ?_
    refine thenQ_n ?_
    obtain ⟨y5, gy5, ky5⟩ := bind_some h
    refine W_cut (by kernel_rfl) [] [(8, .cell (.c (.int .u64 y5)))] ?_ ?_
    · have h := ky5; clear gy5 ky5
      refine W_seq_at (by kernel_rfl) ?_
      refine W_region_at (by kernel_rfl) ?_
      refine WO_fin (σ' := []) (T' := [(6, .cell (.c (.int .u64 y5)))]) (Φ := (True)) 2 [6] (by kernel_rfl) trivial (by kernel_rfl) ?_
      refine thenQ_n ?_
      refine W_ret_at (by kernel_rfl) ?_
      obtain rfl := Option.some.inj h
      exact qret [.cell (.c (.int .u64 y5))] (by kernel_rfl) (by kernel_rfl) ([]) (by kernel_rfl)
    · have h := gy5; clear gy5 ky5
      refine W_seq_at (by kernel_rfl) ?_
      refine W_region_at (by kernel_rfl) ?_
      refine WO_fin (σ' := []) (T' := [(7, .cell (.c (.int .u64 r1))), (8, .cell (.c (.int .u64 ((a1 % r1) + (a2 % r1))))), (22, .cell (.c (.bool (decide (((a1 % r1) + (a2 % r1)) ≥ r1)))))]) (Φ := (True)) 3 [7, 8, 22] (by kernel_rfl) trivial (by kernel_rfl) ?_
      refine thenQ_n ?_
      refine W_cond_at (b := (decide (((a1 % r1) + (a2 % r1)) ≥ r1))) (by kernel_rfl) (fun hb => ?_) (fun hb => ?_)
      · have h := cond_t hb h
        refine W_region_at (by kernel_rfl) ?_
        obtain ⟨c6, h⟩ := ck_bind h
        refine WO_fin (σ' := []) (T' := [(8, .cell (.c (.int .u64 (((a1 % r1) + (a2 % r1)) - r1))))]) (Φ := (inR .u64 (((a1 % r1) + (a2 % r1)) - r1)) ∧ (True)) 4 [8] (by kernel_rfl) ⟨c6, trivial⟩ (by kernel_rfl) ?_
        obtain rfl := Option.some.inj h
        exact thenQ_n (stps_ok [.keep [8], .take 0] (by kernel_rfl))
      · have h := cond_f hb h
        refine W_skip_at (by kernel_rfl) ?_
        obtain rfl := Option.some.inj h
        exact thenQ_n (stps_ok [.keep [8], .take 0] (by kernel_rfl))

/- mono.list -/
def s124 (L : LP) (a0 : Int) (a1_0 : (List Int)) (a1_1 : (List Int)) (a1_2 : (List Int)) (a1_3 : (List Int)) (a1_4 : (List Int)) (a1_5 : (List Int)) (a1_6 : (List Int)) : Option (List Int) :=
  (bif (decide (a0 = (1 : Int))) then
  some a1_0
  else (bif (decide (a0 = (2 : Int))) then
  some a1_1
  else (bif (decide (a0 = (3 : Int))) then
  some a1_2
  else (bif (decide (a0 = (4 : Int))) then
  some a1_3
  else (bif (decide (a0 = (5 : Int))) then
  some a1_4
  else (bif (decide (a0 = (6 : Int))) then
  some a1_5
  else (bif (decide (a0 = (7 : Int))) then
  some a1_6
  else some [])))))))
theorem p124 (L : LP) (a0 : Int) (a1_0 : (List Int)) (a1_1 : (List Int)) (a1_2 : (List Int)) (a1_3 : (List Int)) (a1_4 : (List Int)) (a1_5 : (List Int)) (a1_6 : (List Int)) (r : (List Int)) (h : s124 L a0 a1_0 a1_1 a1_2 a1_3 a1_4 a1_5 a1_6 = some r) : Pure X 124 [.cell (.c (.int .u8 a0)), .agg [.c (slC e44 a1_0), .c (slC e44 a1_1), .c (slC e44 a1_2), .c (slC e44 a1_3), .c (slC e44 a1_4), .c (slC e44 a1_5), .c (slC e44 a1_6)]] (.cell (.c (slC e44 r))) := by
  refine Pure_of_W (c := cd Tryd.f124 []) Tryd.func124 (by kernel_rfl) (N := 34) (by kernel_rfl) (Nat.le_of_ble_eq_true (by kernel_rfl)) ?_
  unfold s124 at h
  refine W_seq_at (by kernel_rfl) ?_
  refine W_region_at (by kernel_rfl) ?_
  refine WO_fin (σ' := [some (.lit 0 35 [.c (slC e44 a1_0), .c (slC e44 a1_1), .c (slC e44 a1_2), .c (slC e44 a1_3), .c (slC e44 a1_4), .c (slC e44 a1_5), .c (slC e44 a1_6)])]) (T' := [(0, .cell (.c (.int .u8 a0))), (3, .cell (.op 0 0 7 0 0))]) (Φ := (True)) 2 [0, 3] (by kernel_rfl) trivial (by kernel_rfl) ?_
  refine thenQ_n ?_
  refine W_seq_at (by kernel_rfl) ?_
  refine W_seq_at (by kernel_rfl) ?_
  refine W_region_at (by kernel_rfl) ?_
  refine WO_fin (σ' := [some (.lit 0 35 [.c (slC e44 a1_0), .c (slC e44 a1_1), .c (slC e44 a1_2), .c (slC e44 a1_3), .c (slC e44 a1_4), .c (slC e44 a1_5), .c (slC e44 a1_6)])]) (T' := [(3, .cell (.op 0 0 7 0 0)), (5, .cell (.c (.int .u8 a0)))]) (Φ := (True)) 1 [3, 5] (by kernel_rfl) trivial (by kernel_rfl) ?_
  refine thenQ_n ?_
  refine W_block_at 0 (by kernel_rfl) (by kernel_rfl) ?_
  refine W_seq_at (by kernel_rfl) ?_
  refine W_region_at (by kernel_rfl) ?_
  refine WO_fin (σ' := [some (.lit 0 35 [.c (slC e44 a1_0), .c (slC e44 a1_1), .c (slC e44 a1_2), .c (slC e44 a1_3), .c (slC e44 a1_4), .c (slC e44 a1_5), .c (slC e44 a1_6)])]) (T' := [(3, .cell (.op 0 0 7 0 0)), (5, .cell (.c (.int .u8 a0))), (6, .cell (.c (.bool (decide (a0 = (1 : Int))))))]) (Φ := (True)) 2 [3, 5, 6] (by kernel_rfl) trivial (by kernel_rfl) ?_
  refine thenQ_n ?_
  refine W_cond_at (b := (decide (a0 = (1 : Int)))) (by kernel_rfl) (fun hb => ?_) (fun hb => ?_)
  · have h := cond_t hb h
    refine W_seq_at (by kernel_rfl) ?_
    refine W_region_at (by kernel_rfl) ?_
    refine WO_fin (σ' := [some (.lit 0 35 [.c (slC e44 a1_0), .c (slC e44 a1_1), .c (slC e44 a1_2), .c (slC e44 a1_3), .c (slC e44 a1_4), .c (slC e44 a1_5), .c (slC e44 a1_6)])]) (T' := [(4, .cell (.c (slC e44 a1_0)))]) (Φ := (True)) 3 [4] (by kernel_rfl) trivial (by kernel_rfl) ?_
    refine thenQ_n ?_
    refine W_ret_at (by kernel_rfl) ?_
    refine blockQ_r ?_
    refine thenQ_r ?_
    obtain rfl := Option.some.inj h
    exact qret [.cell (.c (slC e44 a1_0))] (by kernel_rfl) (by kernel_rfl) ([]) (by kernel_rfl)
  · have h := cond_f hb h
    refine W_seq_at (by kernel_rfl) ?_
    refine W_region_at (by kernel_rfl) ?_
    refine WO_fin (σ' := [some (.lit 0 35 [.c (slC e44 a1_0), .c (slC e44 a1_1), .c (slC e44 a1_2), .c (slC e44 a1_3), .c (slC e44 a1_4), .c (slC e44 a1_5), .c (slC e44 a1_6)])]) (T' := [(3, .cell (.op 0 0 7 0 0)), (5, .cell (.c (.int .u8 a0))), (10, .cell (.c (.bool (decide (a0 = (2 : Int))))))]) (Φ := (True)) 2 [3, 5, 10] (by kernel_rfl) trivial (by kernel_rfl) ?_
    refine thenQ_n ?_
    refine W_cond_at (b := (decide (a0 = (2 : Int)))) (by kernel_rfl) (fun hb => ?_) (fun hb => ?_)
    · have h := cond_t hb h
      refine W_seq_at (by kernel_rfl) ?_
      refine W_region_at (by kernel_rfl) ?_
      refine WO_fin (σ' := [some (.lit 0 35 [.c (slC e44 a1_0), .c (slC e44 a1_1), .c (slC e44 a1_2), .c (slC e44 a1_3), .c (slC e44 a1_4), .c (slC e44 a1_5), .c (slC e44 a1_6)])]) (T' := [(4, .cell (.c (slC e44 a1_1)))]) (Φ := (True)) 3 [4] (by kernel_rfl) trivial (by kernel_rfl) ?_
      refine thenQ_n ?_
      refine W_ret_at (by kernel_rfl) ?_
      refine blockQ_r ?_
      refine thenQ_r ?_
      obtain rfl := Option.some.inj h
      exact qret [.cell (.c (slC e44 a1_1))] (by kernel_rfl) (by kernel_rfl) ([]) (by kernel_rfl)
    · have h := cond_f hb h
      refine W_seq_at (by kernel_rfl) ?_
      refine W_region_at (by kernel_rfl) ?_
      refine WO_fin (σ' := [some (.lit 0 35 [.c (slC e44 a1_0), .c (slC e44 a1_1), .c (slC e44 a1_2), .c (slC e44 a1_3), .c (slC e44 a1_4), .c (slC e44 a1_5), .c (slC e44 a1_6)])]) (T' := [(3, .cell (.op 0 0 7 0 0)), (5, .cell (.c (.int .u8 a0))), (14, .cell (.c (.bool (decide (a0 = (3 : Int))))))]) (Φ := (True)) 2 [3, 5, 14] (by kernel_rfl) trivial (by kernel_rfl) ?_
      refine thenQ_n ?_
      refine W_cond_at (b := (decide (a0 = (3 : Int)))) (by kernel_rfl) (fun hb => ?_) (fun hb => ?_)
      · have h := cond_t hb h
        refine W_seq_at (by kernel_rfl) ?_
        refine W_region_at (by kernel_rfl) ?_
        refine WO_fin (σ' := [some (.lit 0 35 [.c (slC e44 a1_0), .c (slC e44 a1_1), .c (slC e44 a1_2), .c (slC e44 a1_3), .c (slC e44 a1_4), .c (slC e44 a1_5), .c (slC e44 a1_6)])]) (T' := [(4, .cell (.c (slC e44 a1_2)))]) (Φ := (True)) 3 [4] (by kernel_rfl) trivial (by kernel_rfl) ?_
        refine thenQ_n ?_
        refine W_ret_at (by kernel_rfl) ?_
        refine blockQ_r ?_
        refine thenQ_r ?_
        obtain rfl := Option.some.inj h
        exact qret [.cell (.c (slC e44 a1_2))] (by kernel_rfl) (by kernel_rfl) ([]) (by kernel_rfl)
      · have h := cond_f hb h
        refine W_seq_at (by kernel_rfl) ?_
        refine W_region_at (by kernel_rfl) ?_
        refine WO_fin (σ' := [some (.lit 0 35 [.c (slC e44 a1_0), .c (slC e44 a1_1), .c (slC e44 a1_2), .c (slC e44 a1_3), .c (slC e44 a1_4), .c (slC e44 a1_5), .c (slC e44 a1_6)])]) (T' := [(3, .cell (.op 0 0 7 0 0)), (5, .cell (.c (.int .u8 a0))), (18, .cell (.c (.bool (decide (a0 = (4 : Int))))))]) (Φ := (True)) 2 [3, 5, 18] (by kernel_rfl) trivial (by kernel_rfl) ?_
        refine thenQ_n ?_
        refine W_cond_at (b := (decide (a0 = (4 : Int)))) (by kernel_rfl) (fun hb => ?_) (fun hb => ?_)
        · have h := cond_t hb h
          refine W_seq_at (by kernel_rfl) ?_
          refine W_region_at (by kernel_rfl) ?_
          refine WO_fin (σ' := [some (.lit 0 35 [.c (slC e44 a1_0), .c (slC e44 a1_1), .c (slC e44 a1_2), .c (slC e44 a1_3), .c (slC e44 a1_4), .c (slC e44 a1_5), .c (slC e44 a1_6)])]) (T' := [(4, .cell (.c (slC e44 a1_3)))]) (Φ := (True)) 3 [4] (by kernel_rfl) trivial (by kernel_rfl) ?_
          refine thenQ_n ?_
          refine W_ret_at (by kernel_rfl) ?_
          refine blockQ_r ?_
          refine thenQ_r ?_
          obtain rfl := Option.some.inj h
          exact qret [.cell (.c (slC e44 a1_3))] (by kernel_rfl) (by kernel_rfl) ([]) (by kernel_rfl)
        · have h := cond_f hb h
          refine W_seq_at (by kernel_rfl) ?_
          refine W_region_at (by kernel_rfl) ?_
          refine WO_fin (σ' := [some (.lit 0 35 [.c (slC e44 a1_0), .c (slC e44 a1_1), .c (slC e44 a1_2), .c (slC e44 a1_3), .c (slC e44 a1_4), .c (slC e44 a1_5), .c (slC e44 a1_6)])]) (T' := [(3, .cell (.op 0 0 7 0 0)), (5, .cell (.c (.int .u8 a0))), (22, .cell (.c (.bool (decide (a0 = (5 : Int))))))]) (Φ := (True)) 2 [3, 5, 22] (by kernel_rfl) trivial (by kernel_rfl) ?_
          refine thenQ_n ?_
          refine W_cond_at (b := (decide (a0 = (5 : Int)))) (by kernel_rfl) (fun hb => ?_) (fun hb => ?_)
          · have h := cond_t hb h
            refine W_seq_at (by kernel_rfl) ?_
            refine W_region_at (by kernel_rfl) ?_
            refine WO_fin (σ' := [some (.lit 0 35 [.c (slC e44 a1_0), .c (slC e44 a1_1), .c (slC e44 a1_2), .c (slC e44 a1_3), .c (slC e44 a1_4), .c (slC e44 a1_5), .c (slC e44 a1_6)])]) (T' := [(4, .cell (.c (slC e44 a1_4)))]) (Φ := (True)) 3 [4] (by kernel_rfl) trivial (by kernel_rfl) ?_
            refine thenQ_n ?_
            refine W_ret_at (by kernel_rfl) ?_
            refine blockQ_r ?_
            refine thenQ_r ?_
            obtain rfl := Option.some.inj h
            exact qret [.cell (.c (slC e44 a1_4))] (by kernel_rfl) (by kernel_rfl) ([]) (by kernel_rfl)
          · have h := cond_f hb h
            refine W_seq_at (by kernel_rfl) ?_
            refine W_region_at (by kernel_rfl) ?_
            refine WO_fin (σ' := [some (.lit 0 35 [.c (slC e44 a1_0), .c (slC e44 a1_1), .c (slC e44 a1_2), .c (slC e44 a1_3), .c (slC e44 a1_4), .c (slC e44 a1_5), .c (slC e44 a1_6)])]) (T' := [(3, .cell (.op 0 0 7 0 0)), (5, .cell (.c (.int .u8 a0))), (26, .cell (.c (.bool (decide (a0 = (6 : Int))))))]) (Φ := (True)) 2 [3, 5, 26] (by kernel_rfl) trivial (by kernel_rfl) ?_
            refine thenQ_n ?_
            refine W_cond_at (b := (decide (a0 = (6 : Int)))) (by kernel_rfl) (fun hb => ?_) (fun hb => ?_)
            · have h := cond_t hb h
              refine W_seq_at (by kernel_rfl) ?_
              refine W_region_at (by kernel_rfl) ?_
              refine WO_fin (σ' := [some (.lit 0 35 [.c (slC e44 a1_0), .c (slC e44 a1_1), .c (slC e44 a1_2), .c (slC e44 a1_3), .c (slC e44 a1_4), .c (slC e44 a1_5), .c (slC e44 a1_6)])]) (T' := [(4, .cell (.c (slC e44 a1_5)))]) (Φ := (True)) 3 [4] (by kernel_rfl) trivial (by kernel_rfl) ?_
              refine thenQ_n ?_
              refine W_ret_at (by kernel_rfl) ?_
              refine blockQ_r ?_
              refine thenQ_r ?_
              obtain rfl := Option.some.inj h
              exact qret [.cell (.c (slC e44 a1_5))] (by kernel_rfl) (by kernel_rfl) ([]) (by kernel_rfl)
            · have h := cond_f hb h
              refine W_seq_at (by kernel_rfl) ?_
              refine W_region_at (by kernel_rfl) ?_
              refine WO_fin (σ' := [some (.lit 0 35 [.c (slC e44 a1_0), .c (slC e44 a1_1), .c (slC e44 a1_2), .c (slC e44 a1_3), .c (slC e44 a1_4), .c (slC e44 a1_5), .c (slC e44 a1_6)])]) (T' := [(3, .cell (.op 0 0 7 0 0)), (30, .cell (.c (.bool (decide (a0 = (7 : Int))))))]) (Φ := (True)) 2 [3, 30] (by kernel_rfl) trivial (by kernel_rfl) ?_
              refine thenQ_n ?_
              refine W_cond_at (b := (decide (a0 = (7 : Int)))) (by kernel_rfl) (fun hb => ?_) (fun hb => ?_)
              · have h := cond_t hb h
                refine W_seq_at (by kernel_rfl) ?_
                refine W_region_at (by kernel_rfl) ?_
                refine WO_fin (σ' := [some (.lit 0 35 [.c (slC e44 a1_0), .c (slC e44 a1_1), .c (slC e44 a1_2), .c (slC e44 a1_3), .c (slC e44 a1_4), .c (slC e44 a1_5), .c (slC e44 a1_6)])]) (T' := [(4, .cell (.c (slC e44 a1_6)))]) (Φ := (True)) 3 [4] (by kernel_rfl) trivial (by kernel_rfl) ?_
                refine thenQ_n ?_
                refine W_ret_at (by kernel_rfl) ?_
                refine blockQ_r ?_
                refine thenQ_r ?_
                obtain rfl := Option.some.inj h
                exact qret [.cell (.c (slC e44 a1_6))] (by kernel_rfl) (by kernel_rfl) ([]) (by kernel_rfl)
              · have h := cond_f hb h
                refine W_skip_at (by kernel_rfl) ?_
                refine blockQ_n ?_
                refine thenQ_n ?_
                refine W_seq_at (by kernel_rfl) ?_
                refine W_region_at (by kernel_rfl) ?_
                refine WO_fin (σ' := [some (.lit 0 35 [.c (slC e44 a1_0), .c (slC e44 a1_1), .c (slC e44 a1_2), .c (slC e44 a1_3), .c (slC e44 a1_4), .c (slC e44 a1_5), .c (slC e44 a1_6)])]) (T' := [(4, .cell (.c (.nsl)))]) (Φ := (True)) 1 [4] (by kernel_rfl) trivial (by kernel_rfl) ?_
                refine thenQ_n ?_
                refine W_ret_at (by kernel_rfl) ?_
                obtain rfl := Option.some.inj h
                exact qret [.cell (.c (.nsl))] (by kernel_rfl) (by kernel_rfl) ([.sl 1 (fun i j => (e44.row (([] : List Int).getD i e44.d)).getD j .jk)]) (by kernel_rfl)

/- mono.Value -/
def s94_1 (L : LP) (a0 : Int) (a1 : (List (Int × (List (Int × Int))))) (a2_0 : (List Int)) (a2_1 : (List Int)) (a2_2 : (List Int)) (a2_3 : (List Int)) (a2_4 : (List Int)) (a2_5 : (List Int)) (a2_6 : (List Int)) (y4 : (Int × Int)) (y12 : (Int × Int)) : Option ((Int × Int) ⊕ ((Int × Int) ⊕ Int)) :=
  (bif (decide (y12.2 < (((a1.getD y4.2.toNat e74.d).2).length : Int))) then
  (ck (0 ≤ y12.2 ∧ y12.2 < (((a1.getD y4.2.toNat e74.d).2).length : Int))).bind fun _ =>
  (s124 L ((((a1.getD y4.2.toNat e74.d).2).getD y12.2.toNat e61.d).1) a2_0 a2_1 a2_2 a2_3 a2_4 a2_5 a2_6).bind fun r15 =>
  (bif (decide (((((a1.getD y4.2.toNat e74.d).2).getD y12.2.toNat e61.d).2) < (0 : Int))) then some true
  else some (decide (((((a1.getD y4.2.toNat e74.d).2).getD y12.2.toNat e61.d).2) ≥ (r15.length : Int)))).bind fun y16 =>
  (bif y16 then
  some (.inr (.inl ((0 : Int), (2 : Int))))
  else (ck (0 ≤ ((((a1.getD y4.2.toNat e74.d).2).getD y12.2.toNat e61.d).2) ∧ ((((a1.getD y4.2.toNat e74.d).2).getD y12.2.toNat e61.d).2) < (r15.length : Int))).bind fun _ =>
  (s80 L a0 y12.1 (r15.getD ((((a1.getD y4.2.toNat e74.d).2).getD y12.2.toNat e61.d).2).toNat e44.d)).bind fun r18 =>
  (ck (inR .i64 (y12.2 + (1 : Int)))).bind fun _ =>
  some (.inl (r18, (y12.2 + (1 : Int)))))
  else some (.inr (.inr y12.1)))
def s94_0 (L : LP) (a0 : Int) (a1 : (List (Int × (List (Int × Int))))) (a2_0 : (List Int)) (a2_1 : (List Int)) (a2_2 : (List Int)) (a2_3 : (List Int)) (a2_4 : (List Int)) (a2_5 : (List Int)) (a2_6 : (List Int)) (y4 : (Int × Int)) : Option ((Int × Int) ⊕ ((Int × Int) ⊕ Int)) :=
  (bif (decide (y4.2 < (a1.length : Int))) then
  (ck (0 ≤ y4.2 ∧ y4.2 < (a1.length : Int))).bind fun _ =>
  (s84 L a0 ((a1.getD y4.2.toNat e74.d).1) (0 : Int)).bind fun r7 =>
  ((L.run (s94_1 L a0 a1 a2_0 a2_1 a2_2 a2_3 a2_4 a2_5 a2_6 y4) (r7, (0 : Int))).bind (fun (b : (Int × Int) ⊕ Int) => (match b with
  | .inl v => some (.inr v)
  | .inr v => some (.inl v)))).bind fun (y8 : Int ⊕ (Int × Int)) => (match y8 with
  | .inl v9 => (s84 L a0 y4.1 v9).bind fun r10 =>
  (ck (inR .i64 (y4.2 + (1 : Int)))).bind fun _ =>
  some (.inl (r10, (y4.2 + (1 : Int))))
  | .inr v9 => some (.inr (.inl v9)))
  else some (.inr (.inr y4.1)))
def s94 (L : LP) (a0 : Int) (a1 : (List (Int × (List (Int × Int))))) (a2_0 : (List Int)) (a2_1 : (List Int)) (a2_2 : (List Int)) (a2_3 : (List Int)) (a2_4 : (List Int)) (a2_5 : (List Int)) (a2_6 : (List Int)) : Option (Int × Int) :=
  (s60 L a0).bind fun r1 =>
  (bif (!r1) then
  some ((0 : Int), (1 : Int))
  else ((L.run (s94_0 L a0 a1 a2_0 a2_1 a2_2 a2_3 a2_4 a2_5 a2_6) ((0 : Int), (0 : Int))).bind (fun (b : (Int × Int) ⊕ Int) => (match b with
  | .inl v => some (.inr v)
  | .inr v => some (.inl v)))).bind fun (y2 : Int ⊕ (Int × Int)) => (match y2 with
  | .inl v3 => some (v3, (0 : Int))
  | .inr v3 => some v3))
theorem p94 (L : LP) (a0 : Int) (a1 : (List (Int × (List (Int × Int))))) (a2_0 : (List Int)) (a2_1 : (List Int)) (a2_2 : (List Int)) (a2_3 : (List Int)) (a2_4 : (List Int)) (a2_5 : (List Int)) (a2_6 : (List Int)) (r : (Int × Int)) (h : s94 L a0 a1 a2_0 a2_1 a2_2 a2_3 a2_4 a2_5 a2_6 = some r) : Pure X 94 [.cell (.c (.int .i64 a0)), .cell (.c (slC e74 a1)), .agg [.c (slC e44 a2_0), .c (slC e44 a2_1), .c (slC e44 a2_2), .c (slC e44 a2_3), .c (slC e44 a2_4), .c (slC e44 a2_5), .c (slC e44 a2_6)]] (tupV [.cell (.c (.int .u64 r.1)), .cell (.c (.int .i64 r.2))]) := by
  refine Pure_of_W (c := cd Tryd.f94 []) Tryd.func94 (by kernel_rfl) (N := 64) (by kernel_rfl) (Nat.le_of_ble_eq_true (by kernel_rfl)) ?_
  unfold s94 at h
  refine W_seq_at (by kernel_rfl) ?_
  refine W_region_at (by kernel_rfl) ?_
  refine WO_fin (σ' := [some (.lit 0 35 [.c (slC e44 a2_0), .c (slC e44 a2_1), .c (slC e44 a2_2), .c (slC e44 a2_3), .c (slC e44 a2_4), .c (slC e44 a2_5), .c (slC e44 a2_6)])]) (T' := [(0, .cell (.c (.int .i64 a0))), (1, .cell (.c (slC e74 a1))), (5, .cell (.op 0 0 7 0 0))]) (Φ := (True)) 3 [0, 1, 5] (by kernel_rfl) trivial (by kernel_rfl) ?_
  refine thenQ_n ?_
  refine W_seq_at (by kernel_rfl) ?_
  refine W_seq_at (by kernel_rfl) ?_
  refine W_region_at (by kernel_rfl) ?_
  refine WO_exk (σ' := [some (.lit 0 35 [.c (slC e44 a2_0), .c (slC e44 a2_1), .c (slC e44 a2_2), .c (slC e44 a2_3), .c (slC e44 a2_4), .c (slC e44 a2_5), .c (slC e44 a2_6)])]) (T' := [(0, .cell (.c (.int .i64 a0))), (1, .cell (.c (slC e74 a1))), (5, .cell (.op 0 0 7 0 0)), (15, .cell (.c (.int .i64 a0)))]) (Φ := (True)) 1 [0, 1, 5, 15] (by kernel_rfl) trivial ?_
  obtain ⟨r1, gr1, h⟩ := bind_some h
  refine WO_call (f := 60) (all := [.cell (.c (.int .i64 a0))]) (d := some 16) (r := .cell (.c (.bool r1))) (by kernel_rfl) (by kernel_rfl) (by kernel_rfl) Tryd.call60 (p60 L _ _ gr1) ?_
  refine WO_fin (σ' := [some (.lit 0 35 [.c (slC e44 a2_0), .c (slC e44 a2_1), .c (slC e44 a2_2), .c (slC e44 a2_3), .c (slC e44 a2_4), .c (slC e44 a2_5), .c (slC e44 a2_6)])]) (T' := [(0, .cell (.c (.int .i64 a0))), (1, .cell (.c (slC e74 a1))), (5, .cell (.op 0 0 7 0 0)), (17, .cell (.c (.bool (!r1))))]) (Φ := (True)) 1 [0, 1, 5, 17] (by kernel_rfl) trivial (by kernel_rfl) ?_
  refine thenQ_n ?_
  refine W_cond_at (b := (!r1)) (by kernel_rfl) (fun hb => ?_) (fun hb => ?_)
  · have h := cond_t hb h
    refine W_seq_at (by kernel_rfl) ?_
    refine W_region_at (by kernel_rfl) ?_
    refine WO_fin (σ' := [some (.lit 0 35 [.c (slC e44 a2_0), .c (slC e44 a2_1), .c (slC e44 a2_2), .c (slC e44 a2_3), .c (slC e44 a2_4), .c (slC e44 a2_5), .c (slC e44 a2_6)])]) (T' := [(6, .cell (.c (.int .u64 (0 : Int)))), (7, .cell (.c (.int .i64 (1 : Int))))]) (Φ := (True)) 2 [6, 7] (by kernel_rfl) trivial (by kernel_rfl) ?_
    refine thenQ_n ?_
    refine W_ret_at (by kernel_rfl) ?_
    refine thenQ_r ?_
    obtain rfl := Option.some.inj h
    exact qret [.cell (.c (.int .u64 (0 : Int))), .cell (.c (.int .i64 (1 : Int)))] (by kernel_rfl) (by kernel_rfl) ([]) (by kernel_rfl)
  · have h := cond_f hb h
    refine W_skip_at (by kernel_rfl) ?_
    refine thenQ_n ?_
    refine W_seq_at (by kernel_rfl) ?_
    refine W_region_at (by kernel_rfl) ?_
    refine WO_fin (σ' := [some (.lit 0 35 [.c (slC e44 a2_0), .c (slC e44 a2_1), .c (slC e44 a2_2), .c (slC e44 a2_3), .c (slC e44 a2_4), .c (slC e44 a2_5), .c (slC e44 a2_6)])]) (T' := [(0, .cell (.c (.int .i64 a0))), (1, .cell (.c (slC e74 a1))), (5, .cell (.op 0 0 7 0 0)), (8, .cell (.c (.int .u64 (0 : Int))))]) (Φ := (True)) 1 [0, 1, 5, 8] (by kernel_rfl) trivial (by kernel_rfl) ?_
    refine thenQ_n ?_
    obtain ⟨y2, gy2, ky2⟩ := bind_some h
    refine W_cutE (by kernel_rfl) (fun v3 => y2 = .inl v3) (fun v3 => ([some (.lit 0 35 [.c (slC e44 a2_0), .c (slC e44 a2_1), .c (slC e44 a2_2), .c (slC e44 a2_3), .c (slC e44 a2_4), .c (slC e44 a2_5), .c (slC e44 a2_6)])], [(8, .cell (.c (.int .u64 v3)))])) ?_ ?_
    · intro v3 hv; subst hv; have h := ky2; clear gy2 ky2; dsimp only at h
      refine W_seq_at (by kernel_rfl) ?_
      refine W_region_at (by kernel_rfl) ?_
      refine WO_fin (σ' := [some (.lit 0 35 [.c (slC e44 a2_0), .c (slC e44 a2_1), .c (slC e44 a2_2), .c (slC e44 a2_3), .c (slC e44 a2_4), .c (slC e44 a2_5), .c (slC e44 a2_6)])]) (T' := [(6, .cell (.c (.int .u64 v3))), (7, .cell (.c (.int .i64 (0 : Int))))]) (Φ := (True)) 3 [6, 7] (by kernel_rfl) trivial (by kernel_rfl) ?_
      refine thenQ_n ?_
      refine W_ret_at (by kernel_rfl) ?_
      obtain rfl := Option.some.inj h
      exact qret [.cell (.c (.int .u64 v3)), .cell (.c (.int .i64 (0 : Int)))] (by kernel_rfl) (by kernel_rfl) ([]) (by kernel_rfl)
    · have h := gy2; clear gy2
      refine W_seq_at (by kernel_rfl) ?_
      refine W_region_at (by kernel_rfl) ?_
      refine WO_fin (σ' := [some (.lit 0 35 [.c (slC e44 a2_0), .c (slC e44 a2_1), .c (slC e44 a2_2), .c (slC e44 a2_3), .c (slC e44 a2_4), .c (slC e44 a2_5), .c (slC e44 a2_6)])]) (T' := [(0, .cell (.c (.int .i64 a0))), (5, .cell (.op 0 0 7 0 0)), (8, .cell (.c (.int .u64 (0 : Int)))), (18, .cell (.c (slC e74 a1))), (19, .cell (.c (.int .i64 (a1.length : Int)))), (20, .cell (.c (.int .i64 (0 : Int))))]) (Φ := (True)) 3 [0, 5, 8, 18, 19, 20] (by kernel_rfl) trivial (by kernel_rfl) ?_
      refine thenQ_n ?_
      refine W_block_at 0 (by kernel_rfl) (by kernel_rfl) ?_
      obtain ⟨b5, gb5, kb5⟩ := bind_some h
      refine W_loop_at (S := fun (y4 : (Int × Int)) => ([some (.lit 0 35 [.c (slC e44 a2_0), .c (slC e44 a2_1), .c (slC e44 a2_2), .c (slC e44 a2_3), .c (slC e44 a2_4), .c (slC e44 a2_5), .c (slC e44 a2_6)])], [(0, .cell (.c (.int .i64 a0))), (5, .cell (.op 0 0 7 0 0)), (8, .cell (.c (.int .u64 y4.1))), (18, .cell (.c (slC e74 a1))), (19, .cell (.c (.int .i64 (a1.length : Int)))), (20, .cell (.c (.int .i64 y4.2)))])) (step := _) (x0 := ((0 : Int), (0 : Int))) (b := b5) (L.ok _ _ _ gb5) (by kernel_rfl) (stps_ok [.keep [0, 5, 8, 18, 19, 20], .take 1] (by kernel_rfl)) ?_
      clear gb5 h; intro y4 o h; unfold s94_0 at h
      refine W_seq_at (by kernel_rfl) ?_
      refine W_region_at (by kernel_rfl) ?_
      refine WO_fin (σ' := [some (.lit 0 35 [.c (slC e44 a2_0), .c (slC e44 a2_1), .c (slC e44 a2_2), .c (slC e44 a2_3), .c (slC e44 a2_4), .c (slC e44 a2_5), .c (slC e44 a2_6)])]) (T' := [(0, .cell (.c (.int .i64 a0))), (5, .cell (.op 0 0 7 0 0)), (8, .cell (.c (.int .u64 y4.1))), (18, .cell (.c (slC e74 a1))), (19, .cell (.c (.int .i64 (a1.length : Int)))), (20, .cell (.c (.int .i64 y4.2))), (21, .cell (.c (.bool (decide (y4.2 < (a1.length : Int))))))]) (Φ := (True)) 1 [0, 5, 8, 18, 19, 20, 21] (by kernel_rfl) trivial (by kernel_rfl) ?_
      refine thenQ_n ?_
      refine W_seq_at (by kernel_rfl) ?_
      refine W_cond_at (b := (decide (y4.2 < (a1.length : Int)))) (by kernel_rfl) (fun hb => ?_) (fun hb => ?_)
      · have h := cond_t hb h
        refine W_skip_at (by kernel_rfl) ?_
        refine thenQ_n ?_
        refine W_seq_at (by kernel_rfl) ?_
        refine W_block_at 1 (by kernel_rfl) (by kernel_rfl) ?_
        refine W_seq_at (by kernel_rfl) ?_
        refine W_region_at (by kernel_rfl) ?_
        obtain ⟨c6, h⟩ := ck_bind h
        refine WO_fin (σ' := [some (.lit 0 35 [.c (slC e44 a2_0), .c (slC e44 a2_1), .c (slC e44 a2_2), .c (slC e44 a2_3), .c (slC e44 a2_4), .c (slC e44 a2_5), .c (slC e44 a2_6)]), some (.lit 0 74 [.c (.int .u64 ((a1.getD y4.2.toNat e74.d).1)), .c (slC e61 ((a1.getD y4.2.toNat e74.d).2))])]) (T' := [(0, .cell (.c (.int .i64 a0))), (5, .cell (.op 0 0 7 0 0)), (8, .cell (.c (.int .u64 y4.1))), (10, .cell (.op 1 0 2 0 0)), (18, .cell (.c (slC e74 a1))), (19, .cell (.c (.int .i64 (a1.length : Int)))), (20, .cell (.c (.int .i64 y4.2)))]) (Φ := (0 ≤ y4.2 ∧ y4.2 < (a1.length : Int)) ∧ (True)) 4 [0, 5, 8, 10, 18, 19, 20] (by kernel_rfl) ⟨c6, trivial⟩ (by kernel_rfl) ?_
        refine thenQ_n ?_
        refine W_seq_at (by kernel_rfl) ?_
        refine W_region_at (by kernel_rfl) ?_
        refine WO_exk (σ' := [some (.lit 0 35 [.c (slC e44 a2_0), .c (slC e44 a2_1), .c (slC e44 a2_2), .c (slC e44 a2_3), .c (slC e44 a2_4), .c (slC e44 a2_5), .c (slC e44 a2_6)]), some (.lit 0 74 [.c (.int .u64 ((a1.getD y4.2.toNat e74.d).1)), .c (slC e61 ((a1.getD y4.2.toNat e74.d).2))])]) (T' := [(0, .cell (.c (.int .i64 a0))), (5, .cell (.op 0 0 7 0 0)), (8, .cell (.c (.int .u64 y4.1))), (10, .cell (.op 1 0 2 0 0)), (18, .cell (.c (slC e74 a1))), (19, .cell (.c (.int .i64 (a1.length : Int)))), (20, .cell (.c (.int .i64 y4.2))), (24, .cell (.c (.int .i64 a0))), (26, .cell (.c (.int .u64 ((a1.getD y4.2.toNat e74.d).1))))]) (Φ := (True)) 3 [0, 5, 8, 10, 18, 19, 20, 24, 26] (by kernel_rfl) trivial ?_
        obtain ⟨r7, gr7, h⟩ := bind_some h
        refine WO_call (f := 84) (all := [.cell (.c (.int .i64 a0)), .cell (.c (.int .u64 ((a1.getD y4.2.toNat e74.d).1))), .cell (.c (.int .u64 (0 : Int)))]) (d := some 27) (r := .cell (.c (.int .u64 r7))) (by kernel_rfl) (by kernel_rfl) (by kernel_rfl) Tryd.call84 (p84 L _ _ _ _ gr7) ?_
        refine WO_fin (σ' := [some (.lit 0 35 [.c (slC e44 a2_0), .c (slC e44 a2_1), .c (slC e44 a2_2), .c (slC e44 a2_3), .c (slC e44 a2_4), .c (slC e44 a2_5), .c (slC e44 a2_6)]), some (.lit 0 74 [.c (.int .u64 ((a1.getD y4.2.toNat e74.d).1)), .c (slC e61 ((a1.getD y4.2.toNat e74.d).2))])]) (T' := [(0, .cell (.c (.int .i64 a0))), (5, .cell (.op 0 0 7 0 0)), (8, .cell (.c (.int .u64 y4.1))), (10, .cell (.op 1 0 2 0 0)), (11, .cell (.c (.int .u64 r7))), (18, .cell (.c (slC e74 a1))), (19, .cell (.c (.int .i64 (a1.length : Int)))), (20, .cell (.c (.int .i64 y4.2)))]) (Φ := (True)) 1 [0, 5, 8, 10, 11, 18, 19, 20] (by kernel_rfl) trivial (by kernel_rfl) ?_
        refine thenQ_n ?_
        obtain ⟨y8, gy8, ky8⟩ := bind_some h
        refine W_cutE (by kernel_rfl) (fun v9 => y8 = .inl v9) (fun v9 => ([some (.lit 0 35 [.c (slC e44 a2_0), .c (slC e44 a2_1), .c (slC e44 a2_2), .c (slC e44 a2_3), .c (slC e44 a2_4), .c (slC e44 a2_5), .c (slC e44 a2_6)]), some (.lit 0 74 [.c (.int .u64 ((a1.getD y4.2.toNat e74.d).1)), .c (slC e61 ((a1.getD y4.2.toNat e74.d).2))])], [(0, .cell (.c (.int .i64 a0))), (5, .cell (.op 0 0 7 0 0)), (8, .cell (.c (.int .u64 y4.1))), (11, .cell (.c (.int .u64 v9))), (18, .cell (.c (slC e74 a1))), (19, .cell (.c (.int .i64 (a1.length : Int)))), (20, .cell (.c (.int .i64 y4.2)))])) ?_ ?_
        · intro v9 hv; subst hv; have h := ky8; clear gy8 ky8; dsimp only at h
          refine W_region_at (by kernel_rfl) ?_
          refine WO_exk (σ' := [some (.lit 0 35 [.c (slC e44 a2_0), .c (slC e44 a2_1), .c (slC e44 a2_2), .c (slC e44 a2_3), .c (slC e44 a2_4), .c (slC e44 a2_5), .c (slC e44 a2_6)]), some (.lit 0 74 [.c (.int .u64 ((a1.getD y4.2.toNat e74.d).1)), .c (slC e61 ((a1.getD y4.2.toNat e74.d).2))])]) (T' := [(0, .cell (.c (.int .i64 a0))), (5, .cell (.op 0 0 7 0 0)), (18, .cell (.c (slC e74 a1))), (19, .cell (.c (.int .i64 (a1.length : Int)))), (20, .cell (.c (.int .i64 y4.2))), (58, .cell (.c (.int .i64 a0))), (59, .cell (.c (.int .u64 y4.1))), (60, .cell (.c (.int .u64 v9)))]) (Φ := (True)) 3 [0, 5, 18, 19, 20, 58, 59, 60] (by kernel_rfl) trivial ?_
          obtain ⟨r10, gr10, h⟩ := bind_some h
          refine WO_call (f := 84) (all := [.cell (.c (.int .i64 a0)), .cell (.c (.int .u64 y4.1)), .cell (.c (.int .u64 v9))]) (d := some 61) (r := .cell (.c (.int .u64 r10))) (by kernel_rfl) (by kernel_rfl) (by kernel_rfl) Tryd.call84 (p84 L _ _ _ _ gr10) ?_
          refine WO_fin (σ' := [some (.lit 0 35 [.c (slC e44 a2_0), .c (slC e44 a2_1), .c (slC e44 a2_2), .c (slC e44 a2_3), .c (slC e44 a2_4), .c (slC e44 a2_5), .c (slC e44 a2_6)]), some (.lit 0 74 [.c (.int .u64 ((a1.getD y4.2.toNat e74.d).1)), .c (slC e61 ((a1.getD y4.2.toNat e74.d).2))])]) (T' := [(0, .cell (.c (.int .i64 a0))), (5, .cell (.op 0 0 7 0 0)), (8, .cell (.c (.int .u64 r10))), (18, .cell (.c (slC e74 a1))), (19, .cell (.c (.int .i64 (a1.length : Int)))), (20, .cell (.c (.int .i64 y4.2)))]) (Φ := (True)) 1 [0, 5, 8, 18, 19, 20] (by kernel_rfl) trivial (by kernel_rfl) ?_
          refine blockQ_n ?_
          refine thenQ_n ?_
          refine W_region_at (by kernel_rfl) ?_
          obtain ⟨c11, h⟩ := ck_bind h
          refine WO_fin (σ' := [some (.lit 0 35 [.c (slC e44 a2_0), .c (slC e44 a2_1), .c (slC e44 a2_2), .c (slC e44 a2_3), .c (slC e44 a2_4), .c (slC e44 a2_5), .c (slC e44 a2_6)]), some (.lit 0 74 [.c (.int .u64 ((a1.getD y4.2.toNat e74.d).1)), .c (slC e61 ((a1.getD y4.2.toNat e74.d).2))])]) (T' := [(0, .cell (.c (.int .i64 a0))), (5, .cell (.op 0 0 7 0 0)), (8, .cell (.c (.int .u64 r10))), (18, .cell (.c (slC e74 a1))), (19, .cell (.c (.int .i64 (a1.length : Int)))), (20, .cell (.c (.int .i64 (y4.2 + (1 : Int)))))]) (Φ := (inR .i64 (y4.2 + (1 : Int))) ∧ (True)) 2 [0, 5, 8, 18, 19, 20] (by kernel_rfl) ⟨c11, trivial⟩ (by kernel_rfl) ?_
          obtain rfl := Option.some.inj h
          exact round_n _ rfl (stps_ok [.keep [0, 5, 8, 18, 19, 20], .take 1] (by kernel_rfl))
        · have h := gy8; clear gy8
          refine W_seq_at (by kernel_rfl) ?_
          refine W_region_at (by kernel_rfl) ?_
          refine WO_fin (σ' := [some (.lit 0 35 [.c (slC e44 a2_0), .c (slC e44 a2_1), .c (slC e44 a2_2), .c (slC e44 a2_3), .c (slC e44 a2_4), .c (slC e44 a2_5), .c (slC e44 a2_6)]), some (.lit 0 74 [.c (.int .u64 ((a1.getD y4.2.toNat e74.d).1)), .c (slC e61 ((a1.getD y4.2.toNat e74.d).2))])]) (T' := [(0, .cell (.c (.int .i64 a0))), (5, .cell (.op 0 0 7 0 0)), (8, .cell (.c (.int .u64 y4.1))), (11, .cell (.c (.int .u64 r7))), (18, .cell (.c (slC e74 a1))), (19, .cell (.c (.int .i64 (a1.length : Int)))), (20, .cell (.c (.int .i64 y4.2))), (29, .cell (.c (slC e61 ((a1.getD y4.2.toNat e74.d).2)))), (30, .cell (.c (.int .i64 (((a1.getD y4.2.toNat e74.d).2).length : Int)))), (31, .cell (.c (.int .i64 (0 : Int))))]) (Φ := (True)) 4 [0, 5, 8, 11, 18, 19, 20, 29, 30, 31] (by kernel_rfl) trivial (by kernel_rfl) ?_
          refine thenQ_n ?_
          refine W_block_at 2 (by kernel_rfl) (by kernel_rfl) ?_
          obtain ⟨b13, gb13, kb13⟩ := bind_some h
          refine W_loop_at (S := fun (y12 : (Int × Int)) => ([some (.lit 0 35 [.c (slC e44 a2_0), .c (slC e44 a2_1), .c (slC e44 a2_2), .c (slC e44 a2_3), .c (slC e44 a2_4), .c (slC e44 a2_5), .c (slC e44 a2_6)]), some (.lit 0 74 [.c (.int .u64 ((a1.getD y4.2.toNat e74.d).1)), .c (slC e61 ((a1.getD y4.2.toNat e74.d).2))])], [(0, .cell (.c (.int .i64 a0))), (5, .cell (.op 0 0 7 0 0)), (8, .cell (.c (.int .u64 y4.1))), (11, .cell (.c (.int .u64 y12.1))), (18, .cell (.c (slC e74 a1))), (19, .cell (.c (.int .i64 (a1.length : Int)))), (20, .cell (.c (.int .i64 y4.2))), (29, .cell (.c (slC e61 ((a1.getD y4.2.toNat e74.d).2)))), (30, .cell (.c (.int .i64 (((a1.getD y4.2.toNat e74.d).2).length : Int)))), (31, .cell (.c (.int .i64 y12.2)))])) (step := _) (x0 := (r7, (0 : Int))) (b := b13) (L.ok _ _ _ gb13) (by kernel_rfl) (stps_ok [.keep [0, 5, 8, 11, 18, 19, 20, 29, 30, 31], .take 2] (by kernel_rfl)) ?_
          clear gb13 h; intro y12 o h; unfold s94_1 at h
          refine W_seq_at (by kernel_rfl) ?_
          refine W_region_at (by kernel_rfl) ?_
          refine WO_fin (σ' := [some (.lit 0 35 [.c (slC e44 a2_0), .c (slC e44 a2_1), .c (slC e44 a2_2), .c (slC e44 a2_3), .c (slC e44 a2_4), .c (slC e44 a2_5), .c (slC e44 a2_6)]), some (.lit 0 74 [.c (.int .u64 ((a1.getD y4.2.toNat e74.d).1)), .c (slC e61 ((a1.getD y4.2.toNat e74.d).2))])]) (T' := [(0, .cell (.c (.int .i64 a0))), (5, .cell (.op 0 0 7 0 0)), (8, .cell (.c (.int .u64 y4.1))), (11, .cell (.c (.int .u64 y12.1))), (18, .cell (.c (slC e74 a1))), (19, .cell (.c (.int .i64 (a1.length : Int)))), (20, .cell (.c (.int .i64 y4.2))), (29, .cell (.c (slC e61 ((a1.getD y4.2.toNat e74.d).2)))), (30, .cell (.c (.int .i64 (((a1.getD y4.2.toNat e74.d).2).length : Int)))), (31, .cell (.c (.int .i64 y12.2))), (32, .cell (.c (.bool (decide (y12.2 < (((a1.getD y4.2.toNat e74.d).2).length : Int))))))]) (Φ := (True)) 1 [0, 5, 8, 11, 18, 19, 20, 29, 30, 31, 32] (by kernel_rfl) trivial (by kernel_rfl) ?_
          refine thenQ_n ?_
          refine W_seq_at (by kernel_rfl) ?_
          refine W_cond_at (b := (decide (y12.2 < (((a1.getD y4.2.toNat e74.d).2).length : Int)))) (by kernel_rfl) (fun hb => ?_) (fun hb => ?_)
          · have h := cond_t hb h
            refine W_skip_at (by kernel_rfl) ?_
            refine thenQ_n ?_
            refine W_seq_at (by kernel_rfl) ?_
            refine W_block_at 3 (by kernel_rfl) (by kernel_rfl) ?_
            refine W_seq_at (by kernel_rfl) ?_
            refine W_region_at (by kernel_rfl) ?_
            obtain ⟨c14, h⟩ := ck_bind h
            refine WO_fin (σ' := [some (.lit 0 35 [.c (slC e44 a2_0), .c (slC e44 a2_1), .c (slC e44 a2_2), .c (slC e44 a2_3), .c (slC e44 a2_4), .c (slC e44 a2_5), .c (slC e44 a2_6)]), some (.lit 0 74 [.c (.int .u64 ((a1.getD y4.2.toNat e74.d).1)), .c (slC e61 ((a1.getD y4.2.toNat e74.d).2))]), some (.lit 0 61 [.c (.int .u8 ((((a1.getD y4.2.toNat e74.d).2).getD y12.2.toNat e61.d).1)), .c (.int .i64 ((((a1.getD y4.2.toNat e74.d).2).getD y12.2.toNat e61.d).2))])]) (T' := [(0, .cell (.c (.int .i64 a0))), (5, .cell (.op 0 0 7 0 0)), (8, .cell (.c (.int .u64 y4.1))), (11, .cell (.c (.int .u64 y12.1))), (13, .cell (.op 2 0 2 0 0)), (18, .cell (.c (slC e74 a1))), (19, .cell (.c (.int .i64 (a1.length : Int)))), (20, .cell (.c (.int .i64 y4.2))), (29, .cell (.c (slC e61 ((a1.getD y4.2.toNat e74.d).2)))), (30, .cell (.c (.int .i64 (((a1.getD y4.2.toNat e74.d).2).length : Int)))), (31, .cell (.c (.int .i64 y12.2)))]) (Φ := (0 ≤ y12.2 ∧ y12.2 < (((a1.getD y4.2.toNat e74.d).2).length : Int)) ∧ (True)) 4 [0, 5, 8, 11, 13, 18, 19, 20, 29, 30, 31] (by kernel_rfl) ⟨c14, trivial⟩ (by kernel_rfl) ?_
            refine thenQ_n ?_
            refine W_seq_at (by kernel_rfl) ?_
            refine W_region_at (by kernel_rfl) ?_
            refine WO_exk (σ' := [some (.lit 0 35 [.c (slC e44 a2_0), .c (slC e44 a2_1), .c (slC e44 a2_2), .c (slC e44 a2_3), .c (slC e44 a2_4), .c (slC e44 a2_5), .c (slC e44 a2_6)]), some (.lit 0 74 [.c (.int .u64 ((a1.getD y4.2.toNat e74.d).1)), .c (slC e61 ((a1.getD y4.2.toNat e74.d).2))]), some (.lit 0 61 [.c (.int .u8 ((((a1.getD y4.2.toNat e74.d).2).getD y12.2.toNat e61.d).1)), .c (.int .i64 ((((a1.getD y4.2.toNat e74.d).2).getD y12.2.toNat e61.d).2))])]) (T' := [(0, .cell (.c (.int .i64 a0))), (5, .cell (.op 0 0 7 0 0)), (8, .cell (.c (.int .u64 y4.1))), (11, .cell (.c (.int .u64 y12.1))), (13, .cell (.op 2 0 2 0 0)), (18, .cell (.c (slC e74 a1))), (19, .cell (.c (.int .i64 (a1.length : Int)))), (20, .cell (.c (.int .i64 y4.2))), (29, .cell (.c (slC e61 ((a1.getD y4.2.toNat e74.d).2)))), (30, .cell (.c (.int .i64 (((a1.getD y4.2.toNat e74.d).2).length : Int)))), (31, .cell (.c (.int .i64 y12.2))), (36, .cell (.c (.int .u8 ((((a1.getD y4.2.toNat e74.d).2).getD y12.2.toNat e61.d).1)))), (37, .agg [.c (slC e44 a2_0), .c (slC e44 a2_1), .c (slC e44 a2_2), .c (slC e44 a2_3), .c (slC e44 a2_4), .c (slC e44 a2_5), .c (slC e44 a2_6)])]) (Φ := (True)) 3 [0, 5, 8, 11, 13, 18, 19, 20, 29, 30, 31, 36, 37] (by kernel_rfl) trivial ?_
            obtain ⟨r15, gr15, h⟩ := bind_some h
            refine WO_call (f := 124) (all := [.cell (.c (.int .u8 ((((a1.getD y4.2.toNat e74.d).2).getD y12.2.toNat e61.d).1))), .agg [.c (slC e44 a2_0), .c (slC e44 a2_1), .c (slC e44 a2_2), .c (slC e44 a2_3), .c (slC e44 a2_4), .c (slC e44 a2_5), .c (slC e44 a2_6)]]) (d := some 38) (r := .cell (.c (slC e44 r15))) (by kernel_rfl) (by kernel_rfl) (by kernel_rfl) Tryd.call124 (p124 L _ _ _ _ _ _ _ _ _ gr15) ?_
            refine WO_fin (σ' := [some (.lit 0 35 [.c (slC e44 a2_0), .c (slC e44 a2_1), .c (slC e44 a2_2), .c (slC e44 a2_3), .c (slC e44 a2_4), .c (slC e44 a2_5), .c (slC e44 a2_6)]), some (.lit 0 74 [.c (.int .u64 ((a1.getD y4.2.toNat e74.d).1)), .c (slC e61 ((a1.getD y4.2.toNat e74.d).2))]), some (.lit 0 61 [.c (.int .u8 ((((a1.getD y4.2.toNat e74.d).2).getD y12.2.toNat e61.d).1)), .c (.int .i64 ((((a1.getD y4.2.toNat e74.d).2).getD y12.2.toNat e61.d).2))])]) (T' := [(0, .cell (.c (.int .i64 a0))), (5, .cell (.op 0 0 7 0 0)), (8, .cell (.c (.int .u64 y4.1))), (11, .cell (.c (.int .u64 y12.1))), (13, .cell (.op 2 0 2 0 0)), (14, .cell (.c (slC e44 r15))), (18, .cell (.c (slC e74 a1))), (19, .cell (.c (.int .i64 (a1.length : Int)))), (20, .cell (.c (.int .i64 y4.2))), (29, .cell (.c (slC e61 ((a1.getD y4.2.toNat e74.d).2)))), (30, .cell (.c (.int .i64 (((a1.getD y4.2.toNat e74.d).2).length : Int)))), (31, .cell (.c (.int .i64 y12.2)))]) (Φ := (True)) 1 [0, 5, 8, 11, 13, 14, 18, 19, 20, 29, 30, 31] (by kernel_rfl) trivial (by kernel_rfl) ?_
            refine thenQ_n ?_
            refine W_seq_at (by kernel_rfl) ?_
            refine W_seq_at (by kernel_rfl) ?_
            refine W_region_at (by kernel_rfl) ?_
            refine WO_exk (σ' := [some (.lit 0 35 [.c (slC e44 a2_0), .c (slC e44 a2_1), .c (slC e44 a2_2), .c (slC e44 a2_3), .c (slC e44 a2_4), .c (slC e44 a2_5), .c (slC e44 a2_6)]), some (.lit 0 74 [.c (.int .u64 ((a1.getD y4.2.toNat e74.d).1)), .c (slC e61 ((a1.getD y4.2.toNat e74.d).2))]), some (.lit 0 61 [.c (.int .u8 ((((a1.getD y4.2.toNat e74.d).2).getD y12.2.toNat e61.d).1)), .c (.int .i64 ((((a1.getD y4.2.toNat e74.d).2).getD y12.2.toNat e61.d).2))])]) (T' := [(0, .cell (.c (.int .i64 a0))), (5, .cell (.op 0 0 7 0 0)), (8, .cell (.c (.int .u64 y4.1))), (11, .cell (.c (.int .u64 y12.1))), (13, .cell (.op 2 0 2 0 0)), (14, .cell (.c (slC e44 r15))), (18, .cell (.c (slC e74 a1))), (19, .cell (.c (.int .i64 (a1.length : Int)))), (20, .cell (.c (.int .i64 y4.2))), (29, .cell (.c (slC e61 ((a1.getD y4.2.toNat e74.d).2)))), (30, .cell (.c (.int .i64 (((a1.getD y4.2.toNat e74.d).2).length : Int)))), (31, .cell (.c (.int .i64 y12.2))), (42, .cell (.c (.bool (decide (((((a1.getD y4.2.toNat e74.d).2).getD y12.2.toNat e61.d).2) < (0 : Int))))))]) (Φ := (True)) 4 [0, 5, 8, 11, 13, 14, 18, 19, 20, 29, 30, 31, 42] (by kernel_rfl) trivial ?_
            obtain ⟨y16, gy16, h⟩ := bind_some h
            refine WO_join 10 [some (.lit 0 35 [.c (slC e44 a2_0), .c (slC e44 a2_1), .c (slC e44 a2_2), .c (slC e44 a2_3), .c (slC e44 a2_4), .c (slC e44 a2_5), .c (slC e44 a2_6)]), some (.lit 0 74 [.c (.int .u64 ((a1.getD y4.2.toNat e74.d).1)), .c (slC e61 ((a1.getD y4.2.toNat e74.d).2))]), some (.lit 0 61 [.c (.int .u8 ((((a1.getD y4.2.toNat e74.d).2).getD y12.2.toNat e61.d).1)), .c (.int .i64 ((((a1.getD y4.2.toNat e74.d).2).getD y12.2.toNat e61.d).2))])] [(0, .cell (.c (.int .i64 a0))), (5, .cell (.op 0 0 7 0 0)), (8, .cell (.c (.int .u64 y4.1))), (11, .cell (.c (.int .u64 y12.1))), (13, .cell (.op 2 0 2 0 0)), (14, .cell (.c (slC e44 r15))), (18, .cell (.c (slC e74 a1))), (19, .cell (.c (.int .i64 (a1.length : Int)))), (20, .cell (.c (.int .i64 y4.2))), (29, .cell (.c (slC e61 ((a1.getD y4.2.toNat e74.d).2)))), (30, .cell (.c (.int .i64 (((a1.getD y4.2.toNat e74.d).2).length : Int)))), (31, .cell (.c (.int .i64 y12.2))), (48, .cell (.c (.bool y16)))] ?_ ?_
            · clear gy16
              refine WO_fin (σ' := [some (.lit 0 35 [.c (slC e44 a2_0), .c (slC e44 a2_1), .c (slC e44 a2_2), .c (slC e44 a2_3), .c (slC e44 a2_4), .c (slC e44 a2_5), .c (slC e44 a2_6)]), some (.lit 0 74 [.c (.int .u64 ((a1.getD y4.2.toNat e74.d).1)), .c (slC e61 ((a1.getD y4.2.toNat e74.d).2))]), some (.lit 0 61 [.c (.int .u8 ((((a1.getD y4.2.toNat e74.d).2).getD y12.2.toNat e61.d).1)), .c (.int .i64 ((((a1.getD y4.2.toNat e74.d).2).getD y12.2.toNat e61.d).2))])]) (T' := [(0, .cell (.c (.int .i64 a0))), (5, .cell (.op 0 0 7 0 0)), (8, .cell (.c (.int .u64 y4.1))), (11, .cell (.c (.int .u64 y12.1))), (13, .cell (.op 2 0 2 0 0)), (14, .cell (.c (slC e44 r15))), (18, .cell (.c (slC e74 a1))), (19, .cell (.c (.int .i64 (a1.length : Int)))), (20, .cell (.c (.int .i64 y4.2))), (29, .cell (.c (slC e61 ((a1.getD y4.2.toNat e74.d).2)))), (30, .cell (.c (.int .i64 (((a1.getD y4.2.toNat e74.d).2).length : Int)))), (31, .cell (.c (.int .i64 y12.2))), (48, .cell (.c (.bool y16)))]) (Φ := True) 0 [0, 5, 8, 11, 13, 14, 18, 19, 20, 29, 30, 31, 48] (by kernel_rfl) trivial (by kernel_rfl) ?_
              refine thenQ_n ?_
              refine W_cond_at (b := y16) (by kernel_rfl) (fun hb => ?_) (fun hb => ?_)
              · have h := cond_t hb h
                refine W_seq_at (by kernel_rfl) ?_
                refine W_region_at (by kernel_rfl) ?_
                refine WO_fin (σ' := [some (.lit 0 35 [.c (slC e44 a2_0), .c (slC e44 a2_1), .c (slC e44 a2_2), .c (slC e44 a2_3), .c (slC e44 a2_4), .c (slC e44 a2_5), .c (slC e44 a2_6)]), some (.lit 0 74 [.c (.int .u64 ((a1.getD y4.2.toNat e74.d).1)), .c (slC e61 ((a1.getD y4.2.toNat e74.d).2))]), some (.lit 0 61 [.c (.int .u8 ((((a1.getD y4.2.toNat e74.d).2).getD y12.2.toNat e61.d).1)), .c (.int .i64 ((((a1.getD y4.2.toNat e74.d).2).getD y12.2.toNat e61.d).2))])]) (T' := [(6, .cell (.c (.int .u64 (0 : Int)))), (7, .cell (.c (.int .i64 (2 : Int))))]) (Φ := (True)) 2 [6, 7] (by kernel_rfl) trivial (by kernel_rfl) ?_
                refine thenQ_n ?_
                refine W_ret_at (by kernel_rfl) ?_
                refine thenQ_r ?_
                refine blockQ_r ?_
                refine thenQ_r ?_
                obtain rfl := Option.some.inj h; refine round_r rfl (fun hb => ?_); subst hb; have h := kb13; dsimp only at h
                refine blockQ_r ?_
                obtain rfl := Option.some.inj h; have h := ky8; dsimp only at h; refine thenQ_r ?_
                refine blockQ_r ?_
                refine thenQ_r ?_
                obtain rfl := Option.some.inj h; refine round_r rfl (fun hb => ?_); subst hb; have h := kb5; dsimp only at h
                refine blockQ_r ?_
                obtain rfl := Option.some.inj h; have h := ky2; dsimp only at h; refine thenQ_r ?_
                obtain rfl := Option.some.inj h
                exact qret [.cell (.c (.int .u64 (0 : Int))), .cell (.c (.int .i64 (2 : Int)))] (by kernel_rfl) (by kernel_rfl) ([]) (by kernel_rfl)
              · have h := cond_f hb h
                refine W_skip_at (by kernel_rfl) ?_
                refine thenQ_n ?_
                refine W_region_at (by kernel_rfl) ?_
                obtain ⟨c17, h⟩ := ck_bind h
                refine WO_exk (σ' := [some (.lit 0 35 [.c (slC e44 a2_0), .c (slC e44 a2_1), .c (slC e44 a2_2), .c (slC e44 a2_3), .c (slC e44 a2_4), .c (slC e44 a2_5), .c (slC e44 a2_6)]), some (.lit 0 74 [.c (.int .u64 ((a1.getD y4.2.toNat e74.d).1)), .c (slC e61 ((a1.getD y4.2.toNat e74.d).2))]), some (.lit 0 61 [.c (.int .u8 ((((a1.getD y4.2.toNat e74.d).2).getD y12.2.toNat e61.d).1)), .c (.int .i64 ((((a1.getD y4.2.toNat e74.d).2).getD y12.2.toNat e61.d).2))])]) (T' := [(0, .cell (.c (.int .i64 a0))), (5, .cell (.op 0 0 7 0 0)), (8, .cell (.c (.int .u64 y4.1))), (18, .cell (.c (slC e74 a1))), (19, .cell (.c (.int .i64 (a1.length : Int)))), (20, .cell (.c (.int .i64 y4.2))), (29, .cell (.c (slC e61 ((a1.getD y4.2.toNat e74.d).2)))), (30, .cell (.c (.int .i64 (((a1.getD y4.2.toNat e74.d).2).length : Int)))), (31, .cell (.c (.int .i64 y12.2))), (49, .cell (.c (.int .i64 a0))), (50, .cell (.c (.int .u64 y12.1))), (55, .cell (.c (.int .u64 (r15.getD ((((a1.getD y4.2.toNat e74.d).2).getD y12.2.toNat e61.d).2).toNat e44.d))))]) (Φ := (0 ≤ ((((a1.getD y4.2.toNat e74.d).2).getD y12.2.toNat e61.d).2) ∧ ((((a1.getD y4.2.toNat e74.d).2).getD y12.2.toNat e61.d).2) < (r15.length : Int)) ∧ (True)) 7 [0, 5, 8, 18, 19, 20, 29, 30, 31, 49, 50, 55] (by kernel_rfl) ⟨c17, trivial⟩ ?_
                obtain ⟨r18, gr18, h⟩ := bind_some h
                refine WO_call (f := 80) (all := [.cell (.c (.int .i64 a0)), .cell (.c (.int .u64 y12.1)), .cell (.c (.int .u64 (r15.getD ((((a1.getD y4.2.toNat e74.d).2).getD y12.2.toNat e61.d).2).toNat e44.d)))]) (d := some 56) (r := .cell (.c (.int .u64 r18))) (by kernel_rfl) (by kernel_rfl) (by kernel_rfl) Tryd.call80 (p80 L _ _ _ _ gr18) ?_
                refine WO_fin (σ' := [some (.lit 0 35 [.c (slC e44 a2_0), .c (slC e44 a2_1), .c (slC e44 a2_2), .c (slC e44 a2_3), .c (slC e44 a2_4), .c (slC e44 a2_5), .c (slC e44 a2_6)]), some (.lit 0 74 [.c (.int .u64 ((a1.getD y4.2.toNat e74.d).1)), .c (slC e61 ((a1.getD y4.2.toNat e74.d).2))]), some (.lit 0 61 [.c (.int .u8 ((((a1.getD y4.2.toNat e74.d).2).getD y12.2.toNat e61.d).1)), .c (.int .i64 ((((a1.getD y4.2.toNat e74.d).2).getD y12.2.toNat e61.d).2))])]) (T' := [(0, .cell (.c (.int .i64 a0))), (5, .cell (.op 0 0 7 0 0)), (8, .cell (.c (.int .u64 y4.1))), (11, .cell (.c (.int .u64 r18))), (18, .cell (.c (slC e74 a1))), (19, .cell (.c (.int .i64 (a1.length : Int)))), (20, .cell (.c (.int .i64 y4.2))), (29, .cell (.c (slC e61 ((a1.getD y4.2.toNat e74.d).2)))), (30, .cell (.c (.int .i64 (((a1.getD y4.2.toNat e74.d).2).length : Int)))), (31, .cell (.c (.int .i64 y12.2)))]) (Φ := (True)) 1 [0, 5, 8, 11, 18, 19, 20, 29, 30, 31] (by kernel_rfl) trivial (by kernel_rfl) ?_
                refine blockQ_n ?_
                refine thenQ_n ?_
                refine W_region_at (by kernel_rfl) ?_
                obtain ⟨c19, h⟩ := ck_bind h
                refine WO_fin (σ' := [some (.lit 0 35 [.c (slC e44 a2_0), .c (slC e44 a2_1), .c (slC e44 a2_2), .c (slC e44 a2_3), .c (slC e44 a2_4), .c (slC e44 a2_5), .c (slC e44 a2_6)]), some (.lit 0 74 [.c (.int .u64 ((a1.getD y4.2.toNat e74.d).1)), .c (slC e61 ((a1.getD y4.2.toNat e74.d).2))]), some (.lit 0 61 [.c (.int .u8 ((((a1.getD y4.2.toNat e74.d).2).getD y12.2.toNat e61.d).1)), .c (.int .i64 ((((a1.getD y4.2.toNat e74.d).2).getD y12.2.toNat e61.d).2))])]) (T' := [(0, .cell (.c (.int .i64 a0))), (5, .cell (.op 0 0 7 0 0)), (8, .cell (.c (.int .u64 y4.1))), (11, .cell (.c (.int .u64 r18))), (18, .cell (.c (slC e74 a1))), (19, .cell (.c (.int .i64 (a1.length : Int)))), (20, .cell (.c (.int .i64 y4.2))), (29, .cell (.c (slC e61 ((a1.getD y4.2.toNat e74.d).2)))), (30, .cell (.c (.int .i64 (((a1.getD y4.2.toNat e74.d).2).length : Int)))), (31, .cell (.c (.int .i64 (y12.2 + (1 : Int)))))]) (Φ := (inR .i64 (y12.2 + (1 : Int))) ∧ (True)) 2 [0, 5, 8, 11, 18, 19, 20, 29, 30, 31] (by kernel_rfl) ⟨c19, trivial⟩ (by kernel_rfl) ?_
                obtain rfl := Option.some.inj h
                exact round_n _ rfl (stps_ok [.keep [0, 5, 8, 11, 18, 19, 20, 29, 30, 31], .take 2] (by kernel_rfl))
            · intro J
              clear h
              rcases Bool.eq_false_or_eq_true (decide (((((a1.getD y4.2.toNat e74.d).2).getD y12.2.toNat e61.d).2) < (0 : Int))) with hb | hb
              · have h := cond_t hb gy16; clear gy16
                refine WO_ent (ent_bool (T' := [(42, .cell (.c (.bool true))), (0, .cell (.c (.int .i64 a0))), (5, .cell (.op 0 0 7 0 0)), (8, .cell (.c (.int .u64 y4.1))), (11, .cell (.c (.int .u64 y12.1))), (13, .cell (.op 2 0 2 0 0)), (14, .cell (.c (slC e44 r15))), (18, .cell (.c (slC e74 a1))), (19, .cell (.c (.int .i64 (a1.length : Int)))), (20, .cell (.c (.int .i64 y4.2))), (29, .cell (.c (slC e61 ((a1.getD y4.2.toNat e74.d).2)))), (30, .cell (.c (.int .i64 (((a1.getD y4.2.toNat e74.d).2).length : Int)))), (31, .cell (.c (.int .i64 y12.2)))]) 42 hb (by kernel_rfl) (by kernel_rfl)) ?_
                obtain rfl := Option.some.inj h
                refine WO_exk (σ' := [some (.lit 0 35 [.c (slC e44 a2_0), .c (slC e44 a2_1), .c (slC e44 a2_2), .c (slC e44 a2_3), .c (slC e44 a2_4), .c (slC e44 a2_5), .c (slC e44 a2_6)]), some (.lit 0 74 [.c (.int .u64 ((a1.getD y4.2.toNat e74.d).1)), .c (slC e61 ((a1.getD y4.2.toNat e74.d).2))]), some (.lit 0 61 [.c (.int .u8 ((((a1.getD y4.2.toNat e74.d).2).getD y12.2.toNat e61.d).1)), .c (.int .i64 ((((a1.getD y4.2.toNat e74.d).2).getD y12.2.toNat e61.d).2))])]) (T' := [(0, .cell (.c (.int .i64 a0))), (5, .cell (.op 0 0 7 0 0)), (8, .cell (.c (.int .u64 y4.1))), (11, .cell (.c (.int .u64 y12.1))), (13, .cell (.op 2 0 2 0 0)), (14, .cell (.c (slC e44 r15))), (18, .cell (.c (slC e74 a1))), (19, .cell (.c (.int .i64 (a1.length : Int)))), (20, .cell (.c (.int .i64 y4.2))), (29, .cell (.c (slC e61 ((a1.getD y4.2.toNat e74.d).2)))), (30, .cell (.c (.int .i64 (((a1.getD y4.2.toNat e74.d).2).length : Int)))), (31, .cell (.c (.int .i64 y12.2))), (48, .cell (.c (.bool true)))]) (Φ := True) 6 [0, 5, 8, 11, 13, 14, 18, 19, 20, 29, 30, 31, 48] (by kernel_rfl) trivial J
              · have h := cond_f hb gy16; clear gy16
                refine WO_ent (ent_bool (T' := [(42, .cell (.c (.bool false))), (0, .cell (.c (.int .i64 a0))), (5, .cell (.op 0 0 7 0 0)), (8, .cell (.c (.int .u64 y4.1))), (11, .cell (.c (.int .u64 y12.1))), (13, .cell (.op 2 0 2 0 0)), (14, .cell (.c (slC e44 r15))), (18, .cell (.c (slC e74 a1))), (19, .cell (.c (.int .i64 (a1.length : Int)))), (20, .cell (.c (.int .i64 y4.2))), (29, .cell (.c (slC e61 ((a1.getD y4.2.toNat e74.d).2)))), (30, .cell (.c (.int .i64 (((a1.getD y4.2.toNat e74.d).2).length : Int)))), (31, .cell (.c (.int .i64 y12.2)))]) 42 hb (by kernel_rfl) (by kernel_rfl)) ?_
                refine WO_exk (σ' := [some (.lit 0 35 [.c (slC e44 a2_0), .c (slC e44 a2_1), .c (slC e44 a2_2), .c (slC e44 a2_3), .c (slC e44 a2_4), .c (slC e44 a2_5), .c (slC e44 a2_6)]), some (.lit 0 74 [.c (.int .u64 ((a1.getD y4.2.toNat e74.d).1)), .c (slC e61 ((a1.getD y4.2.toNat e74.d).2))]), some (.lit 0 61 [.c (.int .u8 ((((a1.getD y4.2.toNat e74.d).2).getD y12.2.toNat e61.d).1)), .c (.int .i64 ((((a1.getD y4.2.toNat e74.d).2).getD y12.2.toNat e61.d).2))])]) (T' := [(0, .cell (.c (.int .i64 a0))), (5, .cell (.op 0 0 7 0 0)), (8, .cell (.c (.int .u64 y4.1))), (11, .cell (.c (.int .u64 y12.1))), (13, .cell (.op 2 0 2 0 0)), (14, .cell (.c (slC e44 r15))), (18, .cell (.c (slC e74 a1))), (19, .cell (.c (.int .i64 (a1.length : Int)))), (20, .cell (.c (.int .i64 y4.2))), (29, .cell (.c (slC e61 ((a1.getD y4.2.toNat e74.d).2)))), (30, .cell (.c (.int .i64 (((a1.getD y4.2.toNat e74.d).2).length : Int)))), (31, .cell (.c (.int .i64 y12.2))), (42, .cell (.c (.bool false))), (43, .cell (.op 2 0 2 0 1)), (44, .cell (.c (.int .i64 ((((a1.getD y4.2.toNat e74.d).2).getD y12.2.toNat e61.d).2)))), (45, .cell (.c (slC e44 r15))), (46, .cell (.c (.int .i64 (r15.length : Int)))), (47, .cell (.c (.bool (decide (((((a1.getD y4.2.toNat e74.d).2).getD y12.2.toNat e61.d).2) ≥ (r15.length : Int))))))]) (Φ := (True)) 5 [0, 5, 8, 11, 13, 14, 18, 19, 20, 29, 30, 31, 42, 43, 44, 45, 46, 47] (by kernel_rfl) trivial ?_
                obtain rfl := Option.some.inj h
                refine WO_exk (σ' := [some (.lit 0 35 [.c (slC e44 a2_0), .c (slC e44 a2_1), .c (slC e44 a2_2), .c (slC e44 a2_3), .c (slC e44 a2_4), .c (slC e44 a2_5), .c (slC e44 a2_6)]), some (.lit 0 74 [.c (.int .u64 ((a1.getD y4.2.toNat e74.d).1)), .c (slC e61 ((a1.getD y4.2.toNat e74.d).2))]), some (.lit 0 61 [.c (.int .u8 ((((a1.getD y4.2.toNat e74.d).2).getD y12.2.toNat e61.d).1)), .c (.int .i64 ((((a1.getD y4.2.toNat e74.d).2).getD y12.2.toNat e61.d).2))])]) (T' := [(0, .cell (.c (.int .i64 a0))), (5, .cell (.op 0 0 7 0 0)), (8, .cell (.c (.int .u64 y4.1))), (11, .cell (.c (.int .u64 y12.1))), (13, .cell (.op 2 0 2 0 0)), (14, .cell (.c (slC e44 r15))), (18, .cell (.c (slC e74 a1))), (19, .cell (.c (.int .i64 (a1.length : Int)))), (20, .cell (.c (.int .i64 y4.2))), (29, .cell (.c (slC e61 ((a1.getD y4.2.toNat e74.d).2)))), (30, .cell (.c (.int .i64 (((a1.getD y4.2.toNat e74.d).2).length : Int)))), (31, .cell (.c (.int .i64 y12.2))), (48, .cell (.c (.bool (decide (((((a1.getD y4.2.toNat e74.d).2).getD y12.2.toNat e61.d).2) ≥ (r15.length : Int))))))]) (Φ := True) 1 [0, 5, 8, 11, 13, 14, 18, 19, 20, 29, 30, 31, 48] (by kernel_rfl) trivial J
          · have h := cond_f hb h
            refine W_exit_at 2 (by kernel_rfl) (by kernel_rfl) ?_
            refine thenQ_e ?_
            obtain rfl := Option.some.inj h; refine round_e rfl (fun hb => ?_); subst hb; have h := kb13; dsimp only at h
            refine blockQ_hit ?_
            obtain rfl := Option.some.inj h
            exact thenQ_n ⟨_, rfl, stps_ok [.keep [0, 5, 8, 11, 18, 19, 20], .take 2] (by kernel_rfl)⟩
      · have h := cond_f hb h
        refine W_exit_at 0 (by kernel_rfl) (by kernel_rfl) ?_
        refine thenQ_e ?_
        obtain rfl := Option.some.inj h; refine round_e rfl (fun hb => ?_); subst hb; have h := kb5; dsimp only at h
        refine blockQ_hit ?_
        obtain rfl := Option.some.inj h
        exact thenQ_n ⟨_, rfl, stps_ok [.keep [8], .take 1] (by kernel_rfl)⟩

/- not told: system.key -/
def s125 (L : LP) (a0_0 : Int) (a0_1 : Int) (a0_2 : Int) (a0_3 : Int) (a0_4 : (List (List Int))) (a0_5 : (List (Int × (List (Int × (List (Int × Int))))))) (a0_6 : (List ((List (List (Int × Int))) × (List (List (Int × Int)))))) (a0_7 : (List ((List (Int × Int)) × (List (Int × Int)) × Int × Int))) (a1_0 : (List Int)) (a1_1 : (List (List Int))) (a2 : Int) (a3 : (List (Int × Int))) : Option ByteArray := none
theorem p125 (L : LP) (a0_0 : Int) (a0_1 : Int) (a0_2 : Int) (a0_3 : Int) (a0_4 : (List (List Int))) (a0_5 : (List (Int × (List (Int × (List (Int × Int))))))) (a0_6 : (List ((List (List (Int × Int))) × (List (List (Int × Int)))))) (a0_7 : (List ((List (Int × Int)) × (List (Int × Int)) × Int × Int))) (a1_0 : (List Int)) (a1_1 : (List (List Int))) (a2 : Int) (a3 : (List (Int × Int))) (r : ByteArray) (h : s125 L a0_0 a0_1 a0_2 a0_3 a0_4 a0_5 a0_6 a0_7 a1_0 a1_1 a2 a3 = some r) : Pure X 125 [.agg [.c (.int .i64 a0_0), .c (.int .i64 a0_1), .c (.int .i64 a0_2), .c (.int .i64 a0_3), .c (slC e28 a0_4), .c (slC e72 a0_5), .c (slC e65 a0_6), .c (slC e77 a0_7)], .agg [.c (slC e44 a1_0), .c (slC e28 a1_1)], .cell (.c (.int .i64 a2)), .cell (.c (slC e61 a3))] (.cell (.c (.str r))) := by cases h

/- not told: system.balanced -/
def s95 (L : LP) (a0_0 : Int) (a0_1 : Int) (a0_2 : Int) (a0_3 : Int) (a0_4 : (List (List Int))) (a0_5 : (List (Int × (List (Int × (List (Int × Int))))))) (a0_6 : (List ((List (List (Int × Int))) × (List (List (Int × Int)))))) (a0_7 : (List ((List (Int × Int)) × (List (Int × Int)) × Int × Int))) (a1_0 : (List Int)) (a1_1 : (List (List Int))) (a2_0 : (List (List (Int × Int)))) (a2_1 : (List (List (Int × Int)))) : Option Bool := none
theorem p95 (L : LP) (a0_0 : Int) (a0_1 : Int) (a0_2 : Int) (a0_3 : Int) (a0_4 : (List (List Int))) (a0_5 : (List (Int × (List (Int × (List (Int × Int))))))) (a0_6 : (List ((List (List (Int × Int))) × (List (List (Int × Int)))))) (a0_7 : (List ((List (Int × Int)) × (List (Int × Int)) × Int × Int))) (a1_0 : (List Int)) (a1_1 : (List (List Int))) (a2_0 : (List (List (Int × Int)))) (a2_1 : (List (List (Int × Int)))) (r : Bool) (h : s95 L a0_0 a0_1 a0_2 a0_3 a0_4 a0_5 a0_6 a0_7 a1_0 a1_1 a2_0 a2_1 = some r) : Pure X 95 [.agg [.c (.int .i64 a0_0), .c (.int .i64 a0_1), .c (.int .i64 a0_2), .c (.int .i64 a0_3), .c (slC e28 a0_4), .c (slC e72 a0_5), .c (slC e65 a0_6), .c (slC e77 a0_7)], .agg [.c (slC e44 a1_0), .c (slC e28 a1_1)], .agg [.c (slC e62 a2_0), .c (slC e62 a2_1)]] (.cell (.c (.bool r))) := by cases h

/- field.Neg -/
def s137 (L : LP) (a0 : Int) (a1 : Int) : Option Int :=
  (s73 L a0).bind fun r1 =>
  (bif (decide (r1 = (0 : Int))) then some true
  else (ck (0 ≤ a1 ∧ 0 < r1)).bind fun _ =>
  some (decide ((a1 % r1) = (0 : Int)))).bind fun y2 =>
  (bif y2 then
  some (0 : Int)
  else (ck (0 ≤ a1 ∧ 0 < r1)).bind fun _ =>
  (ck (inR .u64 (r1 - (a1 % r1)))).bind fun _ =>
  some (r1 - (a1 % r1)))
theorem p137 (L : LP) (a0 : Int) (a1 : Int) (r : Int) (h : s137 L a0 a1 = some r) : Pure X 137 [.cell (.c (.int .i64 a0)), .cell (.c (.int .u64 a1))] (.cell (.c (.int .u64 r))) := by
  refine Pure_of_W (c := cd Tryd.f137 []) Tryd.func137 (by kernel_rfl) (N := 21) (by kernel_rfl) (Nat.le_of_ble_eq_true (by kernel_rfl)) ?_
  unfold s137 at h
  refine W_seq_at (by kernel_rfl) ?_
  refine W_region_at (by kernel_rfl) ?_
  refine WO_fin (σ' := []) (T' := [(0, .cell (.c (.int .i64 a0))), (1, .cell (.c (.int .u64 a1)))]) (Φ := (True)) 1 [0, 1] (by kernel_rfl) trivial (by kernel_rfl) ?_
  refine thenQ_n ?_
  refine W_seq_at (by kernel_rfl) ?_
  refine W_region_at (by kernel_rfl) ?_
  refine WO_exk (σ' := []) (T' := [(1, .cell (.c (.int .u64 a1))), (6, .cell (.c (.int .i64 a0)))]) (Φ := (True)) 1 [1, 6] (by kernel_rfl) trivial ?_
  obtain ⟨r1, gr1, h⟩ := bind_some h
  refine WO_call (f := 73) (all := [.cell (.c (.int .i64 a0))]) (d := some 7) (r := .cell (.c (.int .u64 r1))) (by kernel_rfl) (by kernel_rfl) (by kernel_rfl) Tryd.call73 (p73 L _ _ gr1) ?_
  refine WO_fin (σ' := []) (T' := [(1, .cell (.c (.int .u64 a1))), (5, .cell (.c (.int .u64 r1)))]) (Φ := (True)) 1 [1, 5] (by kernel_rfl) trivial (by kernel_rfl) ?_
  refine thenQ_n ?_
  refine W_seq_at (by kernel_rfl) ?_
  refine W_seq_at (by kernel_rfl) ?_
  refine W_region_at (by kernel_rfl) ?_
  refine WO_exk (σ' := []) (T' := [(1, .cell (.c (.int .u64 a1))), (5, .cell (.c (.int .u64 r1))), (10, .cell (.c (.bool (decide (r1 = (0 : Int))))))]) (Φ := (True)) 3 [1, 5, 10] (by kernel_rfl) trivial ?_
  obtain ⟨y2, gy2, h⟩ := bind_some h
  refine WO_join 8 [] [(1, .cell (.c (.int .u64 a1))), (5, .cell (.c (.int .u64 r1))), (15, .cell (.c (.bool y2)))] ?_ ?_
  · clear gy2
    refine WO_fin (σ' := []) (T' := [(1, .cell (.c (.int .u64 a1))), (5, .cell (.c (.int .u64 r1))), (15, .cell (.c (.bool y2)))]) (Φ := True) 0 [1, 5, 15] (by kernel_rfl) trivial (by kernel_rfl) ?_
    refine thenQ_n ?_
    refine W_cond_at (b := y2) (by kernel_rfl) (fun hb => ?_) (fun hb => ?_)
    · have h := cond_t hb h
      refine W_seq_at (by kernel_rfl) ?_
      refine W_region_at (by kernel_rfl) ?_
      refine WO_fin (σ' := []) (T' := [(4, .cell (.c (.int .u64 (0 : Int))))]) (Φ := (True)) 1 [4] (by kernel_rfl) trivial (by kernel_rfl) ?_
      refine thenQ_n ?_
      refine W_ret_at (by kernel_rfl) ?_
      refine thenQ_r ?_
      obtain rfl := Option.some.inj h
      exact qret [.cell (.c (.int .u64 (0 : Int)))] (by kernel_rfl) (by kernel_rfl) ([]) (by kernel_rfl)
    · have h := cond_f hb h
      refine W_skip_at (by kernel_rfl) ?_
      refine thenQ_n ?_
      refine W_seq_at (by kernel_rfl) ?_
      refine W_region_at (by kernel_rfl) ?_
      obtain ⟨c3, h⟩ := ck_bind h
      obtain ⟨c4, h⟩ := ck_bind h
      refine WO_fin (σ' := []) (T' := [(4, .cell (.c (.int .u64 (r1 - (a1 % r1)))))]) (Φ := (0 ≤ a1 ∧ 0 < r1) ∧ (inR .u64 (r1 - (a1 % r1))) ∧ (True)) 6 [4] (by kernel_rfl) ⟨c3, c4, trivial⟩ (by kernel_rfl) ?_
      refine thenQ_n ?_
      refine W_ret_at (by kernel_rfl) ?_
      obtain rfl := Option.some.inj h
      exact qret [.cell (.c (.int .u64 (r1 - (a1 % r1))))] (by kernel_rfl) (by kernel_rfl) ([]) (by kernel_rfl)
  · intro J
    clear h
    rcases Bool.eq_false_or_eq_true (decide (r1 = (0 : Int))) with hb | hb
    · have h := cond_t hb gy2; clear gy2
      refine WO_ent (ent_bool (T' := [(10, .cell (.c (.bool true))), (1, .cell (.c (.int .u64 a1))), (5, .cell (.c (.int .u64 r1)))]) 10 hb (by kernel_rfl) (by kernel_rfl)) ?_
      obtain rfl := Option.some.inj h
      refine WO_exk (σ' := []) (T' := [(1, .cell (.c (.int .u64 a1))), (5, .cell (.c (.int .u64 r1))), (15, .cell (.c (.bool true)))]) (Φ := True) 5 [1, 5, 15] (by kernel_rfl) trivial J
    · have h := cond_f hb gy2; clear gy2
      refine WO_ent (ent_bool (T' := [(10, .cell (.c (.bool false))), (1, .cell (.c (.int .u64 a1))), (5, .cell (.c (.int .u64 r1)))]) 10 hb (by kernel_rfl) (by kernel_rfl)) ?_
      obtain ⟨c5, h⟩ := ck_bind h
      refine WO_exk (σ' := []) (T' := [(1, .cell (.c (.int .u64 a1))), (5, .cell (.c (.int .u64 r1))), (10, .cell (.c (.bool false))), (14, .cell (.c (.bool (decide ((a1 % r1) = (0 : Int))))))]) (Φ := (0 ≤ a1 ∧ 0 < r1) ∧ (True)) 4 [1, 5, 10, 14] (by kernel_rfl) ⟨c5, trivial⟩ ?_
      obtain rfl := Option.some.inj h
      refine WO_exk (σ' := []) (T' := [(1, .cell (.c (.int .u64 a1))), (5, .cell (.c (.int .u64 r1))), (15, .cell (.c (.bool (decide ((a1 % r1) = (0 : Int))))))]) (Φ := True) 1 [1, 5, 15] (by kernel_rfl) trivial J

/- field.Sub -/
def s126 (L : LP) (a0 : Int) (a1 : Int) (a2 : Int) : Option Int :=
  (s137 L a0 a2).bind fun r1 =>
  (s84 L a0 a1 r1).bind fun r2 =>
  some r2
theorem p126 (L : LP) (a0 : Int) (a1 : Int) (a2 : Int) (r : Int) (h : s126 L a0 a1 a2 = some r) : Pure X 126 [.cell (.c (.int .i64 a0)), .cell (.c (.int .u64 a1)), .cell (.c (.int .u64 a2))] (.cell (.c (.int .u64 r))) := by
  refine Pure_of_W (c := cd Tryd.f126 []) Tryd.func126 (by kernel_rfl) (N := 13) (by kernel_rfl) (Nat.le_of_ble_eq_true (by kernel_rfl)) ?_
  unfold s126 at h
  refine W_seq_at (by kernel_rfl) ?_
  refine W_region_at (by kernel_rfl) ?_
  refine WO_fin (σ' := []) (T' := [(0, .cell (.c (.int .i64 a0))), (1, .cell (.c (.int .u64 a1))), (2, .cell (.c (.int .u64 a2)))]) (Φ := (True)) 1 [0, 1, 2] (by kernel_rfl) trivial (by kernel_rfl) ?_
  refine thenQ_n ?_
  refine W_seq_at (by kernel_rfl) ?_
  refine W_region_at (by kernel_rfl) ?_
  refine WO_exk (σ' := []) (T' := [(7, .cell (.c (.int .i64 a0))), (8, .cell (.c (.int .u64 a1))), (9, .cell (.c (.int .i64 a0))), (10, .cell (.c (.int .u64 a2)))]) (Φ := (True)) 4 [7, 8, 9, 10] (by kernel_rfl) trivial ?_
  obtain ⟨r1, gr1, h⟩ := bind_some h
  refine WO_call (f := 137) (all := [.cell (.c (.int .i64 a0)), .cell (.c (.int .u64 a2))]) (d := some 11) (r := .cell (.c (.int .u64 r1))) (by kernel_rfl) (by kernel_rfl) (by kernel_rfl) Tryd.call137 (p137 L _ _ _ gr1) ?_
  obtain ⟨r2, gr2, h⟩ := bind_some h
  refine WO_call (f := 84) (all := [.cell (.c (.int .i64 a0)), .cell (.c (.int .u64 a1)), .cell (.c (.int .u64 r1))]) (d := some 12) (r := .cell (.c (.int .u64 r2))) (by kernel_rfl) (by kernel_rfl) (by kernel_rfl) Tryd.call84 (p84 L _ _ _ _ gr2) ?_
  refine WO_fin (σ' := []) (T' := [(6, .cell (.c (.int .u64 r2)))]) (Φ := (True)) 1 [6] (by kernel_rfl) trivial (by kernel_rfl) ?_
  refine thenQ_n ?_
  refine W_ret_at (by kernel_rfl) ?_
  obtain rfl := Option.some.inj h
  exact qret [.cell (.c (.int .u64 r2))] (by kernel_rfl) (by kernel_rfl) ([]) (by kernel_rfl)

/- not told: system.counted -/
def s96 (L : LP) (a0_0 : Int) (a0_1 : Int) (a0_2 : Int) (a0_3 : Int) (a0_4 : (List (List Int))) (a0_5 : (List (Int × (List (Int × (List (Int × Int))))))) (a0_6 : (List ((List (List (Int × Int))) × (List (List (Int × Int)))))) (a0_7 : (List ((List (Int × Int)) × (List (Int × Int)) × Int × Int))) (a1_0 : (List Int)) (a1_1 : (List (List Int))) (a2_0 : (List (Int × Int))) (a2_1 : (List (Int × Int))) (a2_2 : Int) (a2_3 : Int) : Option Bool := none
theorem p96 (L : LP) (a0_0 : Int) (a0_1 : Int) (a0_2 : Int) (a0_3 : Int) (a0_4 : (List (List Int))) (a0_5 : (List (Int × (List (Int × (List (Int × Int))))))) (a0_6 : (List ((List (List (Int × Int))) × (List (List (Int × Int)))))) (a0_7 : (List ((List (Int × Int)) × (List (Int × Int)) × Int × Int))) (a1_0 : (List Int)) (a1_1 : (List (List Int))) (a2_0 : (List (Int × Int))) (a2_1 : (List (Int × Int))) (a2_2 : Int) (a2_3 : Int) (r : Bool) (h : s96 L a0_0 a0_1 a0_2 a0_3 a0_4 a0_5 a0_6 a0_7 a1_0 a1_1 a2_0 a2_1 a2_2 a2_3 = some r) : Pure X 96 [.agg [.c (.int .i64 a0_0), .c (.int .i64 a0_1), .c (.int .i64 a0_2), .c (.int .i64 a0_3), .c (slC e28 a0_4), .c (slC e72 a0_5), .c (slC e65 a0_6), .c (slC e77 a0_7)], .agg [.c (slC e44 a1_0), .c (slC e28 a1_1)], .agg [.c (slC e61 a2_0), .c (slC e61 a2_1), .c (.int .u8 a2_2), .c (.int .i64 a2_3)]] (.cell (.c (.bool r))) := by cases h

/- system.Faults -/
def s42_0 (L : LP) (a0_0 : Int) (a0_1 : Int) (a0_2 : Int) (a0_3 : Int) (a0_4 : (List (List Int))) (a0_5 : (List (Int × (List (Int × (List (Int × Int))))))) (a0_6 : (List ((List (List (Int × Int))) × (List (List (Int × Int)))))) (a0_7 : (List ((List (Int × Int)) × (List (Int × Int)) × Int × Int))) (a1_0 : (List Int)) (a1_1 : (List (List Int))) (y5 : (Int × (List (Int × Int)))) : Option ((Int × (List (Int × Int))) ⊕ (List (Int × Int))) :=
  (bif (decide (y5.1 < (a0_7.length : Int))) then
  ((ck (0 ≤ y5.1 ∧ y5.1 < (a0_7.length : Int))).bind fun _ =>
  (s96 L a0_0 a0_1 a0_2 a0_3 a0_4 a0_5 a0_6 a0_7 a1_0 a1_1 ((a0_7.getD y5.1.toNat e77.d).1) ((a0_7.getD y5.1.toNat e77.d).2.1) ((a0_7.getD y5.1.toNat e77.d).2.2.1) ((a0_7.getD y5.1.toNat e77.d).2.2.2)).bind fun r10 =>
  (bif (!r10) then
  (ck (inR .i64 ((a0_5.length : Int) + (a0_6.length : Int)))).bind fun _ =>
  (ck (inR .i64 (((a0_5.length : Int) + (a0_6.length : Int)) + y5.1))).bind fun _ =>
  (ck ((y5.2.length + [((((a0_5.length : Int) + (a0_6.length : Int)) + y5.1), (-1 : Int))].length) * 16 ≤ 140737488355328 ∧ y5.2.length + [((((a0_5.length : Int) + (a0_6.length : Int)) + y5.1), (-1 : Int))].length ≤ 140737488355328)).bind fun _ =>
  some (y5.2 ++ [((((a0_5.length : Int) + (a0_6.length : Int)) + y5.1), (-1 : Int))])
  else some y5.2)).bind fun (y7 : (List (Int × Int))) =>
  (ck (inR .i64 (y5.1 + (1 : Int)))).bind fun _ =>
  some (.inl ((y5.1 + (1 : Int)), y7))
  else some (.inr y5.2))
def s42_1 (L : LP) (a0_0 : Int) (a0_1 : Int) (a0_2 : Int) (a0_3 : Int) (a0_4 : (List (List Int))) (a0_5 : (List (Int × (List (Int × (List (Int × Int))))))) (a0_6 : (List ((List (List (Int × Int))) × (List (List (Int × Int)))))) (a0_7 : (List ((List (Int × Int)) × (List (Int × Int)) × Int × Int))) (a1_0 : (List Int)) (a1_1 : (List (List Int))) (y14 : (Int × (List (Int × Int)))) : Option ((Int × (List (Int × Int))) ⊕ (List (Int × Int))) :=
  (bif (decide (y14.1 < (a0_6.length : Int))) then
  ((ck (0 ≤ y14.1 ∧ y14.1 < (a0_6.length : Int))).bind fun _ =>
  (s95 L a0_0 a0_1 a0_2 a0_3 a0_4 a0_5 a0_6 a0_7 a1_0 a1_1 ((a0_6.getD y14.1.toNat e65.d).1) ((a0_6.getD y14.1.toNat e65.d).2)).bind fun r19 =>
  (bif (!r19) then
  (ck (inR .i64 ((a0_5.length : Int) + y14.1))).bind fun _ =>
  (ck ((y14.2.length + [(((a0_5.length : Int) + y14.1), (-1 : Int))].length) * 16 ≤ 140737488355328 ∧ y14.2.length + [(((a0_5.length : Int) + y14.1), (-1 : Int))].length ≤ 140737488355328)).bind fun _ =>
  some (y14.2 ++ [(((a0_5.length : Int) + y14.1), (-1 : Int))])
  else some y14.2)).bind fun (y16 : (List (Int × Int))) =>
  (ck (inR .i64 (y14.1 + (1 : Int)))).bind fun _ =>
  some (.inl ((y14.1 + (1 : Int)), y16))
  else some (.inr y14.2))
def s42_3 (L : LP) (a0_0 : Int) (a0_1 : Int) (a0_2 : Int) (a0_3 : Int) (a0_4 : (List (List Int))) (a0_5 : (List (Int × (List (Int × (List (Int × Int))))))) (a0_6 : (List ((List (List (Int × Int))) × (List (List (Int × Int)))))) (a0_7 : (List ((List (Int × Int)) × (List (Int × Int)) × Int × Int))) (a1_0 : (List Int)) (a1_1 : (List (List Int))) (y22 : (Int × (List (Int × Int)))) (r28 : (Int × Int)) (y29 : (Int × (List (Int × Int)))) : Option ((Int × (List (Int × Int))) ⊕ (List (Int × Int))) :=
  (bif (decide (y29.1 < r28.2)) then
  ((s46 L a0_0 a0_1 a0_2 a0_3 a0_4 a0_5 a0_6 a0_7 a1_0 a1_1 y29.1).bind fun r33 =>
  (s94 L a0_0 ((a0_5.getD y22.1.toNat e72.d).2) r33.1 r33.2.1 r33.2.2.1 r33.2.2.2.1 r33.2.2.2.2.1 r33.2.2.2.2.2.1 r33.2.2.2.2.2.2).bind fun r34 =>
  (bif (!(decide (r34.1 = (0 : Int)))) then
  (ck ((y29.2.length + [(y22.1, y29.1)].length) * 16 ≤ 140737488355328 ∧ y29.2.length + [(y22.1, y29.1)].length ≤ 140737488355328)).bind fun _ =>
  some (y29.2 ++ [(y22.1, y29.1)])
  else some y29.2)).bind fun (y31 : (List (Int × Int))) =>
  (ck (inR .i64 (y29.1 + (1 : Int)))).bind fun _ =>
  some (.inl ((y29.1 + (1 : Int)), y31))
  else some (.inr y29.2))
def s42_2 (L : LP) (a0_0 : Int) (a0_1 : Int) (a0_2 : Int) (a0_3 : Int) (a0_4 : (List (List Int))) (a0_5 : (List (Int × (List (Int × (List (Int × Int))))))) (a0_6 : (List ((List (List (Int × Int))) × (List (List (Int × Int)))))) (a0_7 : (List ((List (Int × Int)) × (List (Int × Int)) × Int × Int))) (a1_0 : (List Int)) (a1_1 : (List (List Int))) (y22 : (Int × (List (Int × Int)))) : Option ((Int × (List (Int × Int))) ⊕ (List (Int × Int))) :=
  (bif (decide (y22.1 < (a0_5.length : Int))) then
  ((ck (0 ≤ y22.1 ∧ y22.1 < (a0_5.length : Int))).bind fun _ =>
  (ck (0 ≤ a0_1 ∧ a0_1 < ((IntKind.bits .i64 : Nat) : Int) ∧ inR .i64 ((1 : Int) * 2 ^ a0_1.toNat))).bind fun _ =>
  (s93 L ((a0_5.getD y22.1.toNat e72.d).1) ((1 : Int) * 2 ^ a0_1.toNat)).bind fun r28 =>
  (L.run (s42_3 L a0_0 a0_1 a0_2 a0_3 a0_4 a0_5 a0_6 a0_7 a1_0 a1_1 y22 r28) (r28.1, y22.2)).bind (fun (v : (List (Int × Int))) => some v)).bind fun (y24 : (List (Int × Int))) =>
  (ck (inR .i64 (y22.1 + (1 : Int)))).bind fun _ =>
  some (.inl ((y22.1 + (1 : Int)), y24))
  else some (.inr y22.2))
def s42 (L : LP) (a0_0 : Int) (a0_1 : Int) (a0_2 : Int) (a0_3 : Int) (a0_4 : (List (List Int))) (a0_5 : (List (Int × (List (Int × (List (Int × Int))))))) (a0_6 : (List ((List (List (Int × Int))) × (List (List (Int × Int)))))) (a0_7 : (List ((List (Int × Int)) × (List (Int × Int)) × Int × Int))) (a1_0 : (List Int)) (a1_1 : (List (List Int))) : Option ((List (Int × Int)) × Int) :=
  (s44 L a0_0 a0_1 a0_2 a0_3 a0_4 a0_5 a0_6 a0_7 a1_0 a1_1).bind fun r1 =>
  (bif (!r1) then
  some ([], (1 : Int))
  else ((L.run (s42_2 L a0_0 a0_1 a0_2 a0_3 a0_4 a0_5 a0_6 a0_7 a1_0 a1_1) ((0 : Int), ([] : List (Int × Int)))).bind (fun (v : (List (Int × Int))) => some v)).bind fun (y2 : (List (Int × Int))) =>
  ((L.run (s42_1 L a0_0 a0_1 a0_2 a0_3 a0_4 a0_5 a0_6 a0_7 a1_0 a1_1) ((0 : Int), y2)).bind (fun (v : (List (Int × Int))) => some v)).bind fun (y3 : (List (Int × Int))) =>
  ((L.run (s42_0 L a0_0 a0_1 a0_2 a0_3 a0_4 a0_5 a0_6 a0_7 a1_0 a1_1) ((0 : Int), y3)).bind (fun (v : (List (Int × Int))) => some v)).bind fun (y4 : (List (Int × Int))) =>
  some (y4, (0 : Int)))
theorem p42 (L : LP) (a0_0 : Int) (a0_1 : Int) (a0_2 : Int) (a0_3 : Int) (a0_4 : (List (List Int))) (a0_5 : (List (Int × (List (Int × (List (Int × Int))))))) (a0_6 : (List ((List (List (Int × Int))) × (List (List (Int × Int)))))) (a0_7 : (List ((List (Int × Int)) × (List (Int × Int)) × Int × Int))) (a1_0 : (List Int)) (a1_1 : (List (List Int))) (r : ((List (Int × Int)) × Int)) (h : s42 L a0_0 a0_1 a0_2 a0_3 a0_4 a0_5 a0_6 a0_7 a1_0 a1_1 = some r) : Pure X 42 [.agg [.c (.int .i64 a0_0), .c (.int .i64 a0_1), .c (.int .i64 a0_2), .c (.int .i64 a0_3), .c (slC e28 a0_4), .c (slC e72 a0_5), .c (slC e65 a0_6), .c (slC e77 a0_7)], .agg [.c (slC e44 a1_0), .c (slC e28 a1_1)]] (tupV [.cell (.c (slC e85 r.1)), .cell (.c (.int .i64 r.2))]) := by
  refine Pure_of_W (c := cd Tryd.f42 []) Tryd.func42 (by kernel_rfl) (N := 117) (by kernel_rfl) (Nat.le_of_ble_eq_true (by kernel_rfl)) ?_
  unfold s42 at h
  refine W_seq_at (by kernel_rfl) ?_
  refine W_region_at (by kernel_rfl) ?_
  refine WO_fin (σ' := [some (.lit 0 27 [.c (.int .i64 a0_0), .c (.int .i64 a0_1), .c (.int .i64 a0_2), .c (.int .i64 a0_3), .c (slC e28 a0_4), .c (slC e72 a0_5), .c (slC e65 a0_6), .c (slC e77 a0_7)]), some (.lit 0 30 [.c (slC e44 a1_0), .c (slC e28 a1_1)])]) (T' := [(2, .cell (.op 0 0 8 0 0)), (3, .cell (.op 1 0 2 0 0))]) (Φ := (True)) 4 [2, 3] (by kernel_rfl) trivial (by kernel_rfl) ?_
  refine thenQ_n ?_
  refine W_seq_at (by kernel_rfl) ?_
  refine W_seq_at (by kernel_rfl) ?_
  refine W_region_at (by kernel_rfl) ?_
  refine WO_exk (σ' := [some (.lit 0 27 [.c (.int .i64 a0_0), .c (.int .i64 a0_1), .c (.int .i64 a0_2), .c (.int .i64 a0_3), .c (slC e28 a0_4), .c (slC e72 a0_5), .c (slC e65 a0_6), .c (slC e77 a0_7)]), some (.lit 0 30 [.c (slC e44 a1_0), .c (slC e28 a1_1)])]) (T' := [(2, .cell (.op 0 0 8 0 0)), (3, .cell (.op 1 0 2 0 0)), (18, .agg [.c (.int .i64 a0_0), .c (.int .i64 a0_1), .c (.int .i64 a0_2), .c (.int .i64 a0_3), .c (slC e28 a0_4), .c (slC e72 a0_5), .c (slC e65 a0_6), .c (slC e77 a0_7)]), (19, .agg [.c (slC e44 a1_0), .c (slC e28 a1_1)])]) (Φ := (True)) 2 [2, 3, 18, 19] (by kernel_rfl) trivial ?_
  obtain ⟨r1, gr1, h⟩ := bind_some h
  refine WO_call (f := 44) (all := [.agg [.c (.int .i64 a0_0), .c (.int .i64 a0_1), .c (.int .i64 a0_2), .c (.int .i64 a0_3), .c (slC e28 a0_4), .c (slC e72 a0_5), .c (slC e65 a0_6), .c (slC e77 a0_7)], .agg [.c (slC e44 a1_0), .c (slC e28 a1_1)]]) (d := some 20) (r := .cell (.c (.bool r1))) (by kernel_rfl) (by kernel_rfl) (by kernel_rfl) Tryd.call44 (p44 L _ _ _ _ _ _ _ _ _ _ _ gr1) ?_
  refine WO_fin (σ' := [some (.lit 0 27 [.c (.int .i64 a0_0), .c (.int .i64 a0_1), .c (.int .i64 a0_2), .c (.int .i64 a0_3), .c (slC e28 a0_4), .c (slC e72 a0_5), .c (slC e65 a0_6), .c (slC e77 a0_7)]), some (.lit 0 30 [.c (slC e44 a1_0), .c (slC e28 a1_1)])]) (T' := [(2, .cell (.op 0 0 8 0 0)), (3, .cell (.op 1 0 2 0 0)), (21, .cell (.c (.bool (!r1))))]) (Φ := (True)) 1 [2, 3, 21] (by kernel_rfl) trivial (by kernel_rfl) ?_
  refine thenQ_n ?_
  refine W_cond_at (b := (!r1)) (by kernel_rfl) (fun hb => ?_) (fun hb => ?_)
  · have h := cond_t hb h
    refine W_seq_at (by kernel_rfl) ?_
    refine W_region_at (by kernel_rfl) ?_
    refine WO_fin (σ' := [some (.lit 0 27 [.c (.int .i64 a0_0), .c (.int .i64 a0_1), .c (.int .i64 a0_2), .c (.int .i64 a0_3), .c (slC e28 a0_4), .c (slC e72 a0_5), .c (slC e65 a0_6), .c (slC e77 a0_7)]), some (.lit 0 30 [.c (slC e44 a1_0), .c (slC e28 a1_1)])]) (T' := [(4, .cell (.c (.nsl))), (5, .cell (.c (.int .i64 (1 : Int))))]) (Φ := (True)) 2 [4, 5] (by kernel_rfl) trivial (by kernel_rfl) ?_
    refine thenQ_n ?_
    refine W_ret_at (by kernel_rfl) ?_
    refine thenQ_r ?_
    obtain rfl := Option.some.inj h
    exact qret [.cell (.c (.nsl)), .cell (.c (.int .i64 (1 : Int)))] (by kernel_rfl) (by kernel_rfl) ([.sl 2 (fun i j => (e85.row (([] : List (Int × Int)).getD i e85.d)).getD j .jk), .no]) (by kernel_rfl)
  · have h := cond_f hb h
    refine W_skip_at (by kernel_rfl) ?_
    refine thenQ_n ?_
    refine W_seq_at (by kernel_rfl) ?_
    refine W_region_at (by kernel_rfl) ?_
    refine WO_fin (σ' := [some (.lit 0 27 [.c (.int .i64 a0_0), .c (.int .i64 a0_1), .c (.int .i64 a0_2), .c (.int .i64 a0_3), .c (slC e28 a0_4), .c (slC e72 a0_5), .c (slC e65 a0_6), .c (slC e77 a0_7)]), some (.lit 0 30 [.c (slC e44 a1_0), .c (slC e28 a1_1)])]) (T' := [(2, .cell (.op 0 0 8 0 0)), (3, .cell (.op 1 0 2 0 0)), (6, .cell (.c (.nsl)))]) (Φ := (True)) 1 [2, 3, 6] (by kernel_rfl) trivial (by kernel_rfl) ?_
    refine thenQ_n ?_
    obtain ⟨y2, gy2, ky2⟩ := bind_some h
    refine W_cut (by kernel_rfl) [some (.lit 0 27 [.c (.int .i64 a0_0), .c (.int .i64 a0_1), .c (.int .i64 a0_2), .c (.int .i64 a0_3), .c (slC e28 a0_4), .c (slC e72 a0_5), .c (slC e65 a0_6), .c (slC e77 a0_7)]), some (.lit 0 30 [.c (slC e44 a1_0), .c (slC e28 a1_1)]), some (rwB e85 0 85 y2)] [(2, .cell (.op 0 0 8 0 0)), (3, .cell (.op 1 0 2 0 0)), (6, .cell (.sl 2 0 y2.length))] ?_ ?_
    · have h := ky2; clear gy2 ky2
      obtain ⟨y3, gy3, ky3⟩ := bind_some h
      refine W_cut (by kernel_rfl) [some (.lit 0 27 [.c (.int .i64 a0_0), .c (.int .i64 a0_1), .c (.int .i64 a0_2), .c (.int .i64 a0_3), .c (slC e28 a0_4), .c (slC e72 a0_5), .c (slC e65 a0_6), .c (slC e77 a0_7)]), some (.lit 0 30 [.c (slC e44 a1_0), .c (slC e28 a1_1)]), some (rwB e85 0 85 y3)] [(2, .cell (.op 0 0 8 0 0)), (3, .cell (.op 1 0 2 0 0)), (6, .cell (.sl 2 0 y3.length))] ?_ ?_
      · have h := ky3; clear gy3 ky3
        obtain ⟨y4, gy4, ky4⟩ := bind_some h
        refine W_cut (by kernel_rfl) [some (.lit 0 27 [.c (.int .i64 a0_0), .c (.int .i64 a0_1), .c (.int .i64 a0_2), .c (.int .i64 a0_3), .c (slC e28 a0_4), .c (slC e72 a0_5), .c (slC e65 a0_6), .c (slC e77 a0_7)]), some (.lit 0 30 [.c (slC e44 a1_0), .c (slC e28 a1_1)]), some (rwB e85 0 85 y4)] [(6, .cell (.sl 2 0 y4.length))] ?_ ?_
        · have h := ky4; clear gy4 ky4
          refine W_seq_at (by kernel_rfl) ?_
          refine W_region_at (by kernel_rfl) ?_
          refine WO_fin (σ' := [some (.lit 0 27 [.c (.int .i64 a0_0), .c (.int .i64 a0_1), .c (.int .i64 a0_2), .c (.int .i64 a0_3), .c (slC e28 a0_4), .c (slC e72 a0_5), .c (slC e65 a0_6), .c (slC e77 a0_7)]), some (.lit 0 30 [.c (slC e44 a1_0), .c (slC e28 a1_1)]), some (rwB e85 0 85 y4)]) (T' := [(4, .cell (.sl 2 0 y4.length)), (5, .cell (.c (.int .i64 (0 : Int))))]) (Φ := (True)) 3 [4, 5] (by kernel_rfl) trivial (by kernel_rfl) ?_
          refine thenQ_n ?_
          refine W_ret_at (by kernel_rfl) ?_
          obtain rfl := Option.some.inj h
          exact qret [.cell (.sl 2 0 y4.length), .cell (.c (.int .i64 (0 : Int)))] (by kernel_rfl) (by kernel_rfl) ([]) (by kernel_rfl)
        · have h := gy4; clear gy4 ky4
          refine W_seq_at (by kernel_rfl) ?_
          refine W_region_at (by kernel_rfl) ?_
          refine WO_fin (σ' := [some (.lit 0 27 [.c (.int .i64 a0_0), .c (.int .i64 a0_1), .c (.int .i64 a0_2), .c (.int .i64 a0_3), .c (slC e28 a0_4), .c (slC e72 a0_5), .c (slC e65 a0_6), .c (slC e77 a0_7)]), some (.lit 0 30 [.c (slC e44 a1_0), .c (slC e28 a1_1)]), some (rwB e85 0 85 y3)]) (T' := [(2, .cell (.op 0 0 8 0 0)), (3, .cell (.op 1 0 2 0 0)), (6, .cell (.sl 2 0 y3.length)), (90, .cell (.c (slC e77 a0_7))), (91, .cell (.c (.int .i64 (a0_7.length : Int)))), (92, .cell (.c (.int .i64 (0 : Int))))]) (Φ := (True)) 4 [2, 3, 6, 90, 91, 92] (by kernel_rfl) trivial (by kernel_rfl) ?_
          refine thenQ_n ?_
          refine W_block_at 6 (by kernel_rfl) (by kernel_rfl) ?_
          obtain ⟨b6, gb6, kb6⟩ := bind_some h
          refine W_loop_at (S := fun (y5 : (Int × (List (Int × Int)))) => ([some (.lit 0 27 [.c (.int .i64 a0_0), .c (.int .i64 a0_1), .c (.int .i64 a0_2), .c (.int .i64 a0_3), .c (slC e28 a0_4), .c (slC e72 a0_5), .c (slC e65 a0_6), .c (slC e77 a0_7)]), some (.lit 0 30 [.c (slC e44 a1_0), .c (slC e28 a1_1)]), some (rwB e85 0 85 y5.2)], [(2, .cell (.op 0 0 8 0 0)), (3, .cell (.op 1 0 2 0 0)), (6, .cell (.sl 2 0 y5.2.length)), (90, .cell (.c (slC e77 a0_7))), (91, .cell (.c (.int .i64 (a0_7.length : Int)))), (92, .cell (.c (.int .i64 y5.1)))])) (step := _) (x0 := ((0 : Int), y3)) (b := b6) (L.ok _ _ _ gb6) (by kernel_rfl) (stps_ok [.keep [2, 3, 6, 90, 91, 92], .take 3, .ver0 2] (by kernel_rfl)) ?_
          clear gb6 h; intro y5 o h; unfold s42_0 at h
          refine W_seq_at (by kernel_rfl) ?_
          refine W_region_at (by kernel_rfl) ?_
          refine WO_fin (σ' := [some (.lit 0 27 [.c (.int .i64 a0_0), .c (.int .i64 a0_1), .c (.int .i64 a0_2), .c (.int .i64 a0_3), .c (slC e28 a0_4), .c (slC e72 a0_5), .c (slC e65 a0_6), .c (slC e77 a0_7)]), some (.lit 0 30 [.c (slC e44 a1_0), .c (slC e28 a1_1)]), some (rwB e85 0 85 y5.2)]) (T' := [(2, .cell (.op 0 0 8 0 0)), (3, .cell (.op 1 0 2 0 0)), (6, .cell (.sl 2 0 y5.2.length)), (90, .cell (.c (slC e77 a0_7))), (91, .cell (.c (.int .i64 (a0_7.length : Int)))), (92, .cell (.c (.int .i64 y5.1))), (93, .cell (.c (.bool (decide (y5.1 < (a0_7.length : Int))))))]) (Φ := (True)) 1 [2, 3, 6, 90, 91, 92, 93] (by kernel_rfl) trivial (by kernel_rfl) ?_
          refine thenQ_n ?_
          refine W_seq_at (by kernel_rfl) ?_
          refine W_cond_at (b := (decide (y5.1 < (a0_7.length : Int)))) (by kernel_rfl) (fun hb => ?_) (fun hb => ?_)
          · have h := cond_t hb h
            refine W_skip_at (by kernel_rfl) ?_
            refine thenQ_n ?_
            obtain ⟨y7, gy7, ky7⟩ := bind_some h
            refine W_cut (by kernel_rfl) [some (.lit 0 27 [.c (.int .i64 a0_0), .c (.int .i64 a0_1), .c (.int .i64 a0_2), .c (.int .i64 a0_3), .c (slC e28 a0_4), .c (slC e72 a0_5), .c (slC e65 a0_6), .c (slC e77 a0_7)]), some (.lit 0 30 [.c (slC e44 a1_0), .c (slC e28 a1_1)]), some (rwB e85 0 85 y7)] [(2, .cell (.op 0 0 8 0 0)), (3, .cell (.op 1 0 2 0 0)), (6, .cell (.sl 2 0 y7.length)), (90, .cell (.c (slC e77 a0_7))), (91, .cell (.c (.int .i64 (a0_7.length : Int)))), (92, .cell (.c (.int .i64 y5.1)))] ?_ ?_
            · have h := ky7; clear gy7 ky7
              refine W_region_at (by kernel_rfl) ?_
              obtain ⟨c8, h⟩ := ck_bind h
              refine WO_fin (σ' := [some (.lit 0 27 [.c (.int .i64 a0_0), .c (.int .i64 a0_1), .c (.int .i64 a0_2), .c (.int .i64 a0_3), .c (slC e28 a0_4), .c (slC e72 a0_5), .c (slC e65 a0_6), .c (slC e77 a0_7)]), some (.lit 0 30 [.c (slC e44 a1_0), .c (slC e28 a1_1)]), some (rwB e85 0 85 y7)]) (T' := [(2, .cell (.op 0 0 8 0 0)), (3, .cell (.op 1 0 2 0 0)), (6, .cell (.sl 2 0 y7.length)), (90, .cell (.c (slC e77 a0_7))), (91, .cell (.c (.int .i64 (a0_7.length : Int)))), (92, .cell (.c (.int .i64 (y5.1 + (1 : Int)))))]) (Φ := (inR .i64 (y5.1 + (1 : Int))) ∧ (True)) 2 [2, 3, 6, 90, 91, 92] (by kernel_rfl) ⟨c8, trivial⟩ (by kernel_rfl) ?_
              obtain rfl := Option.some.inj h
              exact round_n _ rfl (stps_ok [.keep [2, 3, 6, 90, 91, 92], .take 3, .ver0 2] (by kernel_rfl))
            · have h := gy7; clear gy7 ky7
              refine W_block_at 7 (by kernel_rfl) (by kernel_rfl) ?_
              refine W_seq_at (by kernel_rfl) ?_
              refine W_region_at (by kernel_rfl) ?_
              obtain ⟨c9, h⟩ := ck_bind h
              refine WO_fin (σ' := [some (.lit 0 27 [.c (.int .i64 a0_0), .c (.int .i64 a0_1), .c (.int .i64 a0_2), .c (.int .i64 a0_3), .c (slC e28 a0_4), .c (slC e72 a0_5), .c (slC e65 a0_6), .c (slC e77 a0_7)]), some (.lit 0 30 [.c (slC e44 a1_0), .c (slC e28 a1_1)]), some (rwB e85 0 85 y5.2), some (.lit 0 77 [.c (slC e61 ((a0_7.getD y5.1.toNat e77.d).1)), .c (slC e61 ((a0_7.getD y5.1.toNat e77.d).2.1)), .c (.int .u8 ((a0_7.getD y5.1.toNat e77.d).2.2.1)), .c (.int .i64 ((a0_7.getD y5.1.toNat e77.d).2.2.2))])]) (T' := [(2, .cell (.op 0 0 8 0 0)), (3, .cell (.op 1 0 2 0 0)), (6, .cell (.sl 2 0 y5.2.length)), (16, .cell (.c (.int .i64 y5.1))), (17, .cell (.op 3 0 4 0 0)), (90, .cell (.c (slC e77 a0_7))), (91, .cell (.c (.int .i64 (a0_7.length : Int)))), (92, .cell (.c (.int .i64 y5.1)))]) (Φ := (0 ≤ y5.1 ∧ y5.1 < (a0_7.length : Int)) ∧ (True)) 6 [2, 3, 6, 16, 17, 90, 91, 92] (by kernel_rfl) ⟨c9, trivial⟩ (by kernel_rfl) ?_
              refine thenQ_n ?_
              refine W_seq_at (by kernel_rfl) ?_
              refine W_region_at (by kernel_rfl) ?_
              refine WO_exk (σ' := [some (.lit 0 27 [.c (.int .i64 a0_0), .c (.int .i64 a0_1), .c (.int .i64 a0_2), .c (.int .i64 a0_3), .c (slC e28 a0_4), .c (slC e72 a0_5), .c (slC e65 a0_6), .c (slC e77 a0_7)]), some (.lit 0 30 [.c (slC e44 a1_0), .c (slC e28 a1_1)]), some (rwB e85 0 85 y5.2), some (.lit 0 77 [.c (slC e61 ((a0_7.getD y5.1.toNat e77.d).1)), .c (slC e61 ((a0_7.getD y5.1.toNat e77.d).2.1)), .c (.int .u8 ((a0_7.getD y5.1.toNat e77.d).2.2.1)), .c (.int .i64 ((a0_7.getD y5.1.toNat e77.d).2.2.2))])]) (T' := [(2, .cell (.op 0 0 8 0 0)), (3, .cell (.op 1 0 2 0 0)), (6, .cell (.sl 2 0 y5.2.length)), (16, .cell (.c (.int .i64 y5.1))), (90, .cell (.c (slC e77 a0_7))), (91, .cell (.c (.int .i64 (a0_7.length : Int)))), (92, .cell (.c (.int .i64 y5.1))), (97, .agg [.c (.int .i64 a0_0), .c (.int .i64 a0_1), .c (.int .i64 a0_2), .c (.int .i64 a0_3), .c (slC e28 a0_4), .c (slC e72 a0_5), .c (slC e65 a0_6), .c (slC e77 a0_7)]), (98, .agg [.c (slC e44 a1_0), .c (slC e28 a1_1)]), (99, .agg [.c (slC e61 ((a0_7.getD y5.1.toNat e77.d).1)), .c (slC e61 ((a0_7.getD y5.1.toNat e77.d).2.1)), .c (.int .u8 ((a0_7.getD y5.1.toNat e77.d).2.2.1)), .c (.int .i64 ((a0_7.getD y5.1.toNat e77.d).2.2.2))])]) (Φ := (True)) 3 [2, 3, 6, 16, 90, 91, 92, 97, 98, 99] (by kernel_rfl) trivial ?_
              obtain ⟨r10, gr10, h⟩ := bind_some h
              refine WO_call (f := 96) (all := [.agg [.c (.int .i64 a0_0), .c (.int .i64 a0_1), .c (.int .i64 a0_2), .c (.int .i64 a0_3), .c (slC e28 a0_4), .c (slC e72 a0_5), .c (slC e65 a0_6), .c (slC e77 a0_7)], .agg [.c (slC e44 a1_0), .c (slC e28 a1_1)], .agg [.c (slC e61 ((a0_7.getD y5.1.toNat e77.d).1)), .c (slC e61 ((a0_7.getD y5.1.toNat e77.d).2.1)), .c (.int .u8 ((a0_7.getD y5.1.toNat e77.d).2.2.1)), .c (.int .i64 ((a0_7.getD y5.1.toNat e77.d).2.2.2))]]) (d := some 100) (r := .cell (.c (.bool r10))) (by kernel_rfl) (by kernel_rfl) (by kernel_rfl) Tryd.call96 (p96 L _ _ _ _ _ _ _ _ _ _ _ _ _ _ _ gr10) ?_
              refine WO_fin (σ' := [some (.lit 0 27 [.c (.int .i64 a0_0), .c (.int .i64 a0_1), .c (.int .i64 a0_2), .c (.int .i64 a0_3), .c (slC e28 a0_4), .c (slC e72 a0_5), .c (slC e65 a0_6), .c (slC e77 a0_7)]), some (.lit 0 30 [.c (slC e44 a1_0), .c (slC e28 a1_1)]), some (rwB e85 0 85 y5.2), some (.lit 0 77 [.c (slC e61 ((a0_7.getD y5.1.toNat e77.d).1)), .c (slC e61 ((a0_7.getD y5.1.toNat e77.d).2.1)), .c (.int .u8 ((a0_7.getD y5.1.toNat e77.d).2.2.1)), .c (.int .i64 ((a0_7.getD y5.1.toNat e77.d).2.2.2))])]) (T' := [(2, .cell (.op 0 0 8 0 0)), (3, .cell (.op 1 0 2 0 0)), (6, .cell (.sl 2 0 y5.2.length)), (16, .cell (.c (.int .i64 y5.1))), (90, .cell (.c (slC e77 a0_7))), (91, .cell (.c (.int .i64 (a0_7.length : Int)))), (92, .cell (.c (.int .i64 y5.1))), (101, .cell (.c (.bool (!r10))))]) (Φ := (True)) 1 [2, 3, 6, 16, 90, 91, 92, 101] (by kernel_rfl) trivial (by kernel_rfl) ?_
              refine thenQ_n ?_
              refine W_cond_at (b := (!r10)) (by kernel_rfl) (fun hb => ?_) (fun hb => ?_)
              · have h := cond_t hb h
                refine W_region_at (by kernel_rfl) ?_
                obtain ⟨c11, h⟩ := ck_bind h
                obtain ⟨c12, h⟩ := ck_bind h
                refine WO_exk (σ' := [some (.lit 0 27 [.c (.int .i64 a0_0), .c (.int .i64 a0_1), .c (.int .i64 a0_2), .c (.int .i64 a0_3), .c (slC e28 a0_4), .c (slC e72 a0_5), .c (slC e65 a0_6), .c (slC e77 a0_7)]), some (.lit 0 30 [.c (slC e44 a1_0), .c (slC e28 a1_1)]), some (rwB e85 0 85 y5.2), some (.lit 0 77 [.c (slC e61 ((a0_7.getD y5.1.toNat e77.d).1)), .c (slC e61 ((a0_7.getD y5.1.toNat e77.d).2.1)), .c (.int .u8 ((a0_7.getD y5.1.toNat e77.d).2.2.1)), .c (.int .i64 ((a0_7.getD y5.1.toNat e77.d).2.2.2))])]) (T' := [(2, .cell (.op 0 0 8 0 0)), (3, .cell (.op 1 0 2 0 0)), (90, .cell (.c (slC e77 a0_7))), (91, .cell (.c (.int .i64 (a0_7.length : Int)))), (92, .cell (.c (.int .i64 y5.1))), (102, .cell (.sl 2 0 y5.2.length)), (112, .agg [.c (.int .i64 (((a0_5.length : Int) + (a0_6.length : Int)) + y5.1)), .c (.int .i64 (-1 : Int))])]) (Φ := (inR .i64 ((a0_5.length : Int) + (a0_6.length : Int))) ∧ (inR .i64 (((a0_5.length : Int) + (a0_6.length : Int)) + y5.1)) ∧ (True)) 11 [2, 3, 90, 91, 92, 102, 112] (by kernel_rfl) ⟨c11, c12, trivial⟩ ?_
                refine WO_q1 (r := .cell (.c (rawC 1 2 [.int .i64 (((a0_5.length : Int) + (a0_6.length : Int)) + y5.1), .int .i64 (-1 : Int)]))) (r' := .cell (.c (slC e85 [((((a0_5.length : Int) + (a0_6.length : Int)) + y5.1), (-1 : Int))]))) (d := some 113) (φ := True) (raw_weak e85 (xs := [((((a0_5.length : Int) + (a0_6.length : Int)) + y5.1), (-1 : Int))]) rfl rfl (by kernel_rfl) (by kernel_rfl)) (by kernel_rfl) trivial ?_
                obtain ⟨c13, h⟩ := ck_bind h
                refine WO_app e85 y5.2 [((((a0_5.length : Int) + (a0_6.length : Int)) + y5.1), (-1 : Int))] (b := 2) (ver := 0) (e := 85) (d := 114) (row2 := fun i j => (e85.row ([((((a0_5.length : Int) + (a0_6.length : Int)) + y5.1), (-1 : Int))].getD i e85.d)).getD j .jk) (Φ := (0 = 0 ∧ (y5.2.length + [((((a0_5.length : Int) + (a0_6.length : Int)) + y5.1), (-1 : Int))].length) * 16 ≤ 140737488355328 ∧ y5.2.length + [((((a0_5.length : Int) + (a0_6.length : Int)) + y5.1), (-1 : Int))].length ≤ 140737488355328) ∧ True) (σ' := [some (.lit 0 27 [.c (.int .i64 a0_0), .c (.int .i64 a0_1), .c (.int .i64 a0_2), .c (.int .i64 a0_3), .c (slC e28 a0_4), .c (slC e72 a0_5), .c (slC e65 a0_6), .c (slC e77 a0_7)]), some (.lit 0 30 [.c (slC e44 a1_0), .c (slC e28 a1_1)]), some (rwB e85 1 85 (y5.2 ++ [((((a0_5.length : Int) + (a0_6.length : Int)) + y5.1), (-1 : Int))])), some (.lit 0 77 [.c (slC e61 ((a0_7.getD y5.1.toNat e77.d).1)), .c (slC e61 ((a0_7.getD y5.1.toNat e77.d).2.1)), .c (.int .u8 ((a0_7.getD y5.1.toNat e77.d).2.2.1)), .c (.int .i64 ((a0_7.getD y5.1.toNat e77.d).2.2.2))])]) (T' := [(114, .cell (.sl 2 1 ((y5.2 ++ [((((a0_5.length : Int) + (a0_6.length : Int)) + y5.1), (-1 : Int))]).length))), (113, .cell (.c (slC e85 [((((a0_5.length : Int) + (a0_6.length : Int)) + y5.1), (-1 : Int))]))), (2, .cell (.op 0 0 8 0 0)), (3, .cell (.op 1 0 2 0 0)), (90, .cell (.c (slC e77 a0_7))), (91, .cell (.c (.int .i64 (a0_7.length : Int)))), (92, .cell (.c (.int .i64 y5.1))), (102, .cell (.sl 2 0 y5.2.length)), (112, .agg [.c (.int .i64 (((a0_5.length : Int) + (a0_6.length : Int)) + y5.1)), .c (.int .i64 (-1 : Int))])]) (by kernel_rfl) ⟨⟨rfl, c13⟩, trivial⟩ (Nat.le_of_ble_eq_true (by kernel_rfl)) (fun _ _ _ _ => rfl) (by kernel_rfl) (by kernel_rfl) ?_
                refine WO_fin (σ' := [some (.lit 0 27 [.c (.int .i64 a0_0), .c (.int .i64 a0_1), .c (.int .i64 a0_2), .c (.int .i64 a0_3), .c (slC e28 a0_4), .c (slC e72 a0_5), .c (slC e65 a0_6), .c (slC e77 a0_7)]), some (.lit 0 30 [.c (slC e44 a1_0), .c (slC e28 a1_1)]), some (rwB e85 1 85 (y5.2 ++ [((((a0_5.length : Int) + (a0_6.length : Int)) + y5.1), (-1 : Int))])), some (.lit 0 77 [.c (slC e61 ((a0_7.getD y5.1.toNat e77.d).1)), .c (slC e61 ((a0_7.getD y5.1.toNat e77.d).2.1)), .c (.int .u8 ((a0_7.getD y5.1.toNat e77.d).2.2.1)), .c (.int .i64 ((a0_7.getD y5.1.toNat e77.d).2.2.2))])]) (T' := [(2, .cell (.op 0 0 8 0 0)), (3, .cell (.op 1 0 2 0 0)), (6, .cell (.sl 2 1 ((y5.2 ++ [((((a0_5.length : Int) + (a0_6.length : Int)) + y5.1), (-1 : Int))]).length))), (90, .cell (.c (slC e77 a0_7))), (91, .cell (.c (.int .i64 (a0_7.length : Int)))), (92, .cell (.c (.int .i64 y5.1)))]) (Φ := (True)) 1 [2, 3, 6, 90, 91, 92] (by kernel_rfl) trivial (by kernel_rfl) ?_
                refine blockQ_n ?_
                obtain rfl := Option.some.inj h
                exact thenQ_n (stps_ok [.keep [2, 3, 6, 90, 91, 92], .take 3, .ver0 2] (by kernel_rfl))
              · have h := cond_f hb h
                refine W_skip_at (by kernel_rfl) ?_
                refine blockQ_n ?_
                obtain rfl := Option.some.inj h
                exact thenQ_n (stps_ok [.keep [2, 3, 6, 90, 91, 92], .take 3, .ver0 2] (by kernel_rfl))
          · have h := cond_f hb h
            refine W_exit_at 6 (by kernel_rfl) (by kernel_rfl) ?_
            refine thenQ_e ?_
            obtain rfl := Option.some.inj h; refine round_e rfl (fun hb => ?_); subst hb; have h := kb6
            refine blockQ_hit ?_
            obtain rfl := Option.some.inj h
            exact thenQ_n (stps_ok [.keep [6], .take 3, .ver0 2] (by kernel_rfl))
      · have h := gy3; clear gy3 ky3
        refine W_seq_at (by kernel_rfl) ?_
        refine W_region_at (by kernel_rfl) ?_
        refine WO_fin (σ' := [some (.lit 0 27 [.c (.int .i64 a0_0), .c (.int .i64 a0_1), .c (.int .i64 a0_2), .c (.int .i64 a0_3), .c (slC e28 a0_4), .c (slC e72 a0_5), .c (slC e65 a0_6), .c (slC e77 a0_7)]), some (.lit 0 30 [.c (slC e44 a1_0), .c (slC e28 a1_1)]), some (rwB e85 0 85 y2)]) (T' := [(2, .cell (.op 0 0 8 0 0)), (3, .cell (.op 1 0 2 0 0)), (6, .cell (.sl 2 0 y2.length)), (67, .cell (.c (slC e65 a0_6))), (68, .cell (.c (.int .i64 (a0_6.length : Int)))), (69, .cell (.c (.int .i64 (0 : Int))))]) (Φ := (True)) 4 [2, 3, 6, 67, 68, 69] (by kernel_rfl) trivial (by kernel_rfl) ?_
        refine thenQ_n ?_
        refine W_block_at 4 (by kernel_rfl) (by kernel_rfl) ?_
        obtain ⟨b15, gb15, kb15⟩ := bind_some h
        refine W_loop_at (S := fun (y14 : (Int × (List (Int × Int)))) => ([some (.lit 0 27 [.c (.int .i64 a0_0), .c (.int .i64 a0_1), .c (.int .i64 a0_2), .c (.int .i64 a0_3), .c (slC e28 a0_4), .c (slC e72 a0_5), .c (slC e65 a0_6), .c (slC e77 a0_7)]), some (.lit 0 30 [.c (slC e44 a1_0), .c (slC e28 a1_1)]), some (rwB e85 0 85 y14.2)], [(2, .cell (.op 0 0 8 0 0)), (3, .cell (.op 1 0 2 0 0)), (6, .cell (.sl 2 0 y14.2.length)), (67, .cell (.c (slC e65 a0_6))), (68, .cell (.c (.int .i64 (a0_6.length : Int)))), (69, .cell (.c (.int .i64 y14.1)))])) (step := _) (x0 := ((0 : Int), y2)) (b := b15) (L.ok _ _ _ gb15) (by kernel_rfl) (stps_ok [.keep [2, 3, 6, 67, 68, 69], .take 3, .ver0 2] (by kernel_rfl)) ?_
        clear gb15 h; intro y14 o h; unfold s42_1 at h
        refine W_seq_at (by kernel_rfl) ?_
        refine W_region_at (by kernel_rfl) ?_
        refine WO_fin (σ' := [some (.lit 0 27 [.c (.int .i64 a0_0), .c (.int .i64 a0_1), .c (.int .i64 a0_2), .c (.int .i64 a0_3), .c (slC e28 a0_4), .c (slC e72 a0_5), .c (slC e65 a0_6), .c (slC e77 a0_7)]), some (.lit 0 30 [.c (slC e44 a1_0), .c (slC e28 a1_1)]), some (rwB e85 0 85 y14.2)]) (T' := [(2, .cell (.op 0 0 8 0 0)), (3, .cell (.op 1 0 2 0 0)), (6, .cell (.sl 2 0 y14.2.length)), (67, .cell (.c (slC e65 a0_6))), (68, .cell (.c (.int .i64 (a0_6.length : Int)))), (69, .cell (.c (.int .i64 y14.1))), (70, .cell (.c (.bool (decide (y14.1 < (a0_6.length : Int))))))]) (Φ := (True)) 1 [2, 3, 6, 67, 68, 69, 70] (by kernel_rfl) trivial (by kernel_rfl) ?_
        refine thenQ_n ?_
        refine W_seq_at (by kernel_rfl) ?_
        refine W_cond_at (b := (decide (y14.1 < (a0_6.length : Int)))) (by kernel_rfl) (fun hb => ?_) (fun hb => ?_)
        · have h := cond_t hb h
          refine W_skip_at (by kernel_rfl) ?_
          refine thenQ_n ?_
          obtain ⟨y16, gy16, ky16⟩ := bind_some h
          refine W_cut (by kernel_rfl) [some (.lit 0 27 [.c (.int .i64 a0_0), .c (.int .i64 a0_1), .c (.int .i64 a0_2), .c (.int .i64 a0_3), .c (slC e28 a0_4), .c (slC e72 a0_5), .c (slC e65 a0_6), .c (slC e77 a0_7)]), some (.lit 0 30 [.c (slC e44 a1_0), .c (slC e28 a1_1)]), some (rwB e85 0 85 y16)] [(2, .cell (.op 0 0 8 0 0)), (3, .cell (.op 1 0 2 0 0)), (6, .cell (.sl 2 0 y16.length)), (67, .cell (.c (slC e65 a0_6))), (68, .cell (.c (.int .i64 (a0_6.length : Int)))), (69, .cell (.c (.int .i64 y14.1)))] ?_ ?_
          · have h := ky16; clear gy16 ky16
            refine W_region_at (by kernel_rfl) ?_
            obtain ⟨c17, h⟩ := ck_bind h
            refine WO_fin (σ' := [some (.lit 0 27 [.c (.int .i64 a0_0), .c (.int .i64 a0_1), .c (.int .i64 a0_2), .c (.int .i64 a0_3), .c (slC e28 a0_4), .c (slC e72 a0_5), .c (slC e65 a0_6), .c (slC e77 a0_7)]), some (.lit 0 30 [.c (slC e44 a1_0), .c (slC e28 a1_1)]), some (rwB e85 0 85 y16)]) (T' := [(2, .cell (.op 0 0 8 0 0)), (3, .cell (.op 1 0 2 0 0)), (6, .cell (.sl 2 0 y16.length)), (67, .cell (.c (slC e65 a0_6))), (68, .cell (.c (.int .i64 (a0_6.length : Int)))), (69, .cell (.c (.int .i64 (y14.1 + (1 : Int)))))]) (Φ := (inR .i64 (y14.1 + (1 : Int))) ∧ (True)) 2 [2, 3, 6, 67, 68, 69] (by kernel_rfl) ⟨c17, trivial⟩ (by kernel_rfl) ?_
            obtain rfl := Option.some.inj h
            exact round_n _ rfl (stps_ok [.keep [2, 3, 6, 67, 68, 69], .take 3, .ver0 2] (by kernel_rfl))
          · have h := gy16; clear gy16 ky16
            refine W_block_at 5 (by kernel_rfl) (by kernel_rfl) ?_
            refine W_seq_at (by kernel_rfl) ?_
            refine W_region_at (by kernel_rfl) ?_
            obtain ⟨c18, h⟩ := ck_bind h
            refine WO_fin (σ' := [some (.lit 0 27 [.c (.int .i64 a0_0), .c (.int .i64 a0_1), .c (.int .i64 a0_2), .c (.int .i64 a0_3), .c (slC e28 a0_4), .c (slC e72 a0_5), .c (slC e65 a0_6), .c (slC e77 a0_7)]), some (.lit 0 30 [.c (slC e44 a1_0), .c (slC e28 a1_1)]), some (rwB e85 0 85 y14.2), some (.lit 0 65 [.c (slC e62 ((a0_6.getD y14.1.toNat e65.d).1)), .c (slC e62 ((a0_6.getD y14.1.toNat e65.d).2))])]) (T' := [(2, .cell (.op 0 0 8 0 0)), (3, .cell (.op 1 0 2 0 0)), (6, .cell (.sl 2 0 y14.2.length)), (14, .cell (.c (.int .i64 y14.1))), (15, .cell (.op 3 0 2 0 0)), (67, .cell (.c (slC e65 a0_6))), (68, .cell (.c (.int .i64 (a0_6.length : Int)))), (69, .cell (.c (.int .i64 y14.1)))]) (Φ := (0 ≤ y14.1 ∧ y14.1 < (a0_6.length : Int)) ∧ (True)) 6 [2, 3, 6, 14, 15, 67, 68, 69] (by kernel_rfl) ⟨c18, trivial⟩ (by kernel_rfl) ?_
            refine thenQ_n ?_
            refine W_seq_at (by kernel_rfl) ?_
            refine W_region_at (by kernel_rfl) ?_
            refine WO_exk (σ' := [some (.lit 0 27 [.c (.int .i64 a0_0), .c (.int .i64 a0_1), .c (.int .i64 a0_2), .c (.int .i64 a0_3), .c (slC e28 a0_4), .c (slC e72 a0_5), .c (slC e65 a0_6), .c (slC e77 a0_7)]), some (.lit 0 30 [.c (slC e44 a1_0), .c (slC e28 a1_1)]), some (rwB e85 0 85 y14.2), some (.lit 0 65 [.c (slC e62 ((a0_6.getD y14.1.toNat e65.d).1)), .c (slC e62 ((a0_6.getD y14.1.toNat e65.d).2))])]) (T' := [(2, .cell (.op 0 0 8 0 0)), (3, .cell (.op 1 0 2 0 0)), (6, .cell (.sl 2 0 y14.2.length)), (14, .cell (.c (.int .i64 y14.1))), (67, .cell (.c (slC e65 a0_6))), (68, .cell (.c (.int .i64 (a0_6.length : Int)))), (69, .cell (.c (.int .i64 y14.1))), (74, .agg [.c (.int .i64 a0_0), .c (.int .i64 a0_1), .c (.int .i64 a0_2), .c (.int .i64 a0_3), .c (slC e28 a0_4), .c (slC e72 a0_5), .c (slC e65 a0_6), .c (slC e77 a0_7)]), (75, .agg [.c (slC e44 a1_0), .c (slC e28 a1_1)]), (76, .agg [.c (slC e62 ((a0_6.getD y14.1.toNat e65.d).1)), .c (slC e62 ((a0_6.getD y14.1.toNat e65.d).2))])]) (Φ := (True)) 3 [2, 3, 6, 14, 67, 68, 69, 74, 75, 76] (by kernel_rfl) trivial ?_
            obtain ⟨r19, gr19, h⟩ := bind_some h
            refine WO_call (f := 95) (all := [.agg [.c (.int .i64 a0_0), .c (.int .i64 a0_1), .c (.int .i64 a0_2), .c (.int .i64 a0_3), .c (slC e28 a0_4), .c (slC e72 a0_5), .c (slC e65 a0_6), .c (slC e77 a0_7)], .agg [.c (slC e44 a1_0), .c (slC e28 a1_1)], .agg [.c (slC e62 ((a0_6.getD y14.1.toNat e65.d).1)), .c (slC e62 ((a0_6.getD y14.1.toNat e65.d).2))]]) (d := some 77) (r := .cell (.c (.bool r19))) (by kernel_rfl) (by kernel_rfl) (by kernel_rfl) Tryd.call95 (p95 L _ _ _ _ _ _ _ _ _ _ _ _ _ gr19) ?_
            refine WO_fin (σ' := [some (.lit 0 27 [.c (.int .i64 a0_0), .c (.int .i64 a0_1), .c (.int .i64 a0_2), .c (.int .i64 a0_3), .c (slC e28 a0_4), .c (slC e72 a0_5), .c (slC e65 a0_6), .c (slC e77 a0_7)]), some (.lit 0 30 [.c (slC e44 a1_0), .c (slC e28 a1_1)]), some (rwB e85 0 85 y14.2), some (.lit 0 65 [.c (slC e62 ((a0_6.getD y14.1.toNat e65.d).1)), .c (slC e62 ((a0_6.getD y14.1.toNat e65.d).2))])]) (T' := [(2, .cell (.op 0 0 8 0 0)), (3, .cell (.op 1 0 2 0 0)), (6, .cell (.sl 2 0 y14.2.length)), (14, .cell (.c (.int .i64 y14.1))), (67, .cell (.c (slC e65 a0_6))), (68, .cell (.c (.int .i64 (a0_6.length : Int)))), (69, .cell (.c (.int .i64 y14.1))), (78, .cell (.c (.bool (!r19))))]) (Φ := (True)) 1 [2, 3, 6, 14, 67, 68, 69, 78] (by kernel_rfl) trivial (by kernel_rfl) ?_
            refine thenQ_n ?_
            refine W_cond_at (b := (!r19)) (by kernel_rfl) (fun hb => ?_) (fun hb => ?_)
            · have h := cond_t hb h
              refine W_region_at (by kernel_rfl) ?_
              obtain ⟨c20, h⟩ := ck_bind h
              refine WO_exk (σ' := [some (.lit 0 27 [.c (.int .i64 a0_0), .c (.int .i64 a0_1), .c (.int .i64 a0_2), .c (.int .i64 a0_3), .c (slC e28 a0_4), .c (slC e72 a0_5), .c (slC e65 a0_6), .c (slC e77 a0_7)]), some (.lit 0 30 [.c (slC e44 a1_0), .c (slC e28 a1_1)]), some (rwB e85 0 85 y14.2), some (.lit 0 65 [.c (slC e62 ((a0_6.getD y14.1.toNat e65.d).1)), .c (slC e62 ((a0_6.getD y14.1.toNat e65.d).2))])]) (T' := [(2, .cell (.op 0 0 8 0 0)), (3, .cell (.op 1 0 2 0 0)), (67, .cell (.c (slC e65 a0_6))), (68, .cell (.c (.int .i64 (a0_6.length : Int)))), (69, .cell (.c (.int .i64 y14.1))), (79, .cell (.sl 2 0 y14.2.length)), (85, .agg [.c (.int .i64 ((a0_5.length : Int) + y14.1)), .c (.int .i64 (-1 : Int))])]) (Φ := (inR .i64 ((a0_5.length : Int) + y14.1)) ∧ (True)) 7 [2, 3, 67, 68, 69, 79, 85] (by kernel_rfl) ⟨c20, trivial⟩ ?_
              refine WO_q1 (r := .cell (.c (rawC 1 2 [.int .i64 ((a0_5.length : Int) + y14.1), .int .i64 (-1 : Int)]))) (r' := .cell (.c (slC e85 [(((a0_5.length : Int) + y14.1), (-1 : Int))]))) (d := some 86) (φ := True) (raw_weak e85 (xs := [(((a0_5.length : Int) + y14.1), (-1 : Int))]) rfl rfl (by kernel_rfl) (by kernel_rfl)) (by kernel_rfl) trivial ?_
              obtain ⟨c21, h⟩ := ck_bind h
              refine WO_app e85 y14.2 [(((a0_5.length : Int) + y14.1), (-1 : Int))] (b := 2) (ver := 0) (e := 85) (d := 87) (row2 := fun i j => (e85.row ([(((a0_5.length : Int) + y14.1), (-1 : Int))].getD i e85.d)).getD j .jk) (Φ := (0 = 0 ∧ (y14.2.length + [(((a0_5.length : Int) + y14.1), (-1 : Int))].length) * 16 ≤ 140737488355328 ∧ y14.2.length + [(((a0_5.length : Int) + y14.1), (-1 : Int))].length ≤ 140737488355328) ∧ True) (σ' := [some (.lit 0 27 [.c (.int .i64 a0_0), .c (.int .i64 a0_1), .c (.int .i64 a0_2), .c (.int .i64 a0_3), .c (slC e28 a0_4), .c (slC e72 a0_5), .c (slC e65 a0_6), .c (slC e77 a0_7)]), some (.lit 0 30 [.c (slC e44 a1_0), .c (slC e28 a1_1)]), some (rwB e85 1 85 (y14.2 ++ [(((a0_5.length : Int) + y14.1), (-1 : Int))])), some (.lit 0 65 [.c (slC e62 ((a0_6.getD y14.1.toNat e65.d).1)), .c (slC e62 ((a0_6.getD y14.1.toNat e65.d).2))])]) (T' := [(87, .cell (.sl 2 1 ((y14.2 ++ [(((a0_5.length : Int) + y14.1), (-1 : Int))]).length))), (86, .cell (.c (slC e85 [(((a0_5.length : Int) + y14.1), (-1 : Int))]))), (2, .cell (.op 0 0 8 0 0)), (3, .cell (.op 1 0 2 0 0)), (67, .cell (.c (slC e65 a0_6))), (68, .cell (.c (.int .i64 (a0_6.length : Int)))), (69, .cell (.c (.int .i64 y14.1))), (79, .cell (.sl 2 0 y14.2.length)), (85, .agg [.c (.int .i64 ((a0_5.length : Int) + y14.1)), .c (.int .i64 (-1 : Int))])]) (by kernel_rfl) ⟨⟨rfl, c21⟩, trivial⟩ (Nat.le_of_ble_eq_true (by kernel_rfl)) (fun _ _ _ _ => rfl) (by kernel_rfl) (by kernel_rfl) ?_
              refine WO_fin (σ' := [some (.lit 0 27 [.c (.int .i64 a0_0), .c (.int .i64 a0_1), .c (.int .i64 a0_2), .c (.int .i64 a0_3), .c (slC e28 a0_4), .c (slC e72 a0_5), .c (slC e65 a0_6), .c (slC e77 a0_7)]), some (.lit 0 30 [.c (slC e44 a1_0), .c (slC e28 a1_1)]), some (rwB e85 1 85 (y14.2 ++ [(((a0_5.length : Int) + y14.1), (-1 : Int))])), some (.lit 0 65 [.c (slC e62 ((a0_6.getD y14.1.toNat e65.d).1)), .c (slC e62 ((a0_6.getD y14.1.toNat e65.d).2))])]) (T' := [(2, .cell (.op 0 0 8 0 0)), (3, .cell (.op 1 0 2 0 0)), (6, .cell (.sl 2 1 ((y14.2 ++ [(((a0_5.length : Int) + y14.1), (-1 : Int))]).length))), (67, .cell (.c (slC e65 a0_6))), (68, .cell (.c (.int .i64 (a0_6.length : Int)))), (69, .cell (.c (.int .i64 y14.1)))]) (Φ := (True)) 1 [2, 3, 6, 67, 68, 69] (by kernel_rfl) trivial (by kernel_rfl) ?_
              refine blockQ_n ?_
              obtain rfl := Option.some.inj h
              exact thenQ_n (stps_ok [.keep [2, 3, 6, 67, 68, 69], .take 3, .ver0 2] (by kernel_rfl))
            · have h := cond_f hb h
              refine W_skip_at (by kernel_rfl) ?_
              refine blockQ_n ?_
              obtain rfl := Option.some.inj h
              exact thenQ_n (stps_ok [.keep [2, 3, 6, 67, 68, 69], .take 3, .ver0 2] (by kernel_rfl))
        · have h := cond_f hb h
          refine W_exit_at 4 (by kernel_rfl) (by kernel_rfl) ?_
          refine thenQ_e ?_
          obtain rfl := Option.some.inj h; refine round_e rfl (fun hb => ?_); subst hb; have h := kb15
          refine blockQ_hit ?_
          obtain rfl := Option.some.inj h
          exact thenQ_n (stps_ok [.keep [2, 3, 6], .take 3, .ver0 2] (by kernel_rfl))
    · have h := gy2; clear gy2 ky2
      refine W_seq_at (by kernel_rfl) ?_
      refine W_region_at (by kernel_rfl) ?_
      refine WO_fin (σ' := [some (.lit 0 27 [.c (.int .i64 a0_0), .c (.int .i64 a0_1), .c (.int .i64 a0_2), .c (.int .i64 a0_3), .c (slC e28 a0_4), .c (slC e72 a0_5), .c (slC e65 a0_6), .c (slC e77 a0_7)]), some (.lit 0 30 [.c (slC e44 a1_0), .c (slC e28 a1_1)])]) (T' := [(2, .cell (.op 0 0 8 0 0)), (3, .cell (.op 1 0 2 0 0)), (6, .cell (.c (.nsl))), (23, .cell (.c (slC e72 a0_5))), (24, .cell (.c (.int .i64 (a0_5.length : Int)))), (25, .cell (.c (.int .i64 (0 : Int))))]) (Φ := (True)) 4 [2, 3, 6, 23, 24, 25] (by kernel_rfl) trivial (by kernel_rfl) ?_
      refine thenQ_n ?_
      refine W_block_at 0 (by kernel_rfl) (by kernel_rfl) ?_
      refine W_ent (σ' := [some (.lit 0 27 [.c (.int .i64 a0_0), .c (.int .i64 a0_1), .c (.int .i64 a0_2), .c (.int .i64 a0_3), .c (slC e28 a0_4), .c (slC e72 a0_5), .c (slC e65 a0_6), .c (slC e77 a0_7)]), some (.lit 0 30 [.c (slC e44 a1_0), .c (slC e28 a1_1)]), some (rwB e85 0 85 ([] : List (Int × Int)))]) (T' := [(6, .cell (.sl 2 0 0)), (2, .cell (.op 0 0 8 0 0)), (3, .cell (.op 1 0 2 0 0)), (23, .cell (.c (slC e72 a0_5))), (24, .cell (.c (.int .i64 (a0_5.length : Int)))), (25, .cell (.c (.int .i64 (0 : Int))))]) (stps_ok [.own 6 85 2 (fun i j => (e85.row (([] : List (Int × Int)).getD i e85.d)).getD j .jk)] (by kernel_rfl)) ?_
      obtain ⟨b23, gb23, kb23⟩ := bind_some h
      refine W_loop_at (S := fun (y22 : (Int × (List (Int × Int)))) => ([some (.lit 0 27 [.c (.int .i64 a0_0), .c (.int .i64 a0_1), .c (.int .i64 a0_2), .c (.int .i64 a0_3), .c (slC e28 a0_4), .c (slC e72 a0_5), .c (slC e65 a0_6), .c (slC e77 a0_7)]), some (.lit 0 30 [.c (slC e44 a1_0), .c (slC e28 a1_1)]), some (rwB e85 0 85 y22.2)], [(2, .cell (.op 0 0 8 0 0)), (3, .cell (.op 1 0 2 0 0)), (6, .cell (.sl 2 0 y22.2.length)), (23, .cell (.c (slC e72 a0_5))), (24, .cell (.c (.int .i64 (a0_5.length : Int)))), (25, .cell (.c (.int .i64 y22.1)))])) (step := _) (x0 := ((0 : Int), ([] : List (Int × Int)))) (b := b23) (L.ok _ _ _ gb23) (by kernel_rfl) (stps_ok [.keep [2, 3, 6, 23, 24, 25], .take 3, .ver0 2] (by kernel_rfl)) ?_
      clear gb23 h; intro y22 o h; unfold s42_2 at h
      refine W_seq_at (by kernel_rfl) ?_
      refine W_region_at (by kernel_rfl) ?_
      refine WO_fin (σ' := [some (.lit 0 27 [.c (.int .i64 a0_0), .c (.int .i64 a0_1), .c (.int .i64 a0_2), .c (.int .i64 a0_3), .c (slC e28 a0_4), .c (slC e72 a0_5), .c (slC e65 a0_6), .c (slC e77 a0_7)]), some (.lit 0 30 [.c (slC e44 a1_0), .c (slC e28 a1_1)]), some (rwB e85 0 85 y22.2)]) (T' := [(2, .cell (.op 0 0 8 0 0)), (3, .cell (.op 1 0 2 0 0)), (6, .cell (.sl 2 0 y22.2.length)), (23, .cell (.c (slC e72 a0_5))), (24, .cell (.c (.int .i64 (a0_5.length : Int)))), (25, .cell (.c (.int .i64 y22.1))), (26, .cell (.c (.bool (decide (y22.1 < (a0_5.length : Int))))))]) (Φ := (True)) 1 [2, 3, 6, 23, 24, 25, 26] (by kernel_rfl) trivial (by kernel_rfl) ?_
      refine thenQ_n ?_
      refine W_seq_at (by kernel_rfl) ?_
      refine W_cond_at (b := (decide (y22.1 < (a0_5.length : Int)))) (by kernel_rfl) (fun hb => ?_) (fun hb => ?_)
      · have h := cond_t hb h
        refine W_skip_at (by kernel_rfl) ?_
        refine thenQ_n ?_
        obtain ⟨y24, gy24, ky24⟩ := bind_some h
        refine W_cut (by kernel_rfl) [some (.lit 0 27 [.c (.int .i64 a0_0), .c (.int .i64 a0_1), .c (.int .i64 a0_2), .c (.int .i64 a0_3), .c (slC e28 a0_4), .c (slC e72 a0_5), .c (slC e65 a0_6), .c (slC e77 a0_7)]), some (.lit 0 30 [.c (slC e44 a1_0), .c (slC e28 a1_1)]), some (rwB e85 0 85 y24)] [(2, .cell (.op 0 0 8 0 0)), (3, .cell (.op 1 0 2 0 0)), (6, .cell (.sl 2 0 y24.length)), (23, .cell (.c (slC e72 a0_5))), (24, .cell (.c (.int .i64 (a0_5.length : Int)))), (25, .cell (.c (.int .i64 y22.1)))] ?_ ?_
        · have h := ky24; clear gy24 ky24
          refine W_region_at (by kernel_rfl) ?_
          obtain ⟨c25, h⟩ := ck_bind h
          refine WO_fin (σ' := [some (.lit 0 27 [.c (.int .i64 a0_0), .c (.int .i64 a0_1), .c (.int .i64 a0_2), .c (.int .i64 a0_3), .c (slC e28 a0_4), .c (slC e72 a0_5), .c (slC e65 a0_6), .c (slC e77 a0_7)]), some (.lit 0 30 [.c (slC e44 a1_0), .c (slC e28 a1_1)]), some (rwB e85 0 85 y24)]) (T' := [(2, .cell (.op 0 0 8 0 0)), (3, .cell (.op 1 0 2 0 0)), (6, .cell (.sl 2 0 y24.length)), (23, .cell (.c (slC e72 a0_5))), (24, .cell (.c (.int .i64 (a0_5.length : Int)))), (25, .cell (.c (.int .i64 (y22.1 + (1 : Int)))))]) (Φ := (inR .i64 (y22.1 + (1 : Int))) ∧ (True)) 2 [2, 3, 6, 23, 24, 25] (by kernel_rfl) ⟨c25, trivial⟩ (by kernel_rfl) ?_
          obtain rfl := Option.some.inj h
          exact round_n _ rfl (stps_ok [.keep [2, 3, 6, 23, 24, 25], .take 3, .ver0 2] (by kernel_rfl))
        · have h := gy24; clear gy24 ky24
          refine W_block_at 1 (by kernel_rfl) (by kernel_rfl) ?_
          refine W_seq_at (by kernel_rfl) ?_
          refine W_region_at (by kernel_rfl) ?_
          obtain ⟨c26, h⟩ := ck_bind h
          refine WO_fin (σ' := [some (.lit 0 27 [.c (.int .i64 a0_0), .c (.int .i64 a0_1), .c (.int .i64 a0_2), .c (.int .i64 a0_3), .c (slC e28 a0_4), .c (slC e72 a0_5), .c (slC e65 a0_6), .c (slC e77 a0_7)]), some (.lit 0 30 [.c (slC e44 a1_0), .c (slC e28 a1_1)]), some (rwB e85 0 85 y22.2), some (.lit 0 72 [.c (.int .u8 ((a0_5.getD y22.1.toNat e72.d).1)), .c (slC e74 ((a0_5.getD y22.1.toNat e72.d).2))])]) (T' := [(2, .cell (.op 0 0 8 0 0)), (3, .cell (.op 1 0 2 0 0)), (6, .cell (.sl 2 0 y22.2.length)), (7, .cell (.c (.int .i64 y22.1))), (8, .cell (.op 3 0 2 0 0)), (23, .cell (.c (slC e72 a0_5))), (24, .cell (.c (.int .i64 (a0_5.length : Int)))), (25, .cell (.c (.int .i64 y22.1)))]) (Φ := (0 ≤ y22.1 ∧ y22.1 < (a0_5.length : Int)) ∧ (True)) 6 [2, 3, 6, 7, 8, 23, 24, 25] (by kernel_rfl) ⟨c26, trivial⟩ (by kernel_rfl) ?_
          refine thenQ_n ?_
          refine W_seq_at (by kernel_rfl) ?_
          refine W_drawK 10 (by kernel_rfl) mixed (by kernel_rfl) ?_
          obtain ⟨c27, h⟩ := ck_bind h
          refine WQ_exk (n' := 5) (T' := [(2, .cell (.op 0 0 8 0 0)), (3, .cell (.op 1 0 2 0 0)), (6, .cell (.sl 2 0 y22.2.length)), (7, .cell (.c (.int .i64 y22.1))), (8, .cell (.op 3 0 2 0 0)), (23, .cell (.c (slC e72 a0_5))), (24, .cell (.c (.int .i64 (a0_5.length : Int)))), (25, .cell (.c (.int .i64 y22.1))), (32, .cell (.c (.int .u8 ((a0_5.getD y22.1.toNat e72.d).1)))), (35, .cell (.c (.int .i64 ((1 : Int) * 2 ^ a0_1.toNat))))]) (Φ := (0 ≤ a0_1 ∧ a0_1 < ((IntKind.bits .i64 : Nat) : Int) ∧ inR .i64 ((1 : Int) * 2 ^ a0_1.toNat)) ∧ (True)) 5 [2, 3, 6, 7, 8, 23, 24, 25, 32, 35] (by kernel_rfl) ⟨c27, trivial⟩ ?_
          obtain ⟨r28, gr28, h⟩ := bind_some h
          refine WQ_call (f := 93) (all := [.cell (.c (.int .u8 ((a0_5.getD y22.1.toNat e72.d).1))), .cell (.c (.int .i64 ((1 : Int) * 2 ^ a0_1.toNat)))]) (d := some 36) (r := tupV [.cell (.c (.int .i64 r28.1)), .cell (.c (.int .i64 r28.2))]) (by kernel_rfl) (by kernel_rfl) (by kernel_rfl) Tryd.call93 (p93 L _ _ _ gr28) ?_
          refine WQ_exk (n' := 0) (T' := [(2, .cell (.op 0 0 8 0 0)), (3, .cell (.op 1 0 2 0 0)), (6, .cell (.sl 2 0 y22.2.length)), (7, .cell (.c (.int .i64 y22.1))), (8, .cell (.op 3 0 2 0 0)), (9, .cell (.c (.int .i64 r28.1))), (23, .cell (.c (slC e72 a0_5))), (24, .cell (.c (.int .i64 (a0_5.length : Int)))), (25, .cell (.c (.int .i64 y22.1))), (38, .cell (.c (.int .i64 r28.2)))]) (Φ := (True)) 4 [2, 3, 6, 7, 8, 9, 23, 24, 25, 38] (by kernel_rfl) trivial ?_
          refine WQ_done ?_
          refine WO_fin (σ' := [some (.lit 0 27 [.c (.int .i64 a0_0), .c (.int .i64 a0_1), .c (.int .i64 a0_2), .c (.int .i64 a0_3), .c (slC e28 a0_4), .c (slC e72 a0_5), .c (slC e65 a0_6), .c (slC e77 a0_7)]), some (.lit 0 30 [.c (slC e44 a1_0), .c (slC e28 a1_1)]), some (rwB e85 0 85 y22.2), some (.lit 0 72 [.c (.int .u8 ((a0_5.getD y22.1.toNat e72.d).1)), .c (slC e74 ((a0_5.getD y22.1.toNat e72.d).2))])]) (T' := [(2, .cell (.op 0 0 8 0 0)), (3, .cell (.op 1 0 2 0 0)), (6, .cell (.sl 2 0 y22.2.length)), (7, .cell (.c (.int .i64 y22.1))), (8, .cell (.op 3 0 2 0 0)), (9, .cell (.c (.int .i64 r28.1))), (10, .cell (.c (.int .i64 r28.2))), (23, .cell (.c (slC e72 a0_5))), (24, .cell (.c (.int .i64 (a0_5.length : Int)))), (25, .cell (.c (.int .i64 y22.1)))]) (Φ := (True)) 1 [2, 3, 6, 7, 8, 9, 10, 23, 24, 25] (by kernel_rfl) trivial (by kernel_rfl) ?_
          refine thenQ_n ?_
          refine W_seq_at (by kernel_rfl) ?_
          refine W_region_at (by kernel_rfl) ?_
          refine WO_fin (σ' := [some (.lit 0 27 [.c (.int .i64 a0_0), .c (.int .i64 a0_1), .c (.int .i64 a0_2), .c (.int .i64 a0_3), .c (slC e28 a0_4), .c (slC e72 a0_5), .c (slC e65 a0_6), .c (slC e77 a0_7)]), some (.lit 0 30 [.c (slC e44 a1_0), .c (slC e28 a1_1)]), some (rwB e85 0 85 y22.2), some (.lit 0 72 [.c (.int .u8 ((a0_5.getD y22.1.toNat e72.d).1)), .c (slC e74 ((a0_5.getD y22.1.toNat e72.d).2))])]) (T' := [(2, .cell (.op 0 0 8 0 0)), (3, .cell (.op 1 0 2 0 0)), (6, .cell (.sl 2 0 y22.2.length)), (7, .cell (.c (.int .i64 y22.1))), (8, .cell (.op 3 0 2 0 0)), (10, .cell (.c (.int .i64 r28.2))), (11, .cell (.c (.int .i64 r28.1))), (23, .cell (.c (slC e72 a0_5))), (24, .cell (.c (.int .i64 (a0_5.length : Int)))), (25, .cell (.c (.int .i64 y22.1)))]) (Φ := (True)) 2 [2, 3, 6, 7, 8, 10, 11, 23, 24, 25] (by kernel_rfl) trivial (by kernel_rfl) ?_
          refine thenQ_n ?_
          refine W_block_at 2 (by kernel_rfl) (by kernel_rfl) ?_
          obtain ⟨b30, gb30, kb30⟩ := bind_some h
          refine W_loop_at (S := fun (y29 : (Int × (List (Int × Int)))) => ([some (.lit 0 27 [.c (.int .i64 a0_0), .c (.int .i64 a0_1), .c (.int .i64 a0_2), .c (.int .i64 a0_3), .c (slC e28 a0_4), .c (slC e72 a0_5), .c (slC e65 a0_6), .c (slC e77 a0_7)]), some (.lit 0 30 [.c (slC e44 a1_0), .c (slC e28 a1_1)]), some (rwB e85 0 85 y29.2), some (.lit 0 72 [.c (.int .u8 ((a0_5.getD y22.1.toNat e72.d).1)), .c (slC e74 ((a0_5.getD y22.1.toNat e72.d).2))])], [(2, .cell (.op 0 0 8 0 0)), (3, .cell (.op 1 0 2 0 0)), (6, .cell (.sl 2 0 y29.2.length)), (7, .cell (.c (.int .i64 y22.1))), (8, .cell (.op 3 0 2 0 0)), (10, .cell (.c (.int .i64 r28.2))), (11, .cell (.c (.int .i64 y29.1))), (23, .cell (.c (slC e72 a0_5))), (24, .cell (.c (.int .i64 (a0_5.length : Int)))), (25, .cell (.c (.int .i64 y22.1)))])) (step := _) (x0 := (r28.1, y22.2)) (b := b30) (L.ok _ _ _ gb30) (by kernel_rfl) (stps_ok [.keep [2, 3, 6, 7, 8, 10, 11, 23, 24, 25], .take 4, .ver0 2] (by kernel_rfl)) ?_
          clear gb30 h; intro y29 o h; unfold s42_3 at h
          refine W_seq_at (by kernel_rfl) ?_
          refine W_seq_at (by kernel_rfl) ?_
          refine W_region_at (by kernel_rfl) ?_
          refine WO_fin (σ' := [some (.lit 0 27 [.c (.int .i64 a0_0), .c (.int .i64 a0_1), .c (.int .i64 a0_2), .c (.int .i64 a0_3), .c (slC e28 a0_4), .c (slC e72 a0_5), .c (slC e65 a0_6), .c (slC e77 a0_7)]), some (.lit 0 30 [.c (slC e44 a1_0), .c (slC e28 a1_1)]), some (rwB e85 0 85 y29.2), some (.lit 0 72 [.c (.int .u8 ((a0_5.getD y22.1.toNat e72.d).1)), .c (slC e74 ((a0_5.getD y22.1.toNat e72.d).2))])]) (T' := [(2, .cell (.op 0 0 8 0 0)), (3, .cell (.op 1 0 2 0 0)), (6, .cell (.sl 2 0 y29.2.length)), (7, .cell (.c (.int .i64 y22.1))), (8, .cell (.op 3 0 2 0 0)), (10, .cell (.c (.int .i64 r28.2))), (11, .cell (.c (.int .i64 y29.1))), (23, .cell (.c (slC e72 a0_5))), (24, .cell (.c (.int .i64 (a0_5.length : Int)))), (25, .cell (.c (.int .i64 y22.1))), (42, .cell (.c (.bool (decide (y29.1 < r28.2)))))]) (Φ := (True)) 3 [2, 3, 6, 7, 8, 10, 11, 23, 24, 25, 42] (by kernel_rfl) trivial (by kernel_rfl) ?_
          refine thenQ_n ?_
          refine W_cond_at (b := (decide (y29.1 < r28.2))) (by kernel_rfl) (fun hb => ?_) (fun hb => ?_)
          · have h := cond_t hb h
            refine W_skip_at (by kernel_rfl) ?_
            refine thenQ_n ?_
            obtain ⟨y31, gy31, ky31⟩ := bind_some h
            refine W_cut (by kernel_rfl) [some (.lit 0 27 [.c (.int .i64 a0_0), .c (.int .i64 a0_1), .c (.int .i64 a0_2), .c (.int .i64 a0_3), .c (slC e28 a0_4), .c (slC e72 a0_5), .c (slC e65 a0_6), .c (slC e77 a0_7)]), some (.lit 0 30 [.c (slC e44 a1_0), .c (slC e28 a1_1)]), some (rwB e85 0 85 y31), some (.lit 0 72 [.c (.int .u8 ((a0_5.getD y22.1.toNat e72.d).1)), .c (slC e74 ((a0_5.getD y22.1.toNat e72.d).2))])] [(2, .cell (.op 0 0 8 0 0)), (3, .cell (.op 1 0 2 0 0)), (6, .cell (.sl 2 0 y31.length)), (7, .cell (.c (.int .i64 y22.1))), (8, .cell (.op 3 0 2 0 0)), (10, .cell (.c (.int .i64 r28.2))), (11, .cell (.c (.int .i64 y29.1))), (23, .cell (.c (slC e72 a0_5))), (24, .cell (.c (.int .i64 (a0_5.length : Int)))), (25, .cell (.c (.int .i64 y22.1)))] ?_ ?_
            · have h := ky31; clear gy31 ky31
              refine W_region_at (by kernel_rfl) ?_
              obtain ⟨c32, h⟩ := ck_bind h
              refine WO_fin (σ' := [some (.lit 0 27 [.c (.int .i64 a0_0), .c (.int .i64 a0_1), .c (.int .i64 a0_2), .c (.int .i64 a0_3), .c (slC e28 a0_4), .c (slC e72 a0_5), .c (slC e65 a0_6), .c (slC e77 a0_7)]), some (.lit 0 30 [.c (slC e44 a1_0), .c (slC e28 a1_1)]), some (rwB e85 0 85 y31), some (.lit 0 72 [.c (.int .u8 ((a0_5.getD y22.1.toNat e72.d).1)), .c (slC e74 ((a0_5.getD y22.1.toNat e72.d).2))])]) (T' := [(2, .cell (.op 0 0 8 0 0)), (3, .cell (.op 1 0 2 0 0)), (6, .cell (.sl 2 0 y31.length)), (7, .cell (.c (.int .i64 y22.1))), (8, .cell (.op 3 0 2 0 0)), (10, .cell (.c (.int .i64 r28.2))), (11, .cell (.c (.int .i64 (y29.1 + (1 : Int))))), (23, .cell (.c (slC e72 a0_5))), (24, .cell (.c (.int .i64 (a0_5.length : Int)))), (25, .cell (.c (.int .i64 y22.1)))]) (Φ := (inR .i64 (y29.1 + (1 : Int))) ∧ (True)) 3 [2, 3, 6, 7, 8, 10, 11, 23, 24, 25] (by kernel_rfl) ⟨c32, trivial⟩ (by kernel_rfl) ?_
              obtain rfl := Option.some.inj h
              exact round_n _ rfl (stps_ok [.keep [2, 3, 6, 7, 8, 10, 11, 23, 24, 25], .take 4, .ver0 2] (by kernel_rfl))
            · have h := gy31; clear gy31 ky31
              refine W_block_at 3 (by kernel_rfl) (by kernel_rfl) ?_
              refine W_seq_at (by kernel_rfl) ?_
              refine W_drawK 13 (by kernel_rfl) mixed (by kernel_rfl) ?_
              refine WQ_exk (n' := 6) (T' := [(2, .cell (.op 0 0 8 0 0)), (3, .cell (.op 1 0 2 0 0)), (6, .cell (.sl 2 0 y29.2.length)), (7, .cell (.c (.int .i64 y22.1))), (8, .cell (.op 3 0 2 0 0)), (10, .cell (.c (.int .i64 r28.2))), (11, .cell (.c (.int .i64 y29.1))), (23, .cell (.c (slC e72 a0_5))), (24, .cell (.c (.int .i64 (a0_5.length : Int)))), (25, .cell (.c (.int .i64 y22.1))), (47, .cell (.c (.int .i64 a0_0))), (49, .cell (.c (slC e74 ((a0_5.getD y22.1.toNat e72.d).2)))), (50, .agg [.c (.int .i64 a0_0), .c (.int .i64 a0_1), .c (.int .i64 a0_2), .c (.int .i64 a0_3), .c (slC e28 a0_4), .c (slC e72 a0_5), .c (slC e65 a0_6), .c (slC e77 a0_7)]), (51, .agg [.c (slC e44 a1_0), .c (slC e28 a1_1)]), (52, .cell (.c (.int .i64 y29.1)))]) (Φ := (True)) 7 [2, 3, 6, 7, 8, 10, 11, 23, 24, 25, 47, 49, 50, 51, 52] (by kernel_rfl) trivial ?_
              obtain ⟨r33, gr33, h⟩ := bind_some h
              refine WQ_call (f := 46) (all := [.agg [.c (.int .i64 a0_0), .c (.int .i64 a0_1), .c (.int .i64 a0_2), .c (.int .i64 a0_3), .c (slC e28 a0_4), .c (slC e72 a0_5), .c (slC e65 a0_6), .c (slC e77 a0_7)], .agg [.c (slC e44 a1_0), .c (slC e28 a1_1)], .cell (.c (.int .i64 y29.1))]) (d := some 53) (r := .agg [.c (slC e44 r33.1), .c (slC e44 r33.2.1), .c (slC e44 r33.2.2.1), .c (slC e44 r33.2.2.2.1), .c (slC e44 r33.2.2.2.2.1), .c (slC e44 r33.2.2.2.2.2.1), .c (slC e44 r33.2.2.2.2.2.2)]) (by kernel_rfl) (by kernel_rfl) (by kernel_rfl) Tryd.call46 (p46 L _ _ _ _ _ _ _ _ _ _ _ _ gr33) ?_
              obtain ⟨r34, gr34, h⟩ := bind_some h
              refine WQ_call (f := 94) (all := [.cell (.c (.int .i64 a0_0)), .cell (.c (slC e74 ((a0_5.getD y22.1.toNat e72.d).2))), .agg [.c (slC e44 r33.1), .c (slC e44 r33.2.1), .c (slC e44 r33.2.2.1), .c (slC e44 r33.2.2.2.1), .c (slC e44 r33.2.2.2.2.1), .c (slC e44 r33.2.2.2.2.2.1), .c (slC e44 r33.2.2.2.2.2.2)]]) (d := some 54) (r := tupV [.cell (.c (.int .u64 r34.1)), .cell (.c (.int .i64 r34.2))]) (by kernel_rfl) (by kernel_rfl) (by kernel_rfl) Tryd.call94 (p94 L _ _ _ _ _ _ _ _ _ _ gr34) ?_
              refine WQ_exk (n' := 0) (T' := [(2, .cell (.op 0 0 8 0 0)), (3, .cell (.op 1 0 2 0 0)), (6, .cell (.sl 2 0 y29.2.length)), (7, .cell (.c (.int .i64 y22.1))), (8, .cell (.op 3 0 2 0 0)), (10, .cell (.c (.int .i64 r28.2))), (11, .cell (.c (.int .i64 y29.1))), (12, .cell (.c (.int .u64 r34.1))), (23, .cell (.c (slC e72 a0_5))), (24, .cell (.c (.int .i64 (a0_5.length : Int)))), (25, .cell (.c (.int .i64 y22.1))), (56, .cell (.c (.int .i64 r34.2)))]) (Φ := (True)) 4 [2, 3, 6, 7, 8, 10, 11, 12, 23, 24, 25, 56] (by kernel_rfl) trivial ?_
              refine WQ_done ?_
              refine WO_fin (σ' := [some (.lit 0 27 [.c (.int .i64 a0_0), .c (.int .i64 a0_1), .c (.int .i64 a0_2), .c (.int .i64 a0_3), .c (slC e28 a0_4), .c (slC e72 a0_5), .c (slC e65 a0_6), .c (slC e77 a0_7)]), some (.lit 0 30 [.c (slC e44 a1_0), .c (slC e28 a1_1)]), some (rwB e85 0 85 y29.2), some (.lit 0 72 [.c (.int .u8 ((a0_5.getD y22.1.toNat e72.d).1)), .c (slC e74 ((a0_5.getD y22.1.toNat e72.d).2))])]) (T' := [(2, .cell (.op 0 0 8 0 0)), (3, .cell (.op 1 0 2 0 0)), (6, .cell (.sl 2 0 y29.2.length)), (7, .cell (.c (.int .i64 y22.1))), (8, .cell (.op 3 0 2 0 0)), (10, .cell (.c (.int .i64 r28.2))), (11, .cell (.c (.int .i64 y29.1))), (12, .cell (.c (.int .u64 r34.1))), (23, .cell (.c (slC e72 a0_5))), (24, .cell (.c (.int .i64 (a0_5.length : Int)))), (25, .cell (.c (.int .i64 y22.1)))]) (Φ := (True)) 1 [2, 3, 6, 7, 8, 10, 11, 12, 23, 24, 25] (by kernel_rfl) trivial (by kernel_rfl) ?_
              refine thenQ_n ?_
              refine W_seq_at (by kernel_rfl) ?_
              refine W_region_at (by kernel_rfl) ?_
              refine WO_fin (σ' := [some (.lit 0 27 [.c (.int .i64 a0_0), .c (.int .i64 a0_1), .c (.int .i64 a0_2), .c (.int .i64 a0_3), .c (slC e28 a0_4), .c (slC e72 a0_5), .c (slC e65 a0_6), .c (slC e77 a0_7)]), some (.lit 0 30 [.c (slC e44 a1_0), .c (slC e28 a1_1)]), some (rwB e85 0 85 y29.2), some (.lit 0 72 [.c (.int .u8 ((a0_5.getD y22.1.toNat e72.d).1)), .c (slC e74 ((a0_5.getD y22.1.toNat e72.d).2))])]) (T' := [(2, .cell (.op 0 0 8 0 0)), (3, .cell (.op 1 0 2 0 0)), (6, .cell (.sl 2 0 y29.2.length)), (7, .cell (.c (.int .i64 y22.1))), (8, .cell (.op 3 0 2 0 0)), (10, .cell (.c (.int .i64 r28.2))), (11, .cell (.c (.int .i64 y29.1))), (23, .cell (.c (slC e72 a0_5))), (24, .cell (.c (.int .i64 (a0_5.length : Int)))), (25, .cell (.c (.int .i64 y22.1))), (58, .cell (.c (.bool (!(decide (r34.1 = (0 : Int)))))))]) (Φ := (True)) 2 [2, 3, 6, 7, 8, 10, 11, 23, 24, 25, 58] (by kernel_rfl) trivial (by kernel_rfl) ?_
              refine thenQ_n ?_
              refine W_cond_at (b := (!(decide (r34.1 = (0 : Int))))) (by kernel_rfl) (fun hb => ?_) (fun hb => ?_)
              · have h := cond_t hb h
                refine W_region_at (by kernel_rfl) ?_
                refine WO_exk (σ' := [some (.lit 0 27 [.c (.int .i64 a0_0), .c (.int .i64 a0_1), .c (.int .i64 a0_2), .c (.int .i64 a0_3), .c (slC e28 a0_4), .c (slC e72 a0_5), .c (slC e65 a0_6), .c (slC e77 a0_7)]), some (.lit 0 30 [.c (slC e44 a1_0), .c (slC e28 a1_1)]), some (rwB e85 0 85 y29.2), some (.lit 0 72 [.c (.int .u8 ((a0_5.getD y22.1.toNat e72.d).1)), .c (slC e74 ((a0_5.getD y22.1.toNat e72.d).2))])]) (T' := [(2, .cell (.op 0 0 8 0 0)), (3, .cell (.op 1 0 2 0 0)), (7, .cell (.c (.int .i64 y22.1))), (8, .cell (.op 3 0 2 0 0)), (10, .cell (.c (.int .i64 r28.2))), (11, .cell (.c (.int .i64 y29.1))), (23, .cell (.c (slC e72 a0_5))), (24, .cell (.c (.int .i64 (a0_5.length : Int)))), (25, .cell (.c (.int .i64 y22.1))), (59, .cell (.sl 2 0 y29.2.length)), (62, .agg [.c (.int .i64 y22.1), .c (.int .i64 y29.1)])]) (Φ := (True)) 4 [2, 3, 7, 8, 10, 11, 23, 24, 25, 59, 62] (by kernel_rfl) trivial ?_
                refine WO_q1 (r := .cell (.c (rawC 1 2 [.int .i64 y22.1, .int .i64 y29.1]))) (r' := .cell (.c (slC e85 [(y22.1, y29.1)]))) (d := some 63) (φ := True) (raw_weak e85 (xs := [(y22.1, y29.1)]) rfl rfl (by kernel_rfl) (by kernel_rfl)) (by kernel_rfl) trivial ?_
                obtain ⟨c35, h⟩ := ck_bind h
                refine WO_app e85 y29.2 [(y22.1, y29.1)] (b := 2) (ver := 0) (e := 85) (d := 64) (row2 := fun i j => (e85.row ([(y22.1, y29.1)].getD i e85.d)).getD j .jk) (Φ := (0 = 0 ∧ (y29.2.length + [(y22.1, y29.1)].length) * 16 ≤ 140737488355328 ∧ y29.2.length + [(y22.1, y29.1)].length ≤ 140737488355328) ∧ True) (σ' := [some (.lit 0 27 [.c (.int .i64 a0_0), .c (.int .i64 a0_1), .c (.int .i64 a0_2), .c (.int .i64 a0_3), .c (slC e28 a0_4), .c (slC e72 a0_5), .c (slC e65 a0_6), .c (slC e77 a0_7)]), some (.lit 0 30 [.c (slC e44 a1_0), .c (slC e28 a1_1)]), some (rwB e85 1 85 (y29.2 ++ [(y22.1, y29.1)])), some (.lit 0 72 [.c (.int .u8 ((a0_5.getD y22.1.toNat e72.d).1)), .c (slC e74 ((a0_5.getD y22.1.toNat e72.d).2))])]) (T' := [(64, .cell (.sl 2 1 ((y29.2 ++ [(y22.1, y29.1)]).length))), (63, .cell (.c (slC e85 [(y22.1, y29.1)]))), (2, .cell (.op 0 0 8 0 0)), (3, .cell (.op 1 0 2 0 0)), (7, .cell (.c (.int .i64 y22.1))), (8, .cell (.op 3 0 2 0 0)), (10, .cell (.c (.int .i64 r28.2))), (11, .cell (.c (.int .i64 y29.1))), (23, .cell (.c (slC e72 a0_5))), (24, .cell (.c (.int .i64 (a0_5.length : Int)))), (25, .cell (.c (.int .i64 y22.1))), (59, .cell (.sl 2 0 y29.2.length)), (62, .agg [.c (.int .i64 y22.1), .c (.int .i64 y29.1)])]) (by kernel_rfl) ⟨⟨rfl, c35⟩, trivial⟩ (Nat.le_of_ble_eq_true (by kernel_rfl)) (fun _ _ _ _ => rfl) (by kernel_rfl) (by kernel_rfl) ?_
                refine WO_fin (σ' := [some (.lit 0 27 [.c (.int .i64 a0_0), .c (.int .i64 a0_1), .c (.int .i64 a0_2), .c (.int .i64 a0_3), .c (slC e28 a0_4), .c (slC e72 a0_5), .c (slC e65 a0_6), .c (slC e77 a0_7)]), some (.lit 0 30 [.c (slC e44 a1_0), .c (slC e28 a1_1)]), some (rwB e85 1 85 (y29.2 ++ [(y22.1, y29.1)])), some (.lit 0 72 [.c (.int .u8 ((a0_5.getD y22.1.toNat e72.d).1)), .c (slC e74 ((a0_5.getD y22.1.toNat e72.d).2))])]) (T' := [(2, .cell (.op 0 0 8 0 0)), (3, .cell (.op 1 0 2 0 0)), (6, .cell (.sl 2 1 ((y29.2 ++ [(y22.1, y29.1)]).length))), (7, .cell (.c (.int .i64 y22.1))), (8, .cell (.op 3 0 2 0 0)), (10, .cell (.c (.int .i64 r28.2))), (11, .cell (.c (.int .i64 y29.1))), (23, .cell (.c (slC e72 a0_5))), (24, .cell (.c (.int .i64 (a0_5.length : Int)))), (25, .cell (.c (.int .i64 y22.1)))]) (Φ := (True)) 1 [2, 3, 6, 7, 8, 10, 11, 23, 24, 25] (by kernel_rfl) trivial (by kernel_rfl) ?_
                refine blockQ_n ?_
                obtain rfl := Option.some.inj h
                exact thenQ_n (stps_ok [.keep [2, 3, 6, 7, 8, 10, 11, 23, 24, 25], .take 4, .ver0 2] (by kernel_rfl))
              · have h := cond_f hb h
                refine W_skip_at (by kernel_rfl) ?_
                refine blockQ_n ?_
                obtain rfl := Option.some.inj h
                exact thenQ_n (stps_ok [.keep [2, 3, 6, 7, 8, 10, 11, 23, 24, 25], .take 4, .ver0 2] (by kernel_rfl))
          · have h := cond_f hb h
            refine W_exit_at 2 (by kernel_rfl) (by kernel_rfl) ?_
            refine thenQ_e ?_
            obtain rfl := Option.some.inj h; refine round_e rfl (fun hb => ?_); subst hb; have h := kb30
            refine blockQ_hit ?_
            refine blockQ_n ?_
            obtain rfl := Option.some.inj h
            exact thenQ_n (stps_ok [.keep [2, 3, 6, 23, 24, 25], .take 3, .ver0 2] (by kernel_rfl))
      · have h := cond_f hb h
        refine W_exit_at 0 (by kernel_rfl) (by kernel_rfl) ?_
        refine thenQ_e ?_
        obtain rfl := Option.some.inj h; refine round_e rfl (fun hb => ?_); subst hb; have h := kb23
        refine blockQ_hit ?_
        obtain rfl := Option.some.inj h
        exact thenQ_n (stps_ok [.keep [2, 3, 6], .take 3, .ver0 2] (by kernel_rfl))

/- system.Holds -/
def s39 (L : LP) (a0_0 : Int) (a0_1 : Int) (a0_2 : Int) (a0_3 : Int) (a0_4 : (List (List Int))) (a0_5 : (List (Int × (List (Int × (List (Int × Int))))))) (a0_6 : (List ((List (List (Int × Int))) × (List (List (Int × Int)))))) (a0_7 : (List ((List (Int × Int)) × (List (Int × Int)) × Int × Int))) (a1_0 : (List Int)) (a1_1 : (List (List Int))) : Option (Bool × Int) :=
  (s42 L a0_0 a0_1 a0_2 a0_3 a0_4 a0_5 a0_6 a0_7 a1_0 a1_1).bind fun r1 =>
  (bif (decide (r1.2 = (0 : Int))) then some (decide ((r1.1.length : Int) = (0 : Int)))
  else some false).bind fun y2 =>
  some (y2, r1.2)
theorem p39 (L : LP) (a0_0 : Int) (a0_1 : Int) (a0_2 : Int) (a0_3 : Int) (a0_4 : (List (List Int))) (a0_5 : (List (Int × (List (Int × (List (Int × Int))))))) (a0_6 : (List ((List (List (Int × Int))) × (List (List (Int × Int)))))) (a0_7 : (List ((List (Int × Int)) × (List (Int × Int)) × Int × Int))) (a1_0 : (List Int)) (a1_1 : (List (List Int))) (r : (Bool × Int)) (h : s39 L a0_0 a0_1 a0_2 a0_3 a0_4 a0_5 a0_6 a0_7 a1_0 a1_1 = some r) : Pure X 39 [.agg [.c (.int .i64 a0_0), .c (.int .i64 a0_1), .c (.int .i64 a0_2), .c (.int .i64 a0_3), .c (slC e28 a0_4), .c (slC e72 a0_5), .c (slC e65 a0_6), .c (slC e77 a0_7)], .agg [.c (slC e44 a1_0), .c (slC e28 a1_1)]] (tupV [.cell (.c (.bool r.1)), .cell (.c (.int .i64 r.2))]) := by
  refine Pure_of_W (c := cd Tryd.f39 []) Tryd.func39 (by kernel_rfl) (N := 22) (by kernel_rfl) (Nat.le_of_ble_eq_true (by kernel_rfl)) ?_
  unfold s39 at h
  refine W_seq_at (by kernel_rfl) ?_
  refine W_region_at (by kernel_rfl) ?_
  refine WO_fin (σ' := [some (.lit 0 27 [.c (.int .i64 a0_0), .c (.int .i64 a0_1), .c (.int .i64 a0_2), .c (.int .i64 a0_3), .c (slC e28 a0_4), .c (slC e72 a0_5), .c (slC e65 a0_6), .c (slC e77 a0_7)]), some (.lit 0 30 [.c (slC e44 a1_0), .c (slC e28 a1_1)])]) (T' := [(2, .cell (.op 0 0 8 0 0)), (3, .cell (.op 1 0 2 0 0))]) (Φ := (True)) 4 [2, 3] (by kernel_rfl) trivial (by kernel_rfl) ?_
  refine thenQ_n ?_
  refine W_seq_at (by kernel_rfl) ?_
  refine W_region_at (by kernel_rfl) ?_
  refine WO_exk (σ' := [some (.lit 0 27 [.c (.int .i64 a0_0), .c (.int .i64 a0_1), .c (.int .i64 a0_2), .c (.int .i64 a0_3), .c (slC e28 a0_4), .c (slC e72 a0_5), .c (slC e65 a0_6), .c (slC e77 a0_7)]), some (.lit 0 30 [.c (slC e44 a1_0), .c (slC e28 a1_1)])]) (T' := [(9, .agg [.c (.int .i64 a0_0), .c (.int .i64 a0_1), .c (.int .i64 a0_2), .c (.int .i64 a0_3), .c (slC e28 a0_4), .c (slC e72 a0_5), .c (slC e65 a0_6), .c (slC e77 a0_7)]), (10, .agg [.c (slC e44 a1_0), .c (slC e28 a1_1)])]) (Φ := (True)) 2 [9, 10] (by kernel_rfl) trivial ?_
  obtain ⟨r1, gr1, h⟩ := bind_some h
  refine WO_call (f := 42) (all := [.agg [.c (.int .i64 a0_0), .c (.int .i64 a0_1), .c (.int .i64 a0_2), .c (.int .i64 a0_3), .c (slC e28 a0_4), .c (slC e72 a0_5), .c (slC e65 a0_6), .c (slC e77 a0_7)], .agg [.c (slC e44 a1_0), .c (slC e28 a1_1)]]) (d := some 11) (r := tupV [.cell (.c (slC e85 r1.1)), .cell (.c (.int .i64 r1.2))]) (by kernel_rfl) (by kernel_rfl) (by kernel_rfl) Tryd.call42 (p42 L _ _ _ _ _ _ _ _ _ _ _ gr1) ?_
  refine WO_fin (σ' := [some (.lit 0 27 [.c (.int .i64 a0_0), .c (.int .i64 a0_1), .c (.int .i64 a0_2), .c (.int .i64 a0_3), .c (slC e28 a0_4), .c (slC e72 a0_5), .c (slC e65 a0_6), .c (slC e77 a0_7)]), some (.lit 0 30 [.c (slC e44 a1_0), .c (slC e28 a1_1)])]) (T' := [(6, .cell (.c (slC e85 r1.1))), (7, .cell (.c (.int .i64 r1.2)))]) (Φ := (True)) 5 [6, 7] (by kernel_rfl) trivial (by kernel_rfl) ?_
  refine thenQ_n ?_
  refine W_seq_at (by kernel_rfl) ?_
  refine W_region_at (by kernel_rfl) ?_
  refine WO_exk (σ' := [some (.lit 0 27 [.c (.int .i64 a0_0), .c (.int .i64 a0_1), .c (.int .i64 a0_2), .c (.int .i64 a0_3), .c (slC e28 a0_4), .c (slC e72 a0_5), .c (slC e65 a0_6), .c (slC e77 a0_7)]), some (.lit 0 30 [.c (slC e44 a1_0), .c (slC e28 a1_1)])]) (T' := [(6, .cell (.c (slC e85 r1.1))), (7, .cell (.c (.int .i64 r1.2))), (16, .cell (.c (.bool (decide (r1.2 = (0 : Int))))))]) (Φ := (True)) 3 [6, 7, 16] (by kernel_rfl) trivial ?_
  obtain ⟨y2, gy2, h⟩ := bind_some h
  refine WO_join 7 [some (.lit 0 27 [.c (.int .i64 a0_0), .c (.int .i64 a0_1), .c (.int .i64 a0_2), .c (.int .i64 a0_3), .c (slC e28 a0_4), .c (slC e72 a0_5), .c (slC e65 a0_6), .c (slC e77 a0_7)]), some (.lit 0 30 [.c (slC e44 a1_0), .c (slC e28 a1_1)])] [(7, .cell (.c (.int .i64 r1.2))), (20, .cell (.c (.bool y2)))] ?_ ?_
  · clear gy2
    refine WO_fin (σ' := [some (.lit 0 27 [.c (.int .i64 a0_0), .c (.int .i64 a0_1), .c (.int .i64 a0_2), .c (.int .i64 a0_3), .c (slC e28 a0_4), .c (slC e72 a0_5), .c (slC e65 a0_6), .c (slC e77 a0_7)]), some (.lit 0 30 [.c (slC e44 a1_0), .c (slC e28 a1_1)])]) (T' := [(4, .cell (.c (.bool y2))), (5, .cell (.c (.int .i64 r1.2)))]) (Φ := (True)) 3 [4, 5] (by kernel_rfl) trivial (by kernel_rfl) ?_
    refine thenQ_n ?_
    refine W_ret_at (by kernel_rfl) ?_
    obtain rfl := Option.some.inj h
    exact qret [.cell (.c (.bool y2)), .cell (.c (.int .i64 r1.2))] (by kernel_rfl) (by kernel_rfl) ([]) (by kernel_rfl)
  · intro J
    clear h
    rcases Bool.eq_false_or_eq_true (decide (r1.2 = (0 : Int))) with hb | hb
    · have h := cond_t hb gy2; clear gy2
      refine WO_ent (ent_bool (T' := [(16, .cell (.c (.bool true))), (6, .cell (.c (slC e85 r1.1))), (7, .cell (.c (.int .i64 r1.2)))]) 16 hb (by kernel_rfl) (by kernel_rfl)) ?_
      refine WO_exk (σ' := [some (.lit 0 27 [.c (.int .i64 a0_0), .c (.int .i64 a0_1), .c (.int .i64 a0_2), .c (.int .i64 a0_3), .c (slC e28 a0_4), .c (slC e72 a0_5), .c (slC e65 a0_6), .c (slC e77 a0_7)]), some (.lit 0 30 [.c (slC e44 a1_0), .c (slC e28 a1_1)])]) (T' := [(7, .cell (.c (.int .i64 r1.2))), (16, .cell (.c (.bool true))), (19, .cell (.c (.bool (decide ((r1.1.length : Int) = (0 : Int))))))]) (Φ := (True)) 3 [7, 16, 19] (by kernel_rfl) trivial ?_
      obtain rfl := Option.some.inj h
      refine WO_exk (σ' := [some (.lit 0 27 [.c (.int .i64 a0_0), .c (.int .i64 a0_1), .c (.int .i64 a0_2), .c (.int .i64 a0_3), .c (slC e28 a0_4), .c (slC e72 a0_5), .c (slC e65 a0_6), .c (slC e77 a0_7)]), some (.lit 0 30 [.c (slC e44 a1_0), .c (slC e28 a1_1)])]) (T' := [(7, .cell (.c (.int .i64 r1.2))), (20, .cell (.c (.bool (decide ((r1.1.length : Int) = (0 : Int))))))]) (Φ := True) 1 [7, 20] (by kernel_rfl) trivial J
    · have h := cond_f hb gy2; clear gy2
      refine WO_ent (ent_bool (T' := [(16, .cell (.c (.bool false))), (6, .cell (.c (slC e85 r1.1))), (7, .cell (.c (.int .i64 r1.2)))]) 16 hb (by kernel_rfl) (by kernel_rfl)) ?_
      obtain rfl := Option.some.inj h
      refine WO_exk (σ' := [some (.lit 0 27 [.c (.int .i64 a0_0), .c (.int .i64 a0_1), .c (.int .i64 a0_2), .c (.int .i64 a0_3), .c (slC e28 a0_4), .c (slC e72 a0_5), .c (slC e65 a0_6), .c (slC e77 a0_7)]), some (.lit 0 30 [.c (slC e44 a1_0), .c (slC e28 a1_1)])]) (T' := [(7, .cell (.c (.int .i64 r1.2))), (20, .cell (.c (.bool false)))]) (Φ := True) 4 [7, 20] (by kernel_rfl) trivial J

/- attestorlaw13.counter -/
def s40 (L : LP) (a0 : Int) : Option (Int × Int × Int × Int × (List (List Int)) × (List (Int × (List (Int × (List (Int × Int)))))) × (List ((List (List (Int × Int))) × (List (List (Int × Int))))) × (List ((List (Int × Int)) × (List (Int × Int)) × Int × Int))) :=
  some ((0 : Int), (1 : Int), (1 : Int), (0 : Int), [], [(a0, [((1 : Int), [((2 : Int), (0 : Int))]), ((96 : Int), [((1 : Int), (0 : Int))]), ((96 : Int), [])])], [], [])
theorem p40 (L : LP) (a0 : Int) (r : (Int × Int × Int × Int × (List (List Int)) × (List (Int × (List (Int × (List (Int × Int)))))) × (List ((List (List (Int × Int))) × (List (List (Int × Int))))) × (List ((List (Int × Int)) × (List (Int × Int)) × Int × Int)))) (h : s40 L a0 = some r) : Pure X 40 [.cell (.c (.int .u8 a0))] (.agg [.c (.int .i64 r.1), .c (.int .i64 r.2.1), .c (.int .i64 r.2.2.1), .c (.int .i64 r.2.2.2.1), .c (slC e28 r.2.2.2.2.1), .c (slC e72 r.2.2.2.2.2.1), .c (slC e65 r.2.2.2.2.2.2.1), .c (slC e77 r.2.2.2.2.2.2.2)]) := by
  refine Pure_of_W (c := cd Tryd.f40 []) Tryd.func40 (by kernel_rfl) (N := 21) (by kernel_rfl) (Nat.le_of_ble_eq_true (by kernel_rfl)) ?_
  unfold s40 at h
  refine W_seq_at (by kernel_rfl) ?_
  refine W_region_at (by kernel_rfl) ?_
  refine WO_fin (σ' := [some (.lit 0 27 [.c (.int .i64 (0 : Int)), .c (.int .i64 (0 : Int)), .c (.int .i64 (0 : Int)), .c (.int .i64 (0 : Int)), .c (.nsl), .c (.nsl), .c (.nsl), .c (.nsl)])]) (T' := [(0, .cell (.c (.int .u8 a0))), (2, .cell (.op 0 0 8 0 0))]) (Φ := (True)) 1 [0, 2] (by kernel_rfl) trivial (by kernel_rfl) ?_
  refine thenQ_n ?_
  refine W_seq_at (by kernel_rfl) ?_
  refine W_region_at (by kernel_rfl) ?_
  refine WO_fin (σ' := [some (.lit 0 27 [.c (.int .i64 (0 : Int)), .c (.int .i64 (0 : Int)), .c (.int .i64 (0 : Int)), .c (.int .i64 (0 : Int)), .c (.nsl), .c (.nsl), .c (.nsl), .c (.nsl)]), some (.lit 0 61 [.c (.int .u8 (1 : Int)), .c (.int .i64 (0 : Int))]), some (.lit 0 61 [.c (.int .u8 (2 : Int)), .c (.int .i64 (0 : Int))])]) (T' := [(0, .cell (.c (.int .u8 a0))), (2, .cell (.op 0 0 8 0 0)), (3, .cell (.op 1 0 2 0 0)), (4, .cell (.op 2 0 2 0 0))]) (Φ := (True)) 6 [0, 2, 3, 4] (by kernel_rfl) trivial (by kernel_rfl) ?_
  refine thenQ_n ?_
  refine W_seq_at (by kernel_rfl) ?_
  refine W_region_at (by kernel_rfl) ?_
  refine WO_exk (σ' := [some (.lit 0 27 [.c (.int .i64 (0 : Int)), .c (.int .i64 (0 : Int)), .c (.int .i64 (0 : Int)), .c (.int .i64 (0 : Int)), .c (.nsl), .c (.nsl), .c (.nsl), .c (.nsl)]), some (.lit 0 61 [.c (.int .u8 (1 : Int)), .c (.int .i64 (0 : Int))]), some (.lit 0 61 [.c (.int .u8 (2 : Int)), .c (.int .i64 (0 : Int))])]) (T' := [(0, .cell (.c (.int .u8 a0))), (2, .cell (.op 0 0 8 0 0)), (3, .cell (.op 1 0 2 0 0)), (8, .agg [.c (.int .u8 (2 : Int)), .c (.int .i64 (0 : Int))])]) (Φ := (True)) 1 [0, 2, 3, 8] (by kernel_rfl) trivial ?_
  refine WO_q1 (r := .cell (.c (rawC 1 2 [.int .u8 (2 : Int), .int .i64 (0 : Int)]))) (r' := .cell (.c (slC e61 [((2 : Int), (0 : Int))]))) (d := some 9) (φ := True) (raw_weak e61 (xs := [((2 : Int), (0 : Int))]) rfl rfl (by kernel_rfl) (by kernel_rfl)) (by kernel_rfl) trivial ?_
  refine WO_exk (σ' := [some (.lit 0 27 [.c (.int .i64 (0 : Int)), .c (.int .i64 (0 : Int)), .c (.int .i64 (0 : Int)), .c (.int .i64 (0 : Int)), .c (.nsl), .c (.nsl), .c (.nsl), .c (.nsl)]), some (.lit 0 61 [.c (.int .u8 (1 : Int)), .c (.int .i64 (0 : Int))]), some (.lit 0 61 [.c (.int .u8 (2 : Int)), .c (.int .i64 (0 : Int))])]) (T' := [(0, .cell (.c (.int .u8 a0))), (2, .cell (.op 0 0 8 0 0)), (10, .agg [.c (.int .u64 (1 : Int)), .c (slC e61 [((2 : Int), (0 : Int))])]), (11, .agg [.c (.int .u8 (1 : Int)), .c (.int .i64 (0 : Int))])]) (Φ := (True)) 2 [0, 2, 10, 11] (by kernel_rfl) trivial ?_
  refine WO_q1 (r := .cell (.c (rawC 1 2 [.int .u8 (1 : Int), .int .i64 (0 : Int)]))) (r' := .cell (.c (slC e61 [((1 : Int), (0 : Int))]))) (d := some 12) (φ := True) (raw_weak e61 (xs := [((1 : Int), (0 : Int))]) rfl rfl (by kernel_rfl) (by kernel_rfl)) (by kernel_rfl) trivial ?_
  refine WO_exk (σ' := [some (.lit 0 27 [.c (.int .i64 (0 : Int)), .c (.int .i64 (0 : Int)), .c (.int .i64 (0 : Int)), .c (.int .i64 (0 : Int)), .c (.nsl), .c (.nsl), .c (.nsl), .c (.nsl)]), some (.lit 0 61 [.c (.int .u8 (1 : Int)), .c (.int .i64 (0 : Int))]), some (.lit 0 61 [.c (.int .u8 (2 : Int)), .c (.int .i64 (0 : Int))])]) (T' := [(0, .cell (.c (.int .u8 a0))), (2, .cell (.op 0 0 8 0 0)), (10, .agg [.c (.int .u64 (1 : Int)), .c (slC e61 [((2 : Int), (0 : Int))])]), (13, .agg [.c (.int .u64 (96 : Int)), .c (slC e61 [((1 : Int), (0 : Int))])]), (14, .agg [.c (.int .u64 (96 : Int)), .c (.nsl)])]) (Φ := (True)) 2 [0, 2, 10, 13, 14] (by kernel_rfl) trivial ?_
  refine WO_q1 (r := .cell (.c (rawC 3 2 [.int .u64 (1 : Int), slC e61 [((2 : Int), (0 : Int))], .int .u64 (96 : Int), slC e61 [((1 : Int), (0 : Int))], .int .u64 (96 : Int), .nsl]))) (r' := .cell (.c (slC e74 [((1 : Int), [((2 : Int), (0 : Int))]), ((96 : Int), [((1 : Int), (0 : Int))]), ((96 : Int), [])]))) (d := some 15) (φ := True) (fun G m v h => raw_weak e74 (n := 3) (sz := 2) (cs := [.int .u64 (1 : Int), slC e61 [((2 : Int), (0 : Int))], .int .u64 (96 : Int), slC e61 [((1 : Int), (0 : Int))], .int .u64 (96 : Int), slC e61 []]) (xs := [((1 : Int), [((2 : Int), (0 : Int))]), ((96 : Int), [((1 : Int), (0 : Int))]), ((96 : Int), [])]) rfl rfl (by kernel_rfl) (by kernel_rfl) G m v (raw_up (cs := [.int .u64 (1 : Int), slC e61 [((2 : Int), (0 : Int))], .int .u64 (96 : Int), slC e61 [((1 : Int), (0 : Int))], .int .u64 (96 : Int), .nsl]) [.no, .no, .no, .no, .no, .sl 2 (fun i j => (e61.row (([] : List (Int × Int)).getD i e61.d)).getD j .jk)] G m v h)) (by kernel_rfl) trivial ?_
  refine WO_fin (σ' := [some (.lit 0 27 [.c (.int .i64 (0 : Int)), .c (.int .i64 (0 : Int)), .c (.int .i64 (0 : Int)), .c (.int .i64 (0 : Int)), .c (.nsl), .c (.nsl), .c (.nsl), .c (.nsl)]), some (.lit 0 61 [.c (.int .u8 (1 : Int)), .c (.int .i64 (0 : Int))]), some (.lit 0 61 [.c (.int .u8 (2 : Int)), .c (.int .i64 (0 : Int))])]) (T' := [(0, .cell (.c (.int .u8 a0))), (2, .cell (.op 0 0 8 0 0)), (5, .cell (.c (slC e74 [((1 : Int), [((2 : Int), (0 : Int))]), ((96 : Int), [((1 : Int), (0 : Int))]), ((96 : Int), [])])))]) (Φ := (True)) 1 [0, 2, 5] (by kernel_rfl) trivial (by kernel_rfl) ?_
  refine thenQ_n ?_
  refine W_seq_at (by kernel_rfl) ?_
  refine W_region_at (by kernel_rfl) ?_
  refine WO_exk (σ' := [some (.lit 0 27 [.c (.int .i64 (0 : Int)), .c (.int .i64 (0 : Int)), .c (.int .i64 (0 : Int)), .c (.int .i64 (0 : Int)), .c (.nsl), .c (.nsl), .c (.nsl), .c (.nsl)]), some (.lit 0 61 [.c (.int .u8 (1 : Int)), .c (.int .i64 (0 : Int))]), some (.lit 0 61 [.c (.int .u8 (2 : Int)), .c (.int .i64 (0 : Int))])]) (T' := [(2, .cell (.op 0 0 8 0 0)), (18, .agg [.c (.int .u8 a0), .c (slC e74 [((1 : Int), [((2 : Int), (0 : Int))]), ((96 : Int), [((1 : Int), (0 : Int))]), ((96 : Int), [])])])]) (Φ := (True)) 3 [2, 18] (by kernel_rfl) trivial ?_
  refine WO_q1 (r := .cell (.c (rawC 1 2 [.int .u8 a0, slC e74 [((1 : Int), [((2 : Int), (0 : Int))]), ((96 : Int), [((1 : Int), (0 : Int))]), ((96 : Int), [])]]))) (r' := .cell (.c (slC e72 [(a0, [((1 : Int), [((2 : Int), (0 : Int))]), ((96 : Int), [((1 : Int), (0 : Int))]), ((96 : Int), [])])]))) (d := some 19) (φ := True) (raw_weak e72 (xs := [(a0, [((1 : Int), [((2 : Int), (0 : Int))]), ((96 : Int), [((1 : Int), (0 : Int))]), ((96 : Int), [])])]) rfl rfl (by kernel_rfl) (by kernel_rfl)) (by kernel_rfl) trivial ?_
  refine WO_fin (σ' := [some (.lit 0 27 [.c (.int .i64 (0 : Int)), .c (.int .i64 (1 : Int)), .c (.int .i64 (1 : Int)), .c (.int .i64 (0 : Int)), .c (.nsl), .c (slC e72 [(a0, [((1 : Int), [((2 : Int), (0 : Int))]), ((96 : Int), [((1 : Int), (0 : Int))]), ((96 : Int), [])])]), .c (.nsl), .c (.nsl)]), some (.lit 0 61 [.c (.int .u8 (1 : Int)), .c (.int .i64 (0 : Int))]), some (.lit 0 61 [.c (.int .u8 (2 : Int)), .c (.int .i64 (0 : Int))])]) (T' := [(2, .cell (.op 0 0 8 0 0))]) (Φ := (True)) 2 [2] (by kernel_rfl) trivial (by kernel_rfl) ?_
  refine thenQ_n ?_
  refine W_ret_at (by kernel_rfl) ?_
  obtain rfl := Option.some.inj h
  exact qret [.agg [.c (.int .i64 (0 : Int)), .c (.int .i64 (1 : Int)), .c (.int .i64 (1 : Int)), .c (.int .i64 (0 : Int)), .c (.nsl), .c (slC e72 [(a0, [((1 : Int), [((2 : Int), (0 : Int))]), ((96 : Int), [((1 : Int), (0 : Int))]), ((96 : Int), [])])]), .c (.nsl), .c (.nsl)]] (by kernel_rfl) (by kernel_rfl) ([.agg [.no, .no, .no, .no, .sl 1 (fun i j => (e28.row (([] : List (List Int)).getD i e28.d)).getD j .jk), .no, .sl 2 (fun i j => (e65.row (([] : List ((List (List (Int × Int))) × (List (List (Int × Int))))).getD i e65.d)).getD j .jk), .sl 4 (fun i j => (e77.row (([] : List ((List (Int × Int)) × (List (Int × Int)) × Int × Int)).getD i e77.d)).getD j .jk)]]) (by kernel_rfl)

/- attestorlaw13.one -/
def s41 (L : LP) (a0 : (List Int)) : Option ((List Int) × (List (List Int))) :=
  some ([], [a0])
theorem p41 (L : LP) (a0 : (List Int)) (r : ((List Int) × (List (List Int)))) (h : s41 L a0 = some r) : Pure X 41 [.cell (.c (slC e44 a0))] (.agg [.c (slC e44 r.1), .c (slC e28 r.2)]) := by
  refine Pure_of_W (c := cd Tryd.f41 []) Tryd.func41 (by kernel_rfl) (N := 6) (by kernel_rfl) (Nat.le_of_ble_eq_true (by kernel_rfl)) ?_
  unfold s41 at h
  refine W_seq_at (by kernel_rfl) ?_
  refine W_region_at (by kernel_rfl) ?_
  refine WO_fin (σ' := [some (.lit 0 30 [.c (.nsl), .c (.nsl)])]) (T' := [(0, .cell (.c (slC e44 a0))), (2, .cell (.op 0 0 2 0 0))]) (Φ := (True)) 1 [0, 2] (by kernel_rfl) trivial (by kernel_rfl) ?_
  refine thenQ_n ?_
  refine W_seq_at (by kernel_rfl) ?_
  refine W_region_at (by kernel_rfl) ?_
  refine WO_exk (σ' := [some (.lit 0 30 [.c (.nsl), .c (.nsl)])]) (T' := [(2, .cell (.op 0 0 2 0 0)), (3, .cell (.c (slC e44 a0)))]) (Φ := (True)) 1 [2, 3] (by kernel_rfl) trivial ?_
  refine WO_q1 (r := .cell (.c (rawC 1 1 [slC e44 a0]))) (r' := .cell (.c (slC e28 [a0]))) (d := some 4) (φ := True) (raw_weak e28 (xs := [a0]) rfl rfl (by kernel_rfl) (by kernel_rfl)) (by kernel_rfl) trivial ?_
  refine WO_fin (σ' := [some (.lit 0 30 [.c (.nsl), .c (slC e28 [a0])])]) (T' := [(2, .cell (.op 0 0 2 0 0))]) (Φ := (True)) 2 [2] (by kernel_rfl) trivial (by kernel_rfl) ?_
  refine thenQ_n ?_
  refine W_ret_at (by kernel_rfl) ?_
  obtain rfl := Option.some.inj h
  exact qret [.agg [.c (.nsl), .c (slC e28 [a0])]] (by kernel_rfl) (by kernel_rfl) ([.agg [.sl 1 (fun i j => (e44.row (([] : List Int).getD i e44.d)).getD j .jk), .no]]) (by kernel_rfl)

/- attestorref13.SameFaults -/
def s43_0 (L : LP) (a0 : (List (Int × Int))) (a1 : (List (Int × Int))) (y3 : Int) : Option (Int ⊕ (Bool ⊕ Unit)) :=
  (bif (decide (y3 < (a0.length : Int))) then
  (ck (0 ≤ y3 ∧ y3 < (a0.length : Int))).bind fun _ =>
  (ck (0 ≤ y3 ∧ y3 < (a1.length : Int))).bind fun _ =>
  (bif (!(decide ((a0.getD y3.toNat e85.d).1 = (a1.getD y3.toNat e85.d).1) && (decide ((a0.getD y3.toNat e85.d).2 = (a1.getD y3.toNat e85.d).2) && true))) then
  some (.inr (.inl false))
  else (ck (inR .i64 (y3 + (1 : Int)))).bind fun _ =>
  some (.inl (y3 + (1 : Int))))
  else some (.inr (.inr ())))
def s43 (L : LP) (a0 : (List (Int × Int))) (a1 : (List (Int × Int))) : Option Bool :=
  (bif (!(decide ((a0.length : Int) = (a1.length : Int)))) then
  some false
  else ((L.run (s43_0 L a0 a1) (0 : Int)).bind (fun (b : Bool ⊕ Unit) => (match b with
  | .inl v => some (.inr v)
  | .inr v => some (.inl ())))).bind fun (y1 : Unit ⊕ Bool) => (match y1 with
  | .inl v2 => some true
  | .inr v2 => some v2))
theorem p43 (L : LP) (a0 : (List (Int × Int))) (a1 : (List (Int × Int))) (r : Bool) (h : s43 L a0 a1 = some r) : Pure X 43 [.cell (.c (slC e85 a0)), .cell (.c (slC e85 a1))] (.cell (.c (.bool r))) := by
  refine Pure_of_W (c := cd Tryd.f43 []) Tryd.func43 (by kernel_rfl) (N := 26) (by kernel_rfl) (Nat.le_of_ble_eq_true (by kernel_rfl)) ?_
  unfold s43 at h
  refine W_seq_at (by kernel_rfl) ?_
  refine W_region_at (by kernel_rfl) ?_
  refine WO_fin (σ' := []) (T' := [(0, .cell (.c (slC e85 a0))), (1, .cell (.c (slC e85 a1)))]) (Φ := (True)) 1 [0, 1] (by kernel_rfl) trivial (by kernel_rfl) ?_
  refine thenQ_n ?_
  refine W_seq_at (by kernel_rfl) ?_
  refine W_seq_at (by kernel_rfl) ?_
  refine W_region_at (by kernel_rfl) ?_
  refine WO_fin (σ' := []) (T' := [(0, .cell (.c (slC e85 a0))), (1, .cell (.c (slC e85 a1))), (10, .cell (.c (.bool (!(decide ((a0.length : Int) = (a1.length : Int)))))))]) (Φ := (True)) 5 [0, 1, 10] (by kernel_rfl) trivial (by kernel_rfl) ?_
  refine thenQ_n ?_
  refine W_cond_at (b := (!(decide ((a0.length : Int) = (a1.length : Int))))) (by kernel_rfl) (fun hb => ?_) (fun hb => ?_)
  · have h := cond_t hb h
    refine W_seq_at (by kernel_rfl) ?_
    refine W_region_at (by kernel_rfl) ?_
    refine WO_fin (σ' := []) (T' := [(4, .cell (.c (.bool false)))]) (Φ := (True)) 1 [4] (by kernel_rfl) trivial (by kernel_rfl) ?_
    refine thenQ_n ?_
    refine W_ret_at (by kernel_rfl) ?_
    refine thenQ_r ?_
    obtain rfl := Option.some.inj h
    exact qret [.cell (.c (.bool false))] (by kernel_rfl) (by kernel_rfl) ([]) (by kernel_rfl)
  · have h := cond_f hb h
    refine W_skip_at (by kernel_rfl) ?_
    refine thenQ_n ?_
    obtain ⟨y1, gy1, ky1⟩ := bind_some h
    refine W_cutE (by kernel_rfl) (fun v2 => y1 = .inl v2) (fun v2 => ([], [])) ?_ ?_
    · intro v2 hv; subst hv; have h := ky1; clear gy1 ky1; dsimp only at h
      refine W_seq_at (by kernel_rfl) ?_
      refine W_region_at (by kernel_rfl) ?_
      refine WO_fin (σ' := []) (T' := [(4, .cell (.c (.bool true)))]) (Φ := (True)) 1 [4] (by kernel_rfl) trivial (by kernel_rfl) ?_
      refine thenQ_n ?_
      refine W_ret_at (by kernel_rfl) ?_
      obtain rfl := Option.some.inj h
      exact qret [.cell (.c (.bool true))] (by kernel_rfl) (by kernel_rfl) ([]) (by kernel_rfl)
    · have h := gy1; clear gy1
      refine W_seq_at (by kernel_rfl) ?_
      refine W_region_at (by kernel_rfl) ?_
      refine WO_fin (σ' := []) (T' := [(0, .cell (.c (slC e85 a0))), (1, .cell (.c (slC e85 a1))), (5, .cell (.c (.int .i64 (0 : Int))))]) (Φ := (True)) 1 [0, 1, 5] (by kernel_rfl) trivial (by kernel_rfl) ?_
      refine thenQ_n ?_
      refine W_block_at 0 (by kernel_rfl) (by kernel_rfl) ?_
      obtain ⟨b4, gb4, kb4⟩ := bind_some h
      refine W_loop_at (S := fun (y3 : Int) => ([], [(0, .cell (.c (slC e85 a0))), (1, .cell (.c (slC e85 a1))), (5, .cell (.c (.int .i64 y3)))])) (step := _) (x0 := (0 : Int)) (b := b4) (L.ok _ _ _ gb4) (by kernel_rfl) (stps_ok [.keep [0, 1, 5], .take 0] (by kernel_rfl)) ?_
      clear gb4 h; intro y3 o h; unfold s43_0 at h
      refine W_seq_at (by kernel_rfl) ?_
      refine W_seq_at (by kernel_rfl) ?_
      refine W_region_at (by kernel_rfl) ?_
      refine WO_fin (σ' := []) (T' := [(0, .cell (.c (slC e85 a0))), (1, .cell (.c (slC e85 a1))), (5, .cell (.c (.int .i64 y3))), (14, .cell (.c (.bool (decide (y3 < (a0.length : Int))))))]) (Φ := (True)) 4 [0, 1, 5, 14] (by kernel_rfl) trivial (by kernel_rfl) ?_
      refine thenQ_n ?_
      refine W_cond_at (b := (decide (y3 < (a0.length : Int)))) (by kernel_rfl) (fun hb => ?_) (fun hb => ?_)
      · have h := cond_t hb h
        refine W_skip_at (by kernel_rfl) ?_
        refine thenQ_n ?_
        refine W_seq_at (by kernel_rfl) ?_
        refine W_block_at 1 (by kernel_rfl) (by kernel_rfl) ?_
        refine W_seq_at (by kernel_rfl) ?_
        refine W_drawK 8 (by kernel_rfl) mixed (by kernel_rfl) ?_
        obtain ⟨c5, h⟩ := ck_bind h
        obtain ⟨c6, h⟩ := ck_bind h
        refine WQ_exk (n' := 0) (T' := [(0, .cell (.c (slC e85 a0))), (1, .cell (.c (slC e85 a1))), (5, .cell (.c (.int .i64 y3))), (20, .agg [.c (.int .i64 ((a0.getD y3.toNat e85.d).1)), .c (.int .i64 ((a0.getD y3.toNat e85.d).2))]), (24, .agg [.c (.int .i64 ((a1.getD y3.toNat e85.d).1)), .c (.int .i64 ((a1.getD y3.toNat e85.d).2))])]) (Φ := (0 ≤ y3 ∧ y3 < (a0.length : Int)) ∧ (0 ≤ y3 ∧ y3 < (a1.length : Int)) ∧ (True)) 8 [0, 1, 5, 20, 24] (by kernel_rfl) ⟨c5, c6, trivial⟩ ?_
        refine WQ_done ?_
        refine WO_fin (σ' := []) (T' := [(0, .cell (.c (slC e85 a0))), (1, .cell (.c (slC e85 a1))), (5, .cell (.c (.int .i64 y3))), (25, .cell (.c (.bool (!(decide ((a0.getD y3.toNat e85.d).1 = (a1.getD y3.toNat e85.d).1) && (decide ((a0.getD y3.toNat e85.d).2 = (a1.getD y3.toNat e85.d).2) && true))))))]) (Φ := (True)) 1 [0, 1, 5, 25] (by kernel_rfl) trivial (by kernel_rfl) ?_
        refine thenQ_n ?_
        refine W_cond_at (b := (!(decide ((a0.getD y3.toNat e85.d).1 = (a1.getD y3.toNat e85.d).1) && (decide ((a0.getD y3.toNat e85.d).2 = (a1.getD y3.toNat e85.d).2) && true)))) (by kernel_rfl) (fun hb => ?_) (fun hb => ?_)
        · have h := cond_t hb h
          refine W_seq_at (by kernel_rfl) ?_
          refine W_region_at (by kernel_rfl) ?_
          refine WO_fin (σ' := []) (T' := [(4, .cell (.c (.bool false)))]) (Φ := (True)) 1 [4] (by kernel_rfl) trivial (by kernel_rfl) ?_
          refine thenQ_n ?_
          refine W_ret_at (by kernel_rfl) ?_
          refine blockQ_r ?_
          refine thenQ_r ?_
          obtain rfl := Option.some.inj h; refine round_r rfl (fun hb => ?_); subst hb; have h := kb4; dsimp only at h
          refine blockQ_r ?_
          obtain rfl := Option.some.inj h; have h := ky1; dsimp only at h; refine thenQ_r ?_
          obtain rfl := Option.some.inj h
          exact qret [.cell (.c (.bool false))] (by kernel_rfl) (by kernel_rfl) ([]) (by kernel_rfl)
        · have h := cond_f hb h
          refine W_skip_at (by kernel_rfl) ?_
          refine blockQ_n ?_
          refine thenQ_n ?_
          refine W_region_at (by kernel_rfl) ?_
          obtain ⟨c7, h⟩ := ck_bind h
          refine WO_fin (σ' := []) (T' := [(0, .cell (.c (slC e85 a0))), (1, .cell (.c (slC e85 a1))), (5, .cell (.c (.int .i64 (y3 + (1 : Int)))))]) (Φ := (inR .i64 (y3 + (1 : Int))) ∧ (True)) 3 [0, 1, 5] (by kernel_rfl) ⟨c7, trivial⟩ (by kernel_rfl) ?_
          obtain rfl := Option.some.inj h
          exact round_n _ rfl (stps_ok [.keep [0, 1, 5], .take 0] (by kernel_rfl))
      · have h := cond_f hb h
        refine W_exit_at 0 (by kernel_rfl) (by kernel_rfl) ?_
        refine thenQ_e ?_
        obtain rfl := Option.some.inj h; refine round_e rfl (fun hb => ?_); subst hb; have h := kb4; dsimp only at h
        refine blockQ_hit ?_
        obtain rfl := Option.some.inj h
        exact thenQ_n ⟨_, rfl, stps_ok [.keep [], .take 0] (by kernel_rfl)⟩

end Go.Proofs.YtkbpafipbhaknaaDoor
