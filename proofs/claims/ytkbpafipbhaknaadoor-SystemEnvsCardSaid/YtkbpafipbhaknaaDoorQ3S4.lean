/- What functions compute. -/
import Derived.Test.YtkbpafipbhaknaaDoorQ3S3
namespace Go.Proofs.YtkbpafipbhaknaaDoor
open Go Go.Av
set_option maxRecDepth 100000
set_option linter.unusedVariables false
/- attestorref13.Fits -/
def s23_0 (L : LP) (a0_0 : Int) (a0_1 : Int) (a0_2 : Int) (a0_3 : Int) (a0_4 : (List (List Int))) (a0_5 : (List (Int × (List (Int × (List (Int × Int))))))) (a0_6 : (List ((List (List (Int × Int))) × (List (List (Int × Int)))))) (a0_7 : (List ((List (Int × Int)) × (List (Int × Int)) × Int × Int))) (a1_1 : (List (List Int))) (y7 : Int) : Option (Int ⊕ (Bool ⊕ Unit)) :=
  (bif (decide (y7 < (a1_1.length : Int))) then
  (ck (0 ≤ y7 ∧ y7 < (a1_1.length : Int))).bind fun _ =>
  (s28 L a0_0 a0_1 a0_2 a0_3 a0_4 a0_5 a0_6 a0_7).bind fun r10 =>
  (bif (!(decide (((a1_1.getD y7.toNat e28.d).length : Int) = r10))) then some true
  else (ck (0 ≤ y7 ∧ y7 < (a1_1.length : Int))).bind fun _ =>
  (s50 L a0_0 (a1_1.getD y7.toNat e28.d)).bind fun r14 =>
  some (!r14)).bind fun y11 =>
  (bif y11 then
  some (.inr (.inl false))
  else (ck (inR .i64 (y7 + (1 : Int)))).bind fun _ =>
  some (.inl (y7 + (1 : Int))))
  else some (.inr (.inr ())))
def s23 (L : LP) (a0_0 : Int) (a0_1 : Int) (a0_2 : Int) (a0_3 : Int) (a0_4 : (List (List Int))) (a0_5 : (List (Int × (List (Int × (List (Int × Int))))))) (a0_6 : (List ((List (List (Int × Int))) × (List (List (Int × Int)))))) (a0_7 : (List ((List (Int × Int)) × (List (Int × Int)) × Int × Int))) (a1_0 : (List Int)) (a1_1 : (List (List Int))) : Option Bool :=
  (s15 L a0_0 a0_1 a0_2 a0_3 a0_4 a0_5 a0_6 a0_7).bind fun r1 =>
  (bif (!r1) then some true
  else some (!(decide ((a1_0.length : Int) = a0_3)))).bind fun y2 =>
  (bif y2 then some true
  else some (!(decide ((a1_1.length : Int) = a0_2)))).bind fun y3 =>
  (bif y3 then some true
  else (s50 L a0_0 a1_0).bind fun r15 =>
  some (!r15)).bind fun y4 =>
  (bif y4 then
  some false
  else ((L.run (s23_0 L a0_0 a0_1 a0_2 a0_3 a0_4 a0_5 a0_6 a0_7 a1_1) (0 : Int)).bind (fun (b : Bool ⊕ Unit) => (match b with
  | .inl v => some (.inr v)
  | .inr v => some (.inl ())))).bind fun (y5 : Unit ⊕ Bool) => (match y5 with
  | .inl v6 => some true
  | .inr v6 => some v6))
theorem p23 (L : LP) (a0_0 : Int) (a0_1 : Int) (a0_2 : Int) (a0_3 : Int) (a0_4 : (List (List Int))) (a0_5 : (List (Int × (List (Int × (List (Int × Int))))))) (a0_6 : (List ((List (List (Int × Int))) × (List (List (Int × Int)))))) (a0_7 : (List ((List (Int × Int)) × (List (Int × Int)) × Int × Int))) (a1_0 : (List Int)) (a1_1 : (List (List Int))) (r : Bool) (h : s23 L a0_0 a0_1 a0_2 a0_3 a0_4 a0_5 a0_6 a0_7 a1_0 a1_1 = some r) : Pure X 23 [.agg [.c (.int .i64 a0_0), .c (.int .i64 a0_1), .c (.int .i64 a0_2), .c (.int .i64 a0_3), .c (slC e28 a0_4), .c (slC e72 a0_5), .c (slC e65 a0_6), .c (slC e77 a0_7)], .agg [.c (slC e44 a1_0), .c (slC e28 a1_1)]] (.cell (.c (.bool r))) := by
  refine Pure_of_W (c := cd Tryd.f23 []) Tryd.func23 (by kernel_rfl) (N := 60) (by kernel_rfl) (Nat.le_of_ble_eq_true (by kernel_rfl)) ?_
  unfold s23 at h
  refine W_seq_at (by kernel_rfl) ?_
  refine W_region_at (by kernel_rfl) ?_
  refine WO_fin (σ' := [some (.lit 0 27 [.c (.int .i64 a0_0), .c (.int .i64 a0_1), .c (.int .i64 a0_2), .c (.int .i64 a0_3), .c (slC e28 a0_4), .c (slC e72 a0_5), .c (slC e65 a0_6), .c (slC e77 a0_7)]), some (.lit 0 30 [.c (slC e44 a1_0), .c (slC e28 a1_1)])]) (T' := [(2, .cell (.op 0 0 8 0 0)), (3, .cell (.op 1 0 2 0 0))]) (Φ := (True)) 3 [2, 3] (by kernel_rfl) trivial (by kernel_rfl) ?_
  refine thenQ_n ?_
  refine W_seq_at (by kernel_rfl) ?_
  refine W_seq_at (by kernel_rfl) ?_
  refine W_region_at (by kernel_rfl) ?_
  refine WO_exk (σ' := [some (.lit 0 27 [.c (.int .i64 a0_0), .c (.int .i64 a0_1), .c (.int .i64 a0_2), .c (.int .i64 a0_3), .c (slC e28 a0_4), .c (slC e72 a0_5), .c (slC e65 a0_6), .c (slC e77 a0_7)]), some (.lit 0 30 [.c (slC e44 a1_0), .c (slC e28 a1_1)])]) (T' := [(2, .cell (.op 0 0 8 0 0)), (3, .cell (.op 1 0 2 0 0)), (6, .agg [.c (.int .i64 a0_0), .c (.int .i64 a0_1), .c (.int .i64 a0_2), .c (.int .i64 a0_3), .c (slC e28 a0_4), .c (slC e72 a0_5), .c (slC e65 a0_6), .c (slC e77 a0_7)])]) (Φ := (True)) 1 [2, 3, 6] (by kernel_rfl) trivial ?_
  obtain ⟨r1, gr1, h⟩ := bind_some h
  refine WO_call (f := 15) (all := [.agg [.c (.int .i64 a0_0), .c (.int .i64 a0_1), .c (.int .i64 a0_2), .c (.int .i64 a0_3), .c (slC e28 a0_4), .c (slC e72 a0_5), .c (slC e65 a0_6), .c (slC e77 a0_7)]]) (d := some 7) (r := .cell (.c (.bool r1))) (by kernel_rfl) (by kernel_rfl) (by kernel_rfl) Tryd.call15 (p15 L _ _ _ _ _ _ _ _ _ gr1) ?_
  refine WO_exk (σ' := [some (.lit 0 27 [.c (.int .i64 a0_0), .c (.int .i64 a0_1), .c (.int .i64 a0_2), .c (.int .i64 a0_3), .c (slC e28 a0_4), .c (slC e72 a0_5), .c (slC e65 a0_6), .c (slC e77 a0_7)]), some (.lit 0 30 [.c (slC e44 a1_0), .c (slC e28 a1_1)])]) (T' := [(2, .cell (.op 0 0 8 0 0)), (3, .cell (.op 1 0 2 0 0)), (9, .cell (.c (.bool (!r1))))]) (Φ := (True)) 2 [2, 3, 9] (by kernel_rfl) trivial ?_
  obtain ⟨y2, gy2, h⟩ := bind_some h
  refine WO_join 11 [some (.lit 0 27 [.c (.int .i64 a0_0), .c (.int .i64 a0_1), .c (.int .i64 a0_2), .c (.int .i64 a0_3), .c (slC e28 a0_4), .c (slC e72 a0_5), .c (slC e65 a0_6), .c (slC e77 a0_7)]), some (.lit 0 30 [.c (slC e44 a1_0), .c (slC e28 a1_1)])] [(2, .cell (.op 0 0 8 0 0)), (3, .cell (.op 1 0 2 0 0)), (16, .cell (.c (.bool y2)))] ?_ ?_
  · clear gy2
    refine WO_exk (σ' := [some (.lit 0 27 [.c (.int .i64 a0_0), .c (.int .i64 a0_1), .c (.int .i64 a0_2), .c (.int .i64 a0_3), .c (slC e28 a0_4), .c (slC e72 a0_5), .c (slC e65 a0_6), .c (slC e77 a0_7)]), some (.lit 0 30 [.c (slC e44 a1_0), .c (slC e28 a1_1)])]) (T' := [(2, .cell (.op 0 0 8 0 0)), (3, .cell (.op 1 0 2 0 0)), (17, .cell (.c (.bool y2)))]) (Φ := (True)) 1 [2, 3, 17] (by kernel_rfl) trivial ?_
    obtain ⟨y3, gy3, h⟩ := bind_some h
    refine WO_join 19 [some (.lit 0 27 [.c (.int .i64 a0_0), .c (.int .i64 a0_1), .c (.int .i64 a0_2), .c (.int .i64 a0_3), .c (slC e28 a0_4), .c (slC e72 a0_5), .c (slC e65 a0_6), .c (slC e77 a0_7)]), some (.lit 0 30 [.c (slC e44 a1_0), .c (slC e28 a1_1)])] [(2, .cell (.op 0 0 8 0 0)), (3, .cell (.op 1 0 2 0 0)), (24, .cell (.c (.bool y3)))] ?_ ?_
    · clear gy3
      refine WO_exk (σ' := [some (.lit 0 27 [.c (.int .i64 a0_0), .c (.int .i64 a0_1), .c (.int .i64 a0_2), .c (.int .i64 a0_3), .c (slC e28 a0_4), .c (slC e72 a0_5), .c (slC e65 a0_6), .c (slC e77 a0_7)]), some (.lit 0 30 [.c (slC e44 a1_0), .c (slC e28 a1_1)])]) (T' := [(2, .cell (.op 0 0 8 0 0)), (3, .cell (.op 1 0 2 0 0)), (25, .cell (.c (.bool y3)))]) (Φ := (True)) 1 [2, 3, 25] (by kernel_rfl) trivial ?_
      obtain ⟨y4, gy4, h⟩ := bind_some h
      refine WO_join 27 [some (.lit 0 27 [.c (.int .i64 a0_0), .c (.int .i64 a0_1), .c (.int .i64 a0_2), .c (.int .i64 a0_3), .c (slC e28 a0_4), .c (slC e72 a0_5), .c (slC e65 a0_6), .c (slC e77 a0_7)]), some (.lit 0 30 [.c (slC e44 a1_0), .c (slC e28 a1_1)])] [(2, .cell (.op 0 0 8 0 0)), (3, .cell (.op 1 0 2 0 0)), (32, .cell (.c (.bool y4)))] ?_ ?_
      · clear gy4
        refine WO_fin (σ' := [some (.lit 0 27 [.c (.int .i64 a0_0), .c (.int .i64 a0_1), .c (.int .i64 a0_2), .c (.int .i64 a0_3), .c (slC e28 a0_4), .c (slC e72 a0_5), .c (slC e65 a0_6), .c (slC e77 a0_7)]), some (.lit 0 30 [.c (slC e44 a1_0), .c (slC e28 a1_1)])]) (T' := [(2, .cell (.op 0 0 8 0 0)), (3, .cell (.op 1 0 2 0 0)), (32, .cell (.c (.bool y4)))]) (Φ := True) 0 [2, 3, 32] (by kernel_rfl) trivial (by kernel_rfl) ?_
        refine thenQ_n ?_
        refine W_cond_at (b := y4) (by kernel_rfl) (fun hb => ?_) (fun hb => ?_)
        · have h := cond_t hb h
          refine W_seq_at (by kernel_rfl) ?_
          refine W_region_at (by kernel_rfl) ?_
          refine WO_fin (σ' := [some (.lit 0 27 [.c (.int .i64 a0_0), .c (.int .i64 a0_1), .c (.int .i64 a0_2), .c (.int .i64 a0_3), .c (slC e28 a0_4), .c (slC e72 a0_5), .c (slC e65 a0_6), .c (slC e77 a0_7)]), some (.lit 0 30 [.c (slC e44 a1_0), .c (slC e28 a1_1)])]) (T' := [(4, .cell (.c (.bool false)))]) (Φ := (True)) 1 [4] (by kernel_rfl) trivial (by kernel_rfl) ?_
          refine thenQ_n ?_
          refine W_ret_at (by kernel_rfl) ?_
          refine thenQ_r ?_
          obtain rfl := Option.some.inj h
          exact qret [.cell (.c (.bool false))] (by kernel_rfl) (by kernel_rfl) ([]) (by kernel_rfl)
        · have h := cond_f hb h
          refine W_skip_at (by kernel_rfl) ?_
          refine thenQ_n ?_
          obtain ⟨y5, gy5, ky5⟩ := bind_some h
          refine W_cutE (by kernel_rfl) (fun v6 => y5 = .inl v6) (fun v6 => ([some (.lit 0 27 [.c (.int .i64 a0_0), .c (.int .i64 a0_1), .c (.int .i64 a0_2), .c (.int .i64 a0_3), .c (slC e28 a0_4), .c (slC e72 a0_5), .c (slC e65 a0_6), .c (slC e77 a0_7)]), some (.lit 0 30 [.c (slC e44 a1_0), .c (slC e28 a1_1)])], [])) ?_ ?_
          · intro v6 hv; subst hv; have h := ky5; clear gy5 ky5; dsimp only at h
            refine W_seq_at (by kernel_rfl) ?_
            refine W_region_at (by kernel_rfl) ?_
            refine WO_fin (σ' := [some (.lit 0 27 [.c (.int .i64 a0_0), .c (.int .i64 a0_1), .c (.int .i64 a0_2), .c (.int .i64 a0_3), .c (slC e28 a0_4), .c (slC e72 a0_5), .c (slC e65 a0_6), .c (slC e77 a0_7)]), some (.lit 0 30 [.c (slC e44 a1_0), .c (slC e28 a1_1)])]) (T' := [(4, .cell (.c (.bool true)))]) (Φ := (True)) 1 [4] (by kernel_rfl) trivial (by kernel_rfl) ?_
            refine thenQ_n ?_
            refine W_ret_at (by kernel_rfl) ?_
            obtain rfl := Option.some.inj h
            exact qret [.cell (.c (.bool true))] (by kernel_rfl) (by kernel_rfl) ([]) (by kernel_rfl)
          · have h := gy5; clear gy5
            refine W_seq_at (by kernel_rfl) ?_
            refine W_region_at (by kernel_rfl) ?_
            refine WO_fin (σ' := [some (.lit 0 27 [.c (.int .i64 a0_0), .c (.int .i64 a0_1), .c (.int .i64 a0_2), .c (.int .i64 a0_3), .c (slC e28 a0_4), .c (slC e72 a0_5), .c (slC e65 a0_6), .c (slC e77 a0_7)]), some (.lit 0 30 [.c (slC e44 a1_0), .c (slC e28 a1_1)])]) (T' := [(2, .cell (.op 0 0 8 0 0)), (3, .cell (.op 1 0 2 0 0)), (5, .cell (.c (.int .i64 (0 : Int))))]) (Φ := (True)) 1 [2, 3, 5] (by kernel_rfl) trivial (by kernel_rfl) ?_
            refine thenQ_n ?_
            refine W_block_at 0 (by kernel_rfl) (by kernel_rfl) ?_
            obtain ⟨b8, gb8, kb8⟩ := bind_some h
            refine W_loop_at (S := fun (y7 : Int) => ([some (.lit 0 27 [.c (.int .i64 a0_0), .c (.int .i64 a0_1), .c (.int .i64 a0_2), .c (.int .i64 a0_3), .c (slC e28 a0_4), .c (slC e72 a0_5), .c (slC e65 a0_6), .c (slC e77 a0_7)]), some (.lit 0 30 [.c (slC e44 a1_0), .c (slC e28 a1_1)])], [(2, .cell (.op 0 0 8 0 0)), (3, .cell (.op 1 0 2 0 0)), (5, .cell (.c (.int .i64 y7)))])) (step := _) (x0 := (0 : Int)) (b := b8) (L.ok _ _ _ gb8) (by kernel_rfl) (stps_ok [.keep [2, 3, 5], .take 2] (by kernel_rfl)) ?_
            clear gb8 h; intro y7 o h; unfold s23_0 at h
            refine W_seq_at (by kernel_rfl) ?_
            refine W_seq_at (by kernel_rfl) ?_
            refine W_region_at (by kernel_rfl) ?_
            refine WO_fin (σ' := [some (.lit 0 27 [.c (.int .i64 a0_0), .c (.int .i64 a0_1), .c (.int .i64 a0_2), .c (.int .i64 a0_3), .c (slC e28 a0_4), .c (slC e72 a0_5), .c (slC e65 a0_6), .c (slC e77 a0_7)]), some (.lit 0 30 [.c (slC e44 a1_0), .c (slC e28 a1_1)])]) (T' := [(2, .cell (.op 0 0 8 0 0)), (3, .cell (.op 1 0 2 0 0)), (5, .cell (.c (.int .i64 y7))), (37, .cell (.c (.bool (decide (y7 < (a1_1.length : Int))))))]) (Φ := (True)) 5 [2, 3, 5, 37] (by kernel_rfl) trivial (by kernel_rfl) ?_
            refine thenQ_n ?_
            refine W_cond_at (b := (decide (y7 < (a1_1.length : Int)))) (by kernel_rfl) (fun hb => ?_) (fun hb => ?_)
            · have h := cond_t hb h
              refine W_skip_at (by kernel_rfl) ?_
              refine thenQ_n ?_
              refine W_seq_at (by kernel_rfl) ?_
              refine W_block_at 1 (by kernel_rfl) (by kernel_rfl) ?_
              refine W_seq_at (by kernel_rfl) ?_
              refine W_drawK 20 (by kernel_rfl) mixed (by kernel_rfl) ?_
              obtain ⟨c9, h⟩ := ck_bind h
              refine WQ_exk (n' := 13) (T' := [(2, .cell (.op 0 0 8 0 0)), (3, .cell (.op 1 0 2 0 0)), (5, .cell (.c (.int .i64 y7))), (45, .cell (.c (.int .i64 ((a1_1.getD y7.toNat e28.d).length : Int)))), (46, .agg [.c (.int .i64 a0_0), .c (.int .i64 a0_1), .c (.int .i64 a0_2), .c (.int .i64 a0_3), .c (slC e28 a0_4), .c (slC e72 a0_5), .c (slC e65 a0_6), .c (slC e77 a0_7)])]) (Φ := (0 ≤ y7 ∧ y7 < (a1_1.length : Int)) ∧ (True)) 7 [2, 3, 5, 45, 46] (by kernel_rfl) ⟨c9, trivial⟩ ?_
              obtain ⟨r10, gr10, h⟩ := bind_some h
              refine WQ_call (f := 28) (all := [.agg [.c (.int .i64 a0_0), .c (.int .i64 a0_1), .c (.int .i64 a0_2), .c (.int .i64 a0_3), .c (slC e28 a0_4), .c (slC e72 a0_5), .c (slC e65 a0_6), .c (slC e77 a0_7)]]) (d := some 47) (r := .cell (.c (.int .i64 r10))) (by kernel_rfl) (by kernel_rfl) (by kernel_rfl) Tryd.call28 (p28 L _ _ _ _ _ _ _ _ _ gr10) ?_
              refine WQ_exk (n' := 10) (T' := [(2, .cell (.op 0 0 8 0 0)), (3, .cell (.op 1 0 2 0 0)), (5, .cell (.c (.int .i64 y7))), (49, .cell (.c (.bool (!(decide (((a1_1.getD y7.toNat e28.d).length : Int) = r10))))))]) (Φ := (True)) 2 [2, 3, 5, 49] (by kernel_rfl) trivial ?_
              obtain ⟨y11, gy11, h⟩ := bind_some h
              refine WQ_join 0 20 [(2, .cell (.op 0 0 8 0 0)), (3, .cell (.op 1 0 2 0 0)), (5, .cell (.c (.int .i64 y7))), (59, .cell (.c (.bool y11)))] ?_ ?_
              · clear gy11
                refine WQ_done ?_
                refine WO_fin (σ' := [some (.lit 0 27 [.c (.int .i64 a0_0), .c (.int .i64 a0_1), .c (.int .i64 a0_2), .c (.int .i64 a0_3), .c (slC e28 a0_4), .c (slC e72 a0_5), .c (slC e65 a0_6), .c (slC e77 a0_7)]), some (.lit 0 30 [.c (slC e44 a1_0), .c (slC e28 a1_1)])]) (T' := [(2, .cell (.op 0 0 8 0 0)), (3, .cell (.op 1 0 2 0 0)), (5, .cell (.c (.int .i64 y7))), (59, .cell (.c (.bool y11)))]) (Φ := True) 0 [2, 3, 5, 59] (by kernel_rfl) trivial (by kernel_rfl) ?_
                refine thenQ_n ?_
                refine W_cond_at (b := y11) (by kernel_rfl) (fun hb => ?_) (fun hb => ?_)
                · have h := cond_t hb h
                  refine W_seq_at (by kernel_rfl) ?_
                  refine W_region_at (by kernel_rfl) ?_
                  refine WO_fin (σ' := [some (.lit 0 27 [.c (.int .i64 a0_0), .c (.int .i64 a0_1), .c (.int .i64 a0_2), .c (.int .i64 a0_3), .c (slC e28 a0_4), .c (slC e72 a0_5), .c (slC e65 a0_6), .c (slC e77 a0_7)]), some (.lit 0 30 [.c (slC e44 a1_0), .c (slC e28 a1_1)])]) (T' := [(4, .cell (.c (.bool false)))]) (Φ := (True)) 1 [4] (by kernel_rfl) trivial (by kernel_rfl) ?_
                  refine thenQ_n ?_
                  refine W_ret_at (by kernel_rfl) ?_
                  refine blockQ_r ?_
                  refine thenQ_r ?_
                  obtain rfl := Option.some.inj h; refine round_r rfl (fun hb => ?_); subst hb; have h := kb8; dsimp only at h
                  refine blockQ_r ?_
                  obtain rfl := Option.some.inj h; have h := ky5; dsimp only at h; refine thenQ_r ?_
                  obtain rfl := Option.some.inj h
                  exact qret [.cell (.c (.bool false))] (by kernel_rfl) (by kernel_rfl) ([]) (by kernel_rfl)
                · have h := cond_f hb h
                  refine W_skip_at (by kernel_rfl) ?_
                  refine blockQ_n ?_
                  refine thenQ_n ?_
                  refine W_region_at (by kernel_rfl) ?_
                  obtain ⟨c12, h⟩ := ck_bind h
                  refine WO_fin (σ' := [some (.lit 0 27 [.c (.int .i64 a0_0), .c (.int .i64 a0_1), .c (.int .i64 a0_2), .c (.int .i64 a0_3), .c (slC e28 a0_4), .c (slC e72 a0_5), .c (slC e65 a0_6), .c (slC e77 a0_7)]), some (.lit 0 30 [.c (slC e44 a1_0), .c (slC e28 a1_1)])]) (T' := [(2, .cell (.op 0 0 8 0 0)), (3, .cell (.op 1 0 2 0 0)), (5, .cell (.c (.int .i64 (y7 + (1 : Int)))))]) (Φ := (inR .i64 (y7 + (1 : Int))) ∧ (True)) 3 [2, 3, 5] (by kernel_rfl) ⟨c12, trivial⟩ (by kernel_rfl) ?_
                  obtain rfl := Option.some.inj h
                  exact round_n _ rfl (stps_ok [.keep [2, 3, 5], .take 2] (by kernel_rfl))
              · intro J
                clear h
                rcases Bool.eq_false_or_eq_true (!(decide (((a1_1.getD y7.toNat e28.d).length : Int) = r10))) with hb | hb
                · have h := cond_t hb gy11; clear gy11
                  refine WQ_bool (T' := [(49, .cell (.c (.bool true))), (2, .cell (.op 0 0 8 0 0)), (3, .cell (.op 1 0 2 0 0)), (5, .cell (.c (.int .i64 y7)))]) 49 hb (by kernel_rfl) (by kernel_rfl) ?_
                  obtain rfl := Option.some.inj h
                  refine WQ_exk (n' := 0) (T' := [(2, .cell (.op 0 0 8 0 0)), (3, .cell (.op 1 0 2 0 0)), (5, .cell (.c (.int .i64 y7))), (59, .cell (.c (.bool true)))]) (Φ := True) 10 [2, 3, 5, 59] (by kernel_rfl) trivial J
                · have h := cond_f hb gy11; clear gy11
                  refine WQ_bool (T' := [(49, .cell (.c (.bool false))), (2, .cell (.op 0 0 8 0 0)), (3, .cell (.op 1 0 2 0 0)), (5, .cell (.c (.int .i64 y7)))]) 49 hb (by kernel_rfl) (by kernel_rfl) ?_
                  obtain ⟨c13, h⟩ := ck_bind h
                  refine WQ_exk (n' := 3) (T' := [(2, .cell (.op 0 0 8 0 0)), (3, .cell (.op 1 0 2 0 0)), (5, .cell (.c (.int .i64 y7))), (49, .cell (.c (.bool false))), (50, .cell (.op 0 0 8 0 0)), (51, .cell (.c (.int .i64 a0_0))), (52, .cell (.op 1 0 2 0 1)), (53, .cell (.c (slC e28 a1_1))), (54, .cell (.c (.int .i64 y7))), (55, .cell (.c (ptC e28 a1_1 y7 0))), (56, .cell (.c (slC e44 (a1_1.getD y7.toNat e28.d))))]) (Φ := (0 ≤ y7 ∧ y7 < (a1_1.length : Int)) ∧ (True)) 7 [2, 3, 5, 49, 50, 51, 52, 53, 54, 55, 56] (by kernel_rfl) ⟨c13, trivial⟩ ?_
                  obtain ⟨r14, gr14, h⟩ := bind_some h
                  refine WQ_call (f := 50) (all := [.cell (.c (.int .i64 a0_0)), .cell (.c (slC e44 (a1_1.getD y7.toNat e28.d)))]) (d := some 57) (r := .cell (.c (.bool r14))) (by kernel_rfl) (by kernel_rfl) (by kernel_rfl) Tryd.call50 (p50 L _ _ _ gr14) ?_
                  refine WQ_exk (n' := 1) (T' := [(2, .cell (.op 0 0 8 0 0)), (3, .cell (.op 1 0 2 0 0)), (5, .cell (.c (.int .i64 y7))), (49, .cell (.c (.bool false))), (50, .cell (.op 0 0 8 0 0)), (51, .cell (.c (.int .i64 a0_0))), (52, .cell (.op 1 0 2 0 1)), (53, .cell (.c (slC e28 a1_1))), (54, .cell (.c (.int .i64 y7))), (55, .cell (.c (ptC e28 a1_1 y7 0))), (56, .cell (.c (slC e44 (a1_1.getD y7.toNat e28.d)))), (57, .cell (.c (.bool r14))), (58, .cell (.c (.bool (!r14))))]) (Φ := (True)) 1 [2, 3, 5, 49, 50, 51, 52, 53, 54, 55, 56, 57, 58] (by kernel_rfl) trivial ?_
                  obtain rfl := Option.some.inj h
                  refine WQ_exk (n' := 0) (T' := [(2, .cell (.op 0 0 8 0 0)), (3, .cell (.op 1 0 2 0 0)), (5, .cell (.c (.int .i64 y7))), (59, .cell (.c (.bool (!r14))))]) (Φ := True) 1 [2, 3, 5, 59] (by kernel_rfl) trivial J
            · have h := cond_f hb h
              refine W_exit_at 0 (by kernel_rfl) (by kernel_rfl) ?_
              refine thenQ_e ?_
              obtain rfl := Option.some.inj h; refine round_e rfl (fun hb => ?_); subst hb; have h := kb8; dsimp only at h
              refine blockQ_hit ?_
              obtain rfl := Option.some.inj h
              exact thenQ_n ⟨_, rfl, stps_ok [.keep [], .take 2] (by kernel_rfl)⟩
      · intro J
        clear h
        rcases Bool.eq_false_or_eq_true y3 with hb | hb
        · have h := cond_t hb gy4; clear gy4
          refine WO_ent (ent_bool (T' := [(25, .cell (.c (.bool true))), (2, .cell (.op 0 0 8 0 0)), (3, .cell (.op 1 0 2 0 0))]) 25 hb (by kernel_rfl) (by kernel_rfl)) ?_
          obtain rfl := Option.some.inj h
          refine WO_exk (σ' := [some (.lit 0 27 [.c (.int .i64 a0_0), .c (.int .i64 a0_1), .c (.int .i64 a0_2), .c (.int .i64 a0_3), .c (slC e28 a0_4), .c (slC e72 a0_5), .c (slC e65 a0_6), .c (slC e77 a0_7)]), some (.lit 0 30 [.c (slC e44 a1_0), .c (slC e28 a1_1)])]) (T' := [(2, .cell (.op 0 0 8 0 0)), (3, .cell (.op 1 0 2 0 0)), (32, .cell (.c (.bool true)))]) (Φ := True) 7 [2, 3, 32] (by kernel_rfl) trivial J
        · have h := cond_f hb gy4; clear gy4
          refine WO_ent (ent_bool (T' := [(25, .cell (.c (.bool false))), (2, .cell (.op 0 0 8 0 0)), (3, .cell (.op 1 0 2 0 0))]) 25 hb (by kernel_rfl) (by kernel_rfl)) ?_
          refine WO_exk (σ' := [some (.lit 0 27 [.c (.int .i64 a0_0), .c (.int .i64 a0_1), .c (.int .i64 a0_2), .c (.int .i64 a0_3), .c (slC e28 a0_4), .c (slC e72 a0_5), .c (slC e65 a0_6), .c (slC e77 a0_7)]), some (.lit 0 30 [.c (slC e44 a1_0), .c (slC e28 a1_1)])]) (T' := [(2, .cell (.op 0 0 8 0 0)), (3, .cell (.op 1 0 2 0 0)), (25, .cell (.c (.bool false))), (27, .cell (.c (.int .i64 a0_0))), (29, .cell (.c (slC e44 a1_0)))]) (Φ := (True)) 4 [2, 3, 25, 27, 29] (by kernel_rfl) trivial ?_
          obtain ⟨r15, gr15, h⟩ := bind_some h
          refine WO_call (f := 50) (all := [.cell (.c (.int .i64 a0_0)), .cell (.c (slC e44 a1_0))]) (d := some 30) (r := .cell (.c (.bool r15))) (by kernel_rfl) (by kernel_rfl) (by kernel_rfl) Tryd.call50 (p50 L _ _ _ gr15) ?_
          refine WO_exk (σ' := [some (.lit 0 27 [.c (.int .i64 a0_0), .c (.int .i64 a0_1), .c (.int .i64 a0_2), .c (.int .i64 a0_3), .c (slC e28 a0_4), .c (slC e72 a0_5), .c (slC e65 a0_6), .c (slC e77 a0_7)]), some (.lit 0 30 [.c (slC e44 a1_0), .c (slC e28 a1_1)])]) (T' := [(2, .cell (.op 0 0 8 0 0)), (3, .cell (.op 1 0 2 0 0)), (25, .cell (.c (.bool false))), (31, .cell (.c (.bool (!r15))))]) (Φ := (True)) 1 [2, 3, 25, 31] (by kernel_rfl) trivial ?_
          obtain rfl := Option.some.inj h
          refine WO_exk (σ' := [some (.lit 0 27 [.c (.int .i64 a0_0), .c (.int .i64 a0_1), .c (.int .i64 a0_2), .c (.int .i64 a0_3), .c (slC e28 a0_4), .c (slC e72 a0_5), .c (slC e65 a0_6), .c (slC e77 a0_7)]), some (.lit 0 30 [.c (slC e44 a1_0), .c (slC e28 a1_1)])]) (T' := [(2, .cell (.op 0 0 8 0 0)), (3, .cell (.op 1 0 2 0 0)), (32, .cell (.c (.bool (!r15))))]) (Φ := True) 1 [2, 3, 32] (by kernel_rfl) trivial J
    · intro J
      clear h
      rcases Bool.eq_false_or_eq_true y2 with hb | hb
      · have h := cond_t hb gy3; clear gy3
        refine WO_ent (ent_bool (T' := [(17, .cell (.c (.bool true))), (2, .cell (.op 0 0 8 0 0)), (3, .cell (.op 1 0 2 0 0))]) 17 hb (by kernel_rfl) (by kernel_rfl)) ?_
        obtain rfl := Option.some.inj h
        refine WO_exk (σ' := [some (.lit 0 27 [.c (.int .i64 a0_0), .c (.int .i64 a0_1), .c (.int .i64 a0_2), .c (.int .i64 a0_3), .c (slC e28 a0_4), .c (slC e72 a0_5), .c (slC e65 a0_6), .c (slC e77 a0_7)]), some (.lit 0 30 [.c (slC e44 a1_0), .c (slC e28 a1_1)])]) (T' := [(2, .cell (.op 0 0 8 0 0)), (3, .cell (.op 1 0 2 0 0)), (24, .cell (.c (.bool true)))]) (Φ := True) 7 [2, 3, 24] (by kernel_rfl) trivial J
      · have h := cond_f hb gy3; clear gy3
        refine WO_ent (ent_bool (T' := [(17, .cell (.c (.bool false))), (2, .cell (.op 0 0 8 0 0)), (3, .cell (.op 1 0 2 0 0))]) 17 hb (by kernel_rfl) (by kernel_rfl)) ?_
        refine WO_exk (σ' := [some (.lit 0 27 [.c (.int .i64 a0_0), .c (.int .i64 a0_1), .c (.int .i64 a0_2), .c (.int .i64 a0_3), .c (slC e28 a0_4), .c (slC e72 a0_5), .c (slC e65 a0_6), .c (slC e77 a0_7)]), some (.lit 0 30 [.c (slC e44 a1_0), .c (slC e28 a1_1)])]) (T' := [(2, .cell (.op 0 0 8 0 0)), (3, .cell (.op 1 0 2 0 0)), (17, .cell (.c (.bool false))), (23, .cell (.c (.bool (!(decide ((a1_1.length : Int) = a0_2))))))]) (Φ := (True)) 6 [2, 3, 17, 23] (by kernel_rfl) trivial ?_
        obtain rfl := Option.some.inj h
        refine WO_exk (σ' := [some (.lit 0 27 [.c (.int .i64 a0_0), .c (.int .i64 a0_1), .c (.int .i64 a0_2), .c (.int .i64 a0_3), .c (slC e28 a0_4), .c (slC e72 a0_5), .c (slC e65 a0_6), .c (slC e77 a0_7)]), some (.lit 0 30 [.c (slC e44 a1_0), .c (slC e28 a1_1)])]) (T' := [(2, .cell (.op 0 0 8 0 0)), (3, .cell (.op 1 0 2 0 0)), (24, .cell (.c (.bool (!(decide ((a1_1.length : Int) = a0_2))))))]) (Φ := True) 1 [2, 3, 24] (by kernel_rfl) trivial J
  · intro J
    clear h
    rcases Bool.eq_false_or_eq_true (!r1) with hb | hb
    · have h := cond_t hb gy2; clear gy2
      refine WO_ent (ent_bool (T' := [(9, .cell (.c (.bool true))), (2, .cell (.op 0 0 8 0 0)), (3, .cell (.op 1 0 2 0 0))]) 9 hb (by kernel_rfl) (by kernel_rfl)) ?_
      obtain rfl := Option.some.inj h
      refine WO_exk (σ' := [some (.lit 0 27 [.c (.int .i64 a0_0), .c (.int .i64 a0_1), .c (.int .i64 a0_2), .c (.int .i64 a0_3), .c (slC e28 a0_4), .c (slC e72 a0_5), .c (slC e65 a0_6), .c (slC e77 a0_7)]), some (.lit 0 30 [.c (slC e44 a1_0), .c (slC e28 a1_1)])]) (T' := [(2, .cell (.op 0 0 8 0 0)), (3, .cell (.op 1 0 2 0 0)), (16, .cell (.c (.bool true)))]) (Φ := True) 7 [2, 3, 16] (by kernel_rfl) trivial J
    · have h := cond_f hb gy2; clear gy2
      refine WO_ent (ent_bool (T' := [(9, .cell (.c (.bool false))), (2, .cell (.op 0 0 8 0 0)), (3, .cell (.op 1 0 2 0 0))]) 9 hb (by kernel_rfl) (by kernel_rfl)) ?_
      refine WO_exk (σ' := [some (.lit 0 27 [.c (.int .i64 a0_0), .c (.int .i64 a0_1), .c (.int .i64 a0_2), .c (.int .i64 a0_3), .c (slC e28 a0_4), .c (slC e72 a0_5), .c (slC e65 a0_6), .c (slC e77 a0_7)]), some (.lit 0 30 [.c (slC e44 a1_0), .c (slC e28 a1_1)])]) (T' := [(2, .cell (.op 0 0 8 0 0)), (3, .cell (.op 1 0 2 0 0)), (9, .cell (.c (.bool false))), (15, .cell (.c (.bool (!(decide ((a1_0.length : Int) = a0_3))))))]) (Φ := (True)) 6 [2, 3, 9, 15] (by kernel_rfl) trivial ?_
      obtain rfl := Option.some.inj h
      refine WO_exk (σ' := [some (.lit 0 27 [.c (.int .i64 a0_0), .c (.int .i64 a0_1), .c (.int .i64 a0_2), .c (.int .i64 a0_3), .c (slC e28 a0_4), .c (slC e72 a0_5), .c (slC e65 a0_6), .c (slC e77 a0_7)]), some (.lit 0 30 [.c (slC e44 a1_0), .c (slC e28 a1_1)])]) (T' := [(2, .cell (.op 0 0 8 0 0)), (3, .cell (.op 1 0 2 0 0)), (16, .cell (.c (.bool (!(decide ((a1_0.length : Int) = a0_3))))))]) (Φ := True) 1 [2, 3, 16] (by kernel_rfl) trivial J

/- attestorref13.column -/
def s100_0 (L : LP) (a0 : (List (List Int))) (a1 : Int) (y2 : (Int × (List Int))) : Option ((Int × (List Int)) ⊕ (List Int)) :=
  (bif (decide (y2.1 < (a0.length : Int))) then
  (ck (0 ≤ y2.1 ∧ y2.1 < (a0.length : Int))).bind fun _ =>
  (ck (0 ≤ a1 ∧ a1 < ((a0.getD y2.1.toNat e28.d).length : Int))).bind fun _ =>
  (ck ((y2.2.length + [((a0.getD y2.1.toNat e28.d).getD a1.toNat e44.d)].length) * 8 ≤ 140737488355328 ∧ y2.2.length + [((a0.getD y2.1.toNat e28.d).getD a1.toNat e44.d)].length ≤ 140737488355328)).bind fun _ =>
  (ck (inR .i64 (y2.1 + (1 : Int)))).bind fun _ =>
  some (.inl ((y2.1 + (1 : Int)), (y2.2 ++ [((a0.getD y2.1.toNat e28.d).getD a1.toNat e44.d)])))
  else some (.inr y2.2))
def s100 (L : LP) (a0 : (List (List Int))) (a1 : Int) : Option (List Int) :=
  ((L.run (s100_0 L a0 a1) ((0 : Int), ([] : List Int))).bind (fun (v : (List Int)) => some v)).bind fun (y1 : (List Int)) =>
  some y1
theorem p100 (L : LP) (a0 : (List (List Int))) (a1 : Int) (r : (List Int)) (h : s100 L a0 a1 = some r) : Pure X 100 [.cell (.c (slC e28 a0)), .cell (.c (.int .i64 a1))] (.cell (.c (slC e44 r))) := by
  refine Pure_of_W (c := cd Tryd.f100 []) Tryd.func100 (by kernel_rfl) (N := 24) (by kernel_rfl) (Nat.le_of_ble_eq_true (by kernel_rfl)) ?_
  unfold s100 at h
  refine W_seq_at (by kernel_rfl) ?_
  refine W_region_at (by kernel_rfl) ?_
  refine WO_fin (σ' := []) (T' := [(0, .cell (.c (slC e28 a0))), (1, .cell (.c (.int .i64 a1)))]) (Φ := (True)) 1 [0, 1] (by kernel_rfl) trivial (by kernel_rfl) ?_
  refine thenQ_n ?_
  refine W_seq_at (by kernel_rfl) ?_
  refine W_region_at (by kernel_rfl) ?_
  refine WO_fin (σ' := []) (T' := [(0, .cell (.c (slC e28 a0))), (1, .cell (.c (.int .i64 a1))), (5, .cell (.c (.nsl)))]) (Φ := (True)) 1 [0, 1, 5] (by kernel_rfl) trivial (by kernel_rfl) ?_
  refine thenQ_n ?_
  obtain ⟨y1, gy1, ky1⟩ := bind_some h
  refine W_cut (by kernel_rfl) [some (rwB e44 0 44 y1)] [(5, .cell (.sl 0 0 y1.length))] ?_ ?_
  · have h := ky1; clear gy1 ky1
    refine W_seq_at (by kernel_rfl) ?_
    refine W_region_at (by kernel_rfl) ?_
    refine WO_fin (σ' := [some (rwB e44 0 44 y1)]) (T' := [(4, .cell (.sl 0 0 y1.length))]) (Φ := (True)) 2 [4] (by kernel_rfl) trivial (by kernel_rfl) ?_
    refine thenQ_n ?_
    refine W_ret_at (by kernel_rfl) ?_
    obtain rfl := Option.some.inj h
    exact qret [.cell (.sl 0 0 y1.length)] (by kernel_rfl) (by kernel_rfl) ([]) (by kernel_rfl)
  · have h := gy1; clear gy1 ky1
    refine W_seq_at (by kernel_rfl) ?_
    refine W_region_at (by kernel_rfl) ?_
    refine WO_fin (σ' := []) (T' := [(0, .cell (.c (slC e28 a0))), (1, .cell (.c (.int .i64 a1))), (5, .cell (.c (.nsl))), (6, .cell (.c (.int .i64 (0 : Int))))]) (Φ := (True)) 1 [0, 1, 5, 6] (by kernel_rfl) trivial (by kernel_rfl) ?_
    refine thenQ_n ?_
    refine W_block_at 0 (by kernel_rfl) (by kernel_rfl) ?_
    refine W_ent (σ' := [some (rwB e44 0 44 ([] : List Int))]) (T' := [(5, .cell (.sl 0 0 0)), (0, .cell (.c (slC e28 a0))), (1, .cell (.c (.int .i64 a1))), (6, .cell (.c (.int .i64 (0 : Int))))]) (stps_ok [.own 5 44 1 (fun i j => (e44.row (([] : List Int).getD i e44.d)).getD j .jk)] (by kernel_rfl)) ?_
    obtain ⟨b3, gb3, kb3⟩ := bind_some h
    refine W_loop_at (S := fun (y2 : (Int × (List Int))) => ([some (rwB e44 0 44 y2.2)], [(0, .cell (.c (slC e28 a0))), (1, .cell (.c (.int .i64 a1))), (5, .cell (.sl 0 0 y2.2.length)), (6, .cell (.c (.int .i64 y2.1)))])) (step := _) (x0 := ((0 : Int), ([] : List Int))) (b := b3) (L.ok _ _ _ gb3) (by kernel_rfl) (stps_ok [.keep [0, 1, 5, 6], .take 1, .ver0 0] (by kernel_rfl)) ?_
    clear gb3 h; intro y2 o h; unfold s100_0 at h
    refine W_seq_at (by kernel_rfl) ?_
    refine W_seq_at (by kernel_rfl) ?_
    refine W_region_at (by kernel_rfl) ?_
    refine WO_fin (σ' := [some (rwB e44 0 44 y2.2)]) (T' := [(0, .cell (.c (slC e28 a0))), (1, .cell (.c (.int .i64 a1))), (5, .cell (.sl 0 0 y2.2.length)), (6, .cell (.c (.int .i64 y2.1))), (10, .cell (.c (.bool (decide (y2.1 < (a0.length : Int))))))]) (Φ := (True)) 4 [0, 1, 5, 6, 10] (by kernel_rfl) trivial (by kernel_rfl) ?_
    refine thenQ_n ?_
    refine W_cond_at (b := (decide (y2.1 < (a0.length : Int)))) (by kernel_rfl) (fun hb => ?_) (fun hb => ?_)
    · have h := cond_t hb h
      refine W_skip_at (by kernel_rfl) ?_
      refine thenQ_n ?_
      refine W_seq_at (by kernel_rfl) ?_
      refine W_block_at 1 (by kernel_rfl) (by kernel_rfl) ?_
      refine W_region_at (by kernel_rfl) ?_
      obtain ⟨c4, h⟩ := ck_bind h
      obtain ⟨c5, h⟩ := ck_bind h
      refine WO_exk (σ' := [some (rwB e44 0 44 y2.2)]) (T' := [(0, .cell (.c (slC e28 a0))), (1, .cell (.c (.int .i64 a1))), (6, .cell (.c (.int .i64 y2.1))), (13, .cell (.sl 0 0 y2.2.length)), (20, .cell (.c (.int .u64 ((a0.getD y2.1.toNat e28.d).getD a1.toNat e44.d))))]) (Φ := (0 ≤ y2.1 ∧ y2.1 < (a0.length : Int)) ∧ (0 ≤ a1 ∧ a1 < ((a0.getD y2.1.toNat e28.d).length : Int)) ∧ (True)) 8 [0, 1, 6, 13, 20] (by kernel_rfl) ⟨c4, c5, trivial⟩ ?_
      refine WO_q1 (r := .cell (.c (rawC 1 1 [.int .u64 ((a0.getD y2.1.toNat e28.d).getD a1.toNat e44.d)]))) (r' := .cell (.c (slC e44 [((a0.getD y2.1.toNat e28.d).getD a1.toNat e44.d)]))) (d := some 21) (φ := True) (raw_weak e44 (xs := [((a0.getD y2.1.toNat e28.d).getD a1.toNat e44.d)]) rfl rfl (by kernel_rfl) (by kernel_rfl)) (by kernel_rfl) trivial ?_
      obtain ⟨c6, h⟩ := ck_bind h
      refine WO_app e44 y2.2 [((a0.getD y2.1.toNat e28.d).getD a1.toNat e44.d)] (b := 0) (ver := 0) (e := 44) (d := 22) (row2 := fun i j => (e44.row ([((a0.getD y2.1.toNat e28.d).getD a1.toNat e44.d)].getD i e44.d)).getD j .jk) (Φ := (0 = 0 ∧ (y2.2.length + [((a0.getD y2.1.toNat e28.d).getD a1.toNat e44.d)].length) * 8 ≤ 140737488355328 ∧ y2.2.length + [((a0.getD y2.1.toNat e28.d).getD a1.toNat e44.d)].length ≤ 140737488355328) ∧ True) (σ' := [some (rwB e44 1 44 (y2.2 ++ [((a0.getD y2.1.toNat e28.d).getD a1.toNat e44.d)]))]) (T' := [(22, .cell (.sl 0 1 ((y2.2 ++ [((a0.getD y2.1.toNat e28.d).getD a1.toNat e44.d)]).length))), (21, .cell (.c (slC e44 [((a0.getD y2.1.toNat e28.d).getD a1.toNat e44.d)]))), (0, .cell (.c (slC e28 a0))), (1, .cell (.c (.int .i64 a1))), (6, .cell (.c (.int .i64 y2.1))), (13, .cell (.sl 0 0 y2.2.length)), (20, .cell (.c (.int .u64 ((a0.getD y2.1.toNat e28.d).getD a1.toNat e44.d))))]) (by kernel_rfl) ⟨⟨rfl, c6⟩, trivial⟩ (Nat.le_of_ble_eq_true (by kernel_rfl)) (fun _ _ _ _ => rfl) (by kernel_rfl) (by kernel_rfl) ?_
      refine WO_fin (σ' := [some (rwB e44 1 44 (y2.2 ++ [((a0.getD y2.1.toNat e28.d).getD a1.toNat e44.d)]))]) (T' := [(0, .cell (.c (slC e28 a0))), (1, .cell (.c (.int .i64 a1))), (5, .cell (.sl 0 1 ((y2.2 ++ [((a0.getD y2.1.toNat e28.d).getD a1.toNat e44.d)]).length))), (6, .cell (.c (.int .i64 y2.1)))]) (Φ := (True)) 1 [0, 1, 5, 6] (by kernel_rfl) trivial (by kernel_rfl) ?_
      refine blockQ_n ?_
      refine thenQ_n ?_
      refine W_region_at (by kernel_rfl) ?_
      obtain ⟨c7, h⟩ := ck_bind h
      refine WO_fin (σ' := [some (rwB e44 1 44 (y2.2 ++ [((a0.getD y2.1.toNat e28.d).getD a1.toNat e44.d)]))]) (T' := [(0, .cell (.c (slC e28 a0))), (1, .cell (.c (.int .i64 a1))), (5, .cell (.sl 0 1 ((y2.2 ++ [((a0.getD y2.1.toNat e28.d).getD a1.toNat e44.d)]).length))), (6, .cell (.c (.int .i64 (y2.1 + (1 : Int)))))]) (Φ := (inR .i64 (y2.1 + (1 : Int))) ∧ (True)) 3 [0, 1, 5, 6] (by kernel_rfl) ⟨c7, trivial⟩ (by kernel_rfl) ?_
      obtain rfl := Option.some.inj h
      exact round_n _ rfl (stps_ok [.keep [0, 1, 5, 6], .take 1, .ver0 0] (by kernel_rfl))
    · have h := cond_f hb h
      refine W_exit_at 0 (by kernel_rfl) (by kernel_rfl) ?_
      refine thenQ_e ?_
      obtain rfl := Option.some.inj h; refine round_e rfl (fun hb => ?_); subst hb; have h := kb3
      refine blockQ_hit ?_
      obtain rfl := Option.some.inj h
      exact thenQ_n (stps_ok [.keep [5], .take 1, .ver0 0] (by kernel_rfl))

/- attestorref13.At -/
def s47 (L : LP) (a0_0 : Int) (a0_1 : Int) (a0_2 : Int) (a0_3 : Int) (a0_4 : (List (List Int))) (a0_5 : (List (Int × (List (Int × (List (Int × Int))))))) (a0_6 : (List ((List (List (Int × Int))) × (List (List (Int × Int)))))) (a0_7 : (List ((List (Int × Int)) × (List (Int × Int)) × Int × Int))) (a1_0 : (List Int)) (a1_1 : (List (List Int))) (a2 : Int) : Option ((List Int) × (List Int) × (List Int) × (List Int) × (List Int) × (List Int) × (List Int)) :=
  (ck ((([] : List Int).length + a1_0.length) * 8 ≤ 140737488355328 ∧ ([] : List Int).length + a1_0.length ≤ 140737488355328)).bind fun _ =>
  (s100 L a1_1 a2).bind fun r2 =>
  (ck (inR .i64 (a2 + (1 : Int)))).bind fun _ =>
  (s28 L a0_0 a0_1 a0_2 a0_3 a0_4 a0_5 a0_6 a0_7).bind fun r4 =>
  (ck (0 ≤ (a2 + (1 : Int)) ∧ 0 < r4)).bind fun _ =>
  (s100 L a1_1 ((a2 + (1 : Int)) % r4)).bind fun r6 =>
  (s100 L a0_4 a2).bind fun r7 =>
  some (r2, r6, r7, (([] : List Int) ++ a1_0), [], [], [])
theorem p47 (L : LP) (a0_0 : Int) (a0_1 : Int) (a0_2 : Int) (a0_3 : Int) (a0_4 : (List (List Int))) (a0_5 : (List (Int × (List (Int × (List (Int × Int))))))) (a0_6 : (List ((List (List (Int × Int))) × (List (List (Int × Int)))))) (a0_7 : (List ((List (Int × Int)) × (List (Int × Int)) × Int × Int))) (a1_0 : (List Int)) (a1_1 : (List (List Int))) (a2 : Int) (r : ((List Int) × (List Int) × (List Int) × (List Int) × (List Int) × (List Int) × (List Int))) (h : s47 L a0_0 a0_1 a0_2 a0_3 a0_4 a0_5 a0_6 a0_7 a1_0 a1_1 a2 = some r) : Pure X 47 [.agg [.c (.int .i64 a0_0), .c (.int .i64 a0_1), .c (.int .i64 a0_2), .c (.int .i64 a0_3), .c (slC e28 a0_4), .c (slC e72 a0_5), .c (slC e65 a0_6), .c (slC e77 a0_7)], .agg [.c (slC e44 a1_0), .c (slC e28 a1_1)], .cell (.c (.int .i64 a2))] (.agg [.c (slC e44 r.1), .c (slC e44 r.2.1), .c (slC e44 r.2.2.1), .c (slC e44 r.2.2.2.1), .c (slC e44 r.2.2.2.2.1), .c (slC e44 r.2.2.2.2.2.1), .c (slC e44 r.2.2.2.2.2.2)]) := by
  refine Pure_of_W (c := cd Tryd.f47 []) Tryd.func47 (by kernel_rfl) (N := 30) (by kernel_rfl) (Nat.le_of_ble_eq_true (by kernel_rfl)) ?_
  unfold s47 at h
  refine W_seq_at (by kernel_rfl) ?_
  refine W_region_at (by kernel_rfl) ?_
  refine WO_fin (σ' := [some (.lit 0 27 [.c (.int .i64 a0_0), .c (.int .i64 a0_1), .c (.int .i64 a0_2), .c (.int .i64 a0_3), .c (slC e28 a0_4), .c (slC e72 a0_5), .c (slC e65 a0_6), .c (slC e77 a0_7)]), some (.lit 0 30 [.c (slC e44 a1_0), .c (slC e28 a1_1)]), some (.lit 0 35 [.c (.nsl), .c (.nsl), .c (.nsl), .c (.nsl), .c (.nsl), .c (.nsl), .c (.nsl)])]) (T' := [(2, .cell (.c (.int .i64 a2))), (3, .cell (.op 0 0 8 0 0)), (4, .cell (.op 1 0 2 0 0)), (6, .cell (.op 2 0 7 0 0))]) (Φ := (True)) 3 [2, 3, 4, 6] (by kernel_rfl) trivial (by kernel_rfl) ?_
  refine thenQ_n ?_
  refine W_seq_at (by kernel_rfl) ?_
  refine W_region_at (by kernel_rfl) ?_
  refine WO_fin (σ' := [some (.lit 0 27 [.c (.int .i64 a0_0), .c (.int .i64 a0_1), .c (.int .i64 a0_2), .c (.int .i64 a0_3), .c (slC e28 a0_4), .c (slC e72 a0_5), .c (slC e65 a0_6), .c (slC e77 a0_7)]), some (.lit 0 30 [.c (slC e44 a1_0), .c (slC e28 a1_1)]), some (.lit 0 35 [.c (.nsl), .c (.nsl), .c (.nsl), .c (.nsl), .c (.nsl), .c (.nsl), .c (.nsl)])]) (T' := [(2, .cell (.c (.int .i64 a2))), (3, .cell (.op 0 0 8 0 0)), (4, .cell (.op 1 0 2 0 0)), (6, .cell (.op 2 0 7 0 0)), (7, .cell (.c (.nsl)))]) (Φ := (True)) 1 [2, 3, 4, 6, 7] (by kernel_rfl) trivial (by kernel_rfl) ?_
  refine thenQ_n ?_
  refine W_seq_at (by kernel_rfl) ?_
  refine W_region_at (by kernel_rfl) ?_
  refine WO_exk (σ' := [some (.lit 0 27 [.c (.int .i64 a0_0), .c (.int .i64 a0_1), .c (.int .i64 a0_2), .c (.int .i64 a0_3), .c (slC e28 a0_4), .c (slC e72 a0_5), .c (slC e65 a0_6), .c (slC e77 a0_7)]), some (.lit 0 30 [.c (slC e44 a1_0), .c (slC e28 a1_1)]), some (.lit 0 35 [.c (.nsl), .c (.nsl), .c (.nsl), .c (.nsl), .c (.nsl), .c (.nsl), .c (.nsl)])]) (T' := [(2, .cell (.c (.int .i64 a2))), (3, .cell (.op 0 0 8 0 0)), (4, .cell (.op 1 0 2 0 0)), (6, .cell (.op 2 0 7 0 0)), (8, .cell (.c (.nsl))), (10, .cell (.c (slC e44 a1_0)))]) (Φ := (True)) 3 [2, 3, 4, 6, 8, 10] (by kernel_rfl) trivial ?_
  refine WO_ent (σ' := [some (.lit 0 27 [.c (.int .i64 a0_0), .c (.int .i64 a0_1), .c (.int .i64 a0_2), .c (.int .i64 a0_3), .c (slC e28 a0_4), .c (slC e72 a0_5), .c (slC e65 a0_6), .c (slC e77 a0_7)]), some (.lit 0 30 [.c (slC e44 a1_0), .c (slC e28 a1_1)]), some (.lit 0 35 [.c (.nsl), .c (.nsl), .c (.nsl), .c (.nsl), .c (.nsl), .c (.nsl), .c (.nsl)]), some (rwB e44 0 44 ([] : List Int))]) (T' := [(8, .cell (.sl 3 0 0)), (2, .cell (.c (.int .i64 a2))), (3, .cell (.op 0 0 8 0 0)), (4, .cell (.op 1 0 2 0 0)), (6, .cell (.op 2 0 7 0 0)), (10, .cell (.c (slC e44 a1_0)))]) (stps_ok [.own 8 44 1 (fun i j => (e44.row (([] : List Int).getD i e44.d)).getD j .jk)] (by kernel_rfl)) ?_
  obtain ⟨c1, h⟩ := ck_bind h
  refine WO_app e44 ([] : List Int) a1_0 (b := 3) (ver := 0) (e := 44) (d := 11) (row2 := fun i j => (e44.row (a1_0.getD i e44.d)).getD j .jk) (Φ := (0 = 0 ∧ (([] : List Int).length + a1_0.length) * 8 ≤ 140737488355328 ∧ ([] : List Int).length + a1_0.length ≤ 140737488355328) ∧ True) (σ' := [some (.lit 0 27 [.c (.int .i64 a0_0), .c (.int .i64 a0_1), .c (.int .i64 a0_2), .c (.int .i64 a0_3), .c (slC e28 a0_4), .c (slC e72 a0_5), .c (slC e65 a0_6), .c (slC e77 a0_7)]), some (.lit 0 30 [.c (slC e44 a1_0), .c (slC e28 a1_1)]), some (.lit 0 35 [.c (.nsl), .c (.nsl), .c (.nsl), .c (.nsl), .c (.nsl), .c (.nsl), .c (.nsl)]), some (rwB e44 1 44 (([] : List Int) ++ a1_0))]) (T' := [(11, .cell (.sl 3 1 ((([] : List Int) ++ a1_0).length))), (8, .cell (.sl 3 0 0)), (2, .cell (.c (.int .i64 a2))), (3, .cell (.op 0 0 8 0 0)), (4, .cell (.op 1 0 2 0 0)), (6, .cell (.op 2 0 7 0 0)), (10, .cell (.c (slC e44 a1_0)))]) (by kernel_rfl) ⟨⟨rfl, c1⟩, trivial⟩ (Nat.le_of_ble_eq_true (by kernel_rfl)) (fun _ _ _ _ => rfl) (by kernel_rfl) (by kernel_rfl) ?_
  refine WO_fin (σ' := [some (.lit 0 27 [.c (.int .i64 a0_0), .c (.int .i64 a0_1), .c (.int .i64 a0_2), .c (.int .i64 a0_3), .c (slC e28 a0_4), .c (slC e72 a0_5), .c (slC e65 a0_6), .c (slC e77 a0_7)]), some (.lit 0 30 [.c (slC e44 a1_0), .c (slC e28 a1_1)]), some (.lit 0 35 [.c (.nsl), .c (.nsl), .c (.nsl), .c (.nsl), .c (.nsl), .c (.nsl), .c (.nsl)]), some (rwB e44 1 44 (([] : List Int) ++ a1_0))]) (T' := [(2, .cell (.c (.int .i64 a2))), (3, .cell (.op 0 0 8 0 0)), (4, .cell (.op 1 0 2 0 0)), (6, .cell (.op 2 0 7 0 0)), (7, .cell (.sl 3 1 ((([] : List Int) ++ a1_0).length)))]) (Φ := (True)) 1 [2, 3, 4, 6, 7] (by kernel_rfl) trivial (by kernel_rfl) ?_
  refine thenQ_n ?_
  refine W_seq_at (by kernel_rfl) ?_
  refine W_drawK 17 (by kernel_rfl) mixed (by kernel_rfl) ?_
  refine WQ_exk (n' := 14) (T' := [(2, .cell (.c (.int .i64 a2))), (3, .cell (.op 0 0 8 0 0)), (4, .cell (.op 1 0 2 0 0)), (6, .cell (.op 2 0 7 0 0)), (7, .cell (.sl 3 1 ((([] : List Int) ++ a1_0).length))), (13, .cell (.c (slC e28 a1_1))), (14, .cell (.c (.int .i64 a2)))]) (Φ := (True)) 3 [2, 3, 4, 6, 7, 13, 14] (by kernel_rfl) trivial ?_
  obtain ⟨r2, gr2, h⟩ := bind_some h
  refine WQ_call (f := 100) (all := [.cell (.c (slC e28 a1_1)), .cell (.c (.int .i64 a2))]) (d := some 15) (r := .cell (.c (slC e44 r2))) (by kernel_rfl) (by kernel_rfl) (by kernel_rfl) Tryd.call100 (p100 L _ _ _ gr2) ?_
  obtain ⟨c3, h⟩ := ck_bind h
  refine WQ_exk (n' := 8) (T' := [(2, .cell (.c (.int .i64 a2))), (3, .cell (.op 0 0 8 0 0)), (6, .cell (.op 2 0 7 0 0)), (7, .cell (.sl 3 1 ((([] : List Int) ++ a1_0).length))), (15, .cell (.c (slC e44 r2))), (17, .cell (.c (slC e28 a1_1))), (19, .cell (.c (.int .i64 (a2 + (1 : Int))))), (20, .agg [.c (.int .i64 a0_0), .c (.int .i64 a0_1), .c (.int .i64 a0_2), .c (.int .i64 a0_3), .c (slC e28 a0_4), .c (slC e72 a0_5), .c (slC e65 a0_6), .c (slC e77 a0_7)])]) (Φ := (inR .i64 (a2 + (1 : Int))) ∧ (True)) 5 [2, 3, 6, 7, 15, 17, 19, 20] (by kernel_rfl) ⟨c3, trivial⟩ ?_
  obtain ⟨r4, gr4, h⟩ := bind_some h
  refine WQ_call (f := 28) (all := [.agg [.c (.int .i64 a0_0), .c (.int .i64 a0_1), .c (.int .i64 a0_2), .c (.int .i64 a0_3), .c (slC e28 a0_4), .c (slC e72 a0_5), .c (slC e65 a0_6), .c (slC e77 a0_7)]]) (d := some 21) (r := .cell (.c (.int .i64 r4))) (by kernel_rfl) (by kernel_rfl) (by kernel_rfl) Tryd.call28 (p28 L _ _ _ _ _ _ _ _ _ gr4) ?_
  obtain ⟨c5, h⟩ := ck_bind h
  refine WQ_exk (n' := 6) (T' := [(2, .cell (.c (.int .i64 a2))), (3, .cell (.op 0 0 8 0 0)), (6, .cell (.op 2 0 7 0 0)), (7, .cell (.sl 3 1 ((([] : List Int) ++ a1_0).length))), (15, .cell (.c (slC e44 r2))), (17, .cell (.c (slC e28 a1_1))), (22, .cell (.c (.int .i64 ((a2 + (1 : Int)) % r4))))]) (Φ := (0 ≤ (a2 + (1 : Int)) ∧ 0 < r4) ∧ (True)) 1 [2, 3, 6, 7, 15, 17, 22] (by kernel_rfl) ⟨c5, trivial⟩ ?_
  obtain ⟨r6, gr6, h⟩ := bind_some h
  refine WQ_call (f := 100) (all := [.cell (.c (slC e28 a1_1)), .cell (.c (.int .i64 ((a2 + (1 : Int)) % r4)))]) (d := some 23) (r := .cell (.c (slC e44 r6))) (by kernel_rfl) (by kernel_rfl) (by kernel_rfl) Tryd.call100 (p100 L _ _ _ gr6) ?_
  refine WQ_exk (n' := 2) (T' := [(6, .cell (.op 2 0 7 0 0)), (7, .cell (.sl 3 1 ((([] : List Int) ++ a1_0).length))), (15, .cell (.c (slC e44 r2))), (23, .cell (.c (slC e44 r6))), (25, .cell (.c (slC e28 a0_4))), (26, .cell (.c (.int .i64 a2)))]) (Φ := (True)) 3 [6, 7, 15, 23, 25, 26] (by kernel_rfl) trivial ?_
  obtain ⟨r7, gr7, h⟩ := bind_some h
  refine WQ_call (f := 100) (all := [.cell (.c (slC e28 a0_4)), .cell (.c (.int .i64 a2))]) (d := some 27) (r := .cell (.c (slC e44 r7))) (by kernel_rfl) (by kernel_rfl) (by kernel_rfl) Tryd.call100 (p100 L _ _ _ gr7) ?_
  refine WQ_exk (n' := 0) (T' := [(6, .cell (.op 2 0 7 0 0)), (15, .cell (.c (slC e44 r2))), (23, .cell (.c (slC e44 r6))), (27, .cell (.c (slC e44 r7))), (28, .cell (.sl 3 1 ((([] : List Int) ++ a1_0).length)))]) (Φ := (True)) 1 [6, 15, 23, 27, 28] (by kernel_rfl) trivial ?_
  refine WQ_done ?_
  refine WO_fin (σ' := [some (.lit 0 27 [.c (.int .i64 a0_0), .c (.int .i64 a0_1), .c (.int .i64 a0_2), .c (.int .i64 a0_3), .c (slC e28 a0_4), .c (slC e72 a0_5), .c (slC e65 a0_6), .c (slC e77 a0_7)]), some (.lit 0 30 [.c (slC e44 a1_0), .c (slC e28 a1_1)]), some (.lit 0 35 [.c (slC e44 r2), .c (slC e44 r6), .c (slC e44 r7), .sl 3 1 ((([] : List Int) ++ a1_0).length), .c (.nsl), .c (.nsl), .c (.nsl)]), some (rwB e44 1 44 (([] : List Int) ++ a1_0))]) (T' := [(6, .cell (.op 2 0 7 0 0))]) (Φ := (True)) 2 [6] (by kernel_rfl) trivial (by kernel_rfl) ?_
  refine thenQ_n ?_
  refine W_ret_at (by kernel_rfl) ?_
  obtain rfl := Option.some.inj h
  exact qret [.agg [.c (slC e44 r2), .c (slC e44 r6), .c (slC e44 r7), .sl 3 1 ((([] : List Int) ++ a1_0).length), .c (.nsl), .c (.nsl), .c (.nsl)]] (by kernel_rfl) (by kernel_rfl) ([.agg [.no, .no, .no, .no, .sl 1 (fun i j => (e44.row (([] : List Int).getD i e44.d)).getD j .jk), .sl 1 (fun i j => (e44.row (([] : List Int).getD i e44.d)).getD j .jk), .sl 1 (fun i j => (e44.row (([] : List Int).getD i e44.d)).getD j .jk)]]) (by kernel_rfl)

/- attestorref13.Env -/
def s13 (L : LP) (a0_0 : Int) (a0_1 : Int) (a0_2 : Int) (a0_3 : Int) (a0_4 : (List (List Int))) (a0_5 : (List (Int × (List (Int × (List (Int × Int))))))) (a0_6 : (List ((List (List (Int × Int))) × (List (List (Int × Int)))))) (a0_7 : (List ((List (Int × Int)) × (List (Int × Int)) × Int × Int))) (a1_0 : (List Int)) (a1_1 : (List (List Int))) (a2 : Int) : Option ((List Int) × (List Int) × (List Int) × (List Int) × (List Int) × (List Int) × (List Int) × Int) :=
  (s23 L a0_0 a0_1 a0_2 a0_3 a0_4 a0_5 a0_6 a0_7 a1_0 a1_1).bind fun r1 =>
  (bif (!r1) then
  some ([], [], [], [], [], [], [], (1 : Int))
  else (bif (decide (a2 < (0 : Int))) then some true
  else (s28 L a0_0 a0_1 a0_2 a0_3 a0_4 a0_5 a0_6 a0_7).bind fun r4 =>
  some (decide (a2 ≥ r4))).bind fun y2 =>
  (bif y2 then
  some ([], [], [], [], [], [], [], (2 : Int))
  else (s47 L a0_0 a0_1 a0_2 a0_3 a0_4 a0_5 a0_6 a0_7 a1_0 a1_1 a2).bind fun r3 =>
  some (r3.1, r3.2.1, r3.2.2.1, r3.2.2.2.1, r3.2.2.2.2.1, r3.2.2.2.2.2.1, r3.2.2.2.2.2.2, (0 : Int))))
theorem p13 (L : LP) (a0_0 : Int) (a0_1 : Int) (a0_2 : Int) (a0_3 : Int) (a0_4 : (List (List Int))) (a0_5 : (List (Int × (List (Int × (List (Int × Int))))))) (a0_6 : (List ((List (List (Int × Int))) × (List (List (Int × Int)))))) (a0_7 : (List ((List (Int × Int)) × (List (Int × Int)) × Int × Int))) (a1_0 : (List Int)) (a1_1 : (List (List Int))) (a2 : Int) (r : ((List Int) × (List Int) × (List Int) × (List Int) × (List Int) × (List Int) × (List Int) × Int)) (h : s13 L a0_0 a0_1 a0_2 a0_3 a0_4 a0_5 a0_6 a0_7 a1_0 a1_1 a2 = some r) : Pure X 13 [.agg [.c (.int .i64 a0_0), .c (.int .i64 a0_1), .c (.int .i64 a0_2), .c (.int .i64 a0_3), .c (slC e28 a0_4), .c (slC e72 a0_5), .c (slC e65 a0_6), .c (slC e77 a0_7)], .agg [.c (slC e44 a1_0), .c (slC e28 a1_1)], .cell (.c (.int .i64 a2))] (tupV [.agg [.c (slC e44 r.1), .c (slC e44 r.2.1), .c (slC e44 r.2.2.1), .c (slC e44 r.2.2.2.1), .c (slC e44 r.2.2.2.2.1), .c (slC e44 r.2.2.2.2.2.1), .c (slC e44 r.2.2.2.2.2.2.1)], .cell (.c (.int .i64 r.2.2.2.2.2.2.2))]) := by
  refine Pure_of_W (c := cd Tryd.f13 []) Tryd.func13 (by kernel_rfl) (N := 26) (by kernel_rfl) (Nat.le_of_ble_eq_true (by kernel_rfl)) ?_
  unfold s13 at h
  refine W_seq_at (by kernel_rfl) ?_
  refine W_region_at (by kernel_rfl) ?_
  refine WO_fin (σ' := [some (.lit 0 27 [.c (.int .i64 a0_0), .c (.int .i64 a0_1), .c (.int .i64 a0_2), .c (.int .i64 a0_3), .c (slC e28 a0_4), .c (slC e72 a0_5), .c (slC e65 a0_6), .c (slC e77 a0_7)]), some (.lit 0 30 [.c (slC e44 a1_0), .c (slC e28 a1_1)]), some (.lit 0 35 [.c (.nsl), .c (.nsl), .c (.nsl), .c (.nsl), .c (.nsl), .c (.nsl), .c (.nsl)])]) (T' := [(2, .cell (.c (.int .i64 a2))), (3, .cell (.op 0 0 8 0 0)), (4, .cell (.op 1 0 2 0 0)), (6, .cell (.op 2 0 7 0 0))]) (Φ := (True)) 4 [2, 3, 4, 6] (by kernel_rfl) trivial (by kernel_rfl) ?_
  refine thenQ_n ?_
  refine W_seq_at (by kernel_rfl) ?_
  refine W_seq_at (by kernel_rfl) ?_
  refine W_region_at (by kernel_rfl) ?_
  refine WO_exk (σ' := [some (.lit 0 27 [.c (.int .i64 a0_0), .c (.int .i64 a0_1), .c (.int .i64 a0_2), .c (.int .i64 a0_3), .c (slC e28 a0_4), .c (slC e72 a0_5), .c (slC e65 a0_6), .c (slC e77 a0_7)]), some (.lit 0 30 [.c (slC e44 a1_0), .c (slC e28 a1_1)]), some (.lit 0 35 [.c (.nsl), .c (.nsl), .c (.nsl), .c (.nsl), .c (.nsl), .c (.nsl), .c (.nsl)])]) (T' := [(2, .cell (.c (.int .i64 a2))), (3, .cell (.op 0 0 8 0 0)), (4, .cell (.op 1 0 2 0 0)), (6, .cell (.op 2 0 7 0 0)), (8, .agg [.c (.int .i64 a0_0), .c (.int .i64 a0_1), .c (.int .i64 a0_2), .c (.int .i64 a0_3), .c (slC e28 a0_4), .c (slC e72 a0_5), .c (slC e65 a0_6), .c (slC e77 a0_7)]), (9, .agg [.c (slC e44 a1_0), .c (slC e28 a1_1)])]) (Φ := (True)) 2 [2, 3, 4, 6, 8, 9] (by kernel_rfl) trivial ?_
  obtain ⟨r1, gr1, h⟩ := bind_some h
  refine WO_call (f := 23) (all := [.agg [.c (.int .i64 a0_0), .c (.int .i64 a0_1), .c (.int .i64 a0_2), .c (.int .i64 a0_3), .c (slC e28 a0_4), .c (slC e72 a0_5), .c (slC e65 a0_6), .c (slC e77 a0_7)], .agg [.c (slC e44 a1_0), .c (slC e28 a1_1)]]) (d := some 10) (r := .cell (.c (.bool r1))) (by kernel_rfl) (by kernel_rfl) (by kernel_rfl) Tryd.call23 (p23 L _ _ _ _ _ _ _ _ _ _ _ gr1) ?_
  refine WO_fin (σ' := [some (.lit 0 27 [.c (.int .i64 a0_0), .c (.int .i64 a0_1), .c (.int .i64 a0_2), .c (.int .i64 a0_3), .c (slC e28 a0_4), .c (slC e72 a0_5), .c (slC e65 a0_6), .c (slC e77 a0_7)]), some (.lit 0 30 [.c (slC e44 a1_0), .c (slC e28 a1_1)]), some (.lit 0 35 [.c (.nsl), .c (.nsl), .c (.nsl), .c (.nsl), .c (.nsl), .c (.nsl), .c (.nsl)])]) (T' := [(2, .cell (.c (.int .i64 a2))), (3, .cell (.op 0 0 8 0 0)), (4, .cell (.op 1 0 2 0 0)), (6, .cell (.op 2 0 7 0 0)), (11, .cell (.c (.bool (!r1))))]) (Φ := (True)) 1 [2, 3, 4, 6, 11] (by kernel_rfl) trivial (by kernel_rfl) ?_
  refine thenQ_n ?_
  refine W_cond_at (b := (!r1)) (by kernel_rfl) (fun hb => ?_) (fun hb => ?_)
  · have h := cond_t hb h
    refine W_seq_at (by kernel_rfl) ?_
    refine W_region_at (by kernel_rfl) ?_
    refine WO_fin (σ' := [some (.lit 0 27 [.c (.int .i64 a0_0), .c (.int .i64 a0_1), .c (.int .i64 a0_2), .c (.int .i64 a0_3), .c (slC e28 a0_4), .c (slC e72 a0_5), .c (slC e65 a0_6), .c (slC e77 a0_7)]), some (.lit 0 30 [.c (slC e44 a1_0), .c (slC e28 a1_1)]), some (.lit 0 35 [.c (.nsl), .c (.nsl), .c (.nsl), .c (.nsl), .c (.nsl), .c (.nsl), .c (.nsl)])]) (T' := [(6, .cell (.op 2 0 7 0 0)), (7, .cell (.c (.int .i64 (1 : Int))))]) (Φ := (True)) 3 [6, 7] (by kernel_rfl) trivial (by kernel_rfl) ?_
    refine thenQ_n ?_
    refine W_ret_at (by kernel_rfl) ?_
    refine thenQ_r ?_
    obtain rfl := Option.some.inj h
    exact qret [.agg [.c (.nsl), .c (.nsl), .c (.nsl), .c (.nsl), .c (.nsl), .c (.nsl), .c (.nsl)], .cell (.c (.int .i64 (1 : Int)))] (by kernel_rfl) (by kernel_rfl) ([.agg [.sl 1 (fun i j => (e44.row (([] : List Int).getD i e44.d)).getD j .jk), .sl 1 (fun i j => (e44.row (([] : List Int).getD i e44.d)).getD j .jk), .sl 1 (fun i j => (e44.row (([] : List Int).getD i e44.d)).getD j .jk), .sl 1 (fun i j => (e44.row (([] : List Int).getD i e44.d)).getD j .jk), .sl 1 (fun i j => (e44.row (([] : List Int).getD i e44.d)).getD j .jk), .sl 1 (fun i j => (e44.row (([] : List Int).getD i e44.d)).getD j .jk), .sl 1 (fun i j => (e44.row (([] : List Int).getD i e44.d)).getD j .jk)], .no]) (by kernel_rfl)
  · have h := cond_f hb h
    refine W_skip_at (by kernel_rfl) ?_
    refine thenQ_n ?_
    refine W_seq_at (by kernel_rfl) ?_
    refine W_seq_at (by kernel_rfl) ?_
    refine W_region_at (by kernel_rfl) ?_
    refine WO_exk (σ' := [some (.lit 0 27 [.c (.int .i64 a0_0), .c (.int .i64 a0_1), .c (.int .i64 a0_2), .c (.int .i64 a0_3), .c (slC e28 a0_4), .c (slC e72 a0_5), .c (slC e65 a0_6), .c (slC e77 a0_7)]), some (.lit 0 30 [.c (slC e44 a1_0), .c (slC e28 a1_1)]), some (.lit 0 35 [.c (.nsl), .c (.nsl), .c (.nsl), .c (.nsl), .c (.nsl), .c (.nsl), .c (.nsl)])]) (T' := [(2, .cell (.c (.int .i64 a2))), (3, .cell (.op 0 0 8 0 0)), (4, .cell (.op 1 0 2 0 0)), (6, .cell (.op 2 0 7 0 0)), (15, .cell (.c (.bool (decide (a2 < (0 : Int))))))]) (Φ := (True)) 3 [2, 3, 4, 6, 15] (by kernel_rfl) trivial ?_
    obtain ⟨y2, gy2, h⟩ := bind_some h
    refine WO_join 8 [some (.lit 0 27 [.c (.int .i64 a0_0), .c (.int .i64 a0_1), .c (.int .i64 a0_2), .c (.int .i64 a0_3), .c (slC e28 a0_4), .c (slC e72 a0_5), .c (slC e65 a0_6), .c (slC e77 a0_7)]), some (.lit 0 30 [.c (slC e44 a1_0), .c (slC e28 a1_1)]), some (.lit 0 35 [.c (.nsl), .c (.nsl), .c (.nsl), .c (.nsl), .c (.nsl), .c (.nsl), .c (.nsl)])] [(2, .cell (.c (.int .i64 a2))), (3, .cell (.op 0 0 8 0 0)), (4, .cell (.op 1 0 2 0 0)), (6, .cell (.op 2 0 7 0 0)), (20, .cell (.c (.bool y2)))] ?_ ?_
    · clear gy2
      refine WO_fin (σ' := [some (.lit 0 27 [.c (.int .i64 a0_0), .c (.int .i64 a0_1), .c (.int .i64 a0_2), .c (.int .i64 a0_3), .c (slC e28 a0_4), .c (slC e72 a0_5), .c (slC e65 a0_6), .c (slC e77 a0_7)]), some (.lit 0 30 [.c (slC e44 a1_0), .c (slC e28 a1_1)]), some (.lit 0 35 [.c (.nsl), .c (.nsl), .c (.nsl), .c (.nsl), .c (.nsl), .c (.nsl), .c (.nsl)])]) (T' := [(2, .cell (.c (.int .i64 a2))), (3, .cell (.op 0 0 8 0 0)), (4, .cell (.op 1 0 2 0 0)), (6, .cell (.op 2 0 7 0 0)), (20, .cell (.c (.bool y2)))]) (Φ := True) 0 [2, 3, 4, 6, 20] (by kernel_rfl) trivial (by kernel_rfl) ?_
      refine thenQ_n ?_
      refine W_cond_at (b := y2) (by kernel_rfl) (fun hb => ?_) (fun hb => ?_)
      · have h := cond_t hb h
        refine W_seq_at (by kernel_rfl) ?_
        refine W_region_at (by kernel_rfl) ?_
        refine WO_fin (σ' := [some (.lit 0 27 [.c (.int .i64 a0_0), .c (.int .i64 a0_1), .c (.int .i64 a0_2), .c (.int .i64 a0_3), .c (slC e28 a0_4), .c (slC e72 a0_5), .c (slC e65 a0_6), .c (slC e77 a0_7)]), some (.lit 0 30 [.c (slC e44 a1_0), .c (slC e28 a1_1)]), some (.lit 0 35 [.c (.nsl), .c (.nsl), .c (.nsl), .c (.nsl), .c (.nsl), .c (.nsl), .c (.nsl)])]) (T' := [(6, .cell (.op 2 0 7 0 0)), (7, .cell (.c (.int .i64 (2 : Int))))]) (Φ := (True)) 3 [6, 7] (by kernel_rfl) trivial (by kernel_rfl) ?_
        refine thenQ_n ?_
        refine W_ret_at (by kernel_rfl) ?_
        refine thenQ_r ?_
        obtain rfl := Option.some.inj h
        exact qret [.agg [.c (.nsl), .c (.nsl), .c (.nsl), .c (.nsl), .c (.nsl), .c (.nsl), .c (.nsl)], .cell (.c (.int .i64 (2 : Int)))] (by kernel_rfl) (by kernel_rfl) ([.agg [.sl 1 (fun i j => (e44.row (([] : List Int).getD i e44.d)).getD j .jk), .sl 1 (fun i j => (e44.row (([] : List Int).getD i e44.d)).getD j .jk), .sl 1 (fun i j => (e44.row (([] : List Int).getD i e44.d)).getD j .jk), .sl 1 (fun i j => (e44.row (([] : List Int).getD i e44.d)).getD j .jk), .sl 1 (fun i j => (e44.row (([] : List Int).getD i e44.d)).getD j .jk), .sl 1 (fun i j => (e44.row (([] : List Int).getD i e44.d)).getD j .jk), .sl 1 (fun i j => (e44.row (([] : List Int).getD i e44.d)).getD j .jk)], .no]) (by kernel_rfl)
      · have h := cond_f hb h
        refine W_skip_at (by kernel_rfl) ?_
        refine thenQ_n ?_
        refine W_seq_at (by kernel_rfl) ?_
        refine W_region_at (by kernel_rfl) ?_
        refine WO_exk (σ' := [some (.lit 0 27 [.c (.int .i64 a0_0), .c (.int .i64 a0_1), .c (.int .i64 a0_2), .c (.int .i64 a0_3), .c (slC e28 a0_4), .c (slC e72 a0_5), .c (slC e65 a0_6), .c (slC e77 a0_7)]), some (.lit 0 30 [.c (slC e44 a1_0), .c (slC e28 a1_1)]), some (.lit 0 35 [.c (.nsl), .c (.nsl), .c (.nsl), .c (.nsl), .c (.nsl), .c (.nsl), .c (.nsl)])]) (T' := [(6, .cell (.op 2 0 7 0 0)), (22, .agg [.c (.int .i64 a0_0), .c (.int .i64 a0_1), .c (.int .i64 a0_2), .c (.int .i64 a0_3), .c (slC e28 a0_4), .c (slC e72 a0_5), .c (slC e65 a0_6), .c (slC e77 a0_7)]), (23, .agg [.c (slC e44 a1_0), .c (slC e28 a1_1)]), (24, .cell (.c (.int .i64 a2)))]) (Φ := (True)) 3 [6, 22, 23, 24] (by kernel_rfl) trivial ?_
        obtain ⟨r3, gr3, h⟩ := bind_some h
        refine WO_call (f := 47) (all := [.agg [.c (.int .i64 a0_0), .c (.int .i64 a0_1), .c (.int .i64 a0_2), .c (.int .i64 a0_3), .c (slC e28 a0_4), .c (slC e72 a0_5), .c (slC e65 a0_6), .c (slC e77 a0_7)], .agg [.c (slC e44 a1_0), .c (slC e28 a1_1)], .cell (.c (.int .i64 a2))]) (d := some 25) (r := .agg [.c (slC e44 r3.1), .c (slC e44 r3.2.1), .c (slC e44 r3.2.2.1), .c (slC e44 r3.2.2.2.1), .c (slC e44 r3.2.2.2.2.1), .c (slC e44 r3.2.2.2.2.2.1), .c (slC e44 r3.2.2.2.2.2.2)]) (by kernel_rfl) (by kernel_rfl) (by kernel_rfl) Tryd.call47 (p47 L _ _ _ _ _ _ _ _ _ _ _ _ gr3) ?_
        refine WO_fin (σ' := [some (.lit 0 27 [.c (.int .i64 a0_0), .c (.int .i64 a0_1), .c (.int .i64 a0_2), .c (.int .i64 a0_3), .c (slC e28 a0_4), .c (slC e72 a0_5), .c (slC e65 a0_6), .c (slC e77 a0_7)]), some (.lit 0 30 [.c (slC e44 a1_0), .c (slC e28 a1_1)]), some (.lit 0 35 [.c (slC e44 r3.1), .c (slC e44 r3.2.1), .c (slC e44 r3.2.2.1), .c (slC e44 r3.2.2.2.1), .c (slC e44 r3.2.2.2.2.1), .c (slC e44 r3.2.2.2.2.2.1), .c (slC e44 r3.2.2.2.2.2.2)])]) (T' := [(6, .cell (.op 2 0 7 0 0)), (7, .cell (.c (.int .i64 (0 : Int))))]) (Φ := (True)) 2 [6, 7] (by kernel_rfl) trivial (by kernel_rfl) ?_
        refine thenQ_n ?_
        refine W_ret_at (by kernel_rfl) ?_
        obtain rfl := Option.some.inj h
        exact qret [.agg [.c (slC e44 r3.1), .c (slC e44 r3.2.1), .c (slC e44 r3.2.2.1), .c (slC e44 r3.2.2.2.1), .c (slC e44 r3.2.2.2.2.1), .c (slC e44 r3.2.2.2.2.2.1), .c (slC e44 r3.2.2.2.2.2.2)], .cell (.c (.int .i64 (0 : Int)))] (by kernel_rfl) (by kernel_rfl) ([]) (by kernel_rfl)
    · intro J
      clear h
      rcases Bool.eq_false_or_eq_true (decide (a2 < (0 : Int))) with hb | hb
      · have h := cond_t hb gy2; clear gy2
        refine WO_ent (ent_bool (T' := [(15, .cell (.c (.bool true))), (2, .cell (.c (.int .i64 a2))), (3, .cell (.op 0 0 8 0 0)), (4, .cell (.op 1 0 2 0 0)), (6, .cell (.op 2 0 7 0 0))]) 15 hb (by kernel_rfl) (by kernel_rfl)) ?_
        obtain rfl := Option.some.inj h
        refine WO_exk (σ' := [some (.lit 0 27 [.c (.int .i64 a0_0), .c (.int .i64 a0_1), .c (.int .i64 a0_2), .c (.int .i64 a0_3), .c (slC e28 a0_4), .c (slC e72 a0_5), .c (slC e65 a0_6), .c (slC e77 a0_7)]), some (.lit 0 30 [.c (slC e44 a1_0), .c (slC e28 a1_1)]), some (.lit 0 35 [.c (.nsl), .c (.nsl), .c (.nsl), .c (.nsl), .c (.nsl), .c (.nsl), .c (.nsl)])]) (T' := [(2, .cell (.c (.int .i64 a2))), (3, .cell (.op 0 0 8 0 0)), (4, .cell (.op 1 0 2 0 0)), (6, .cell (.op 2 0 7 0 0)), (20, .cell (.c (.bool true)))]) (Φ := True) 5 [2, 3, 4, 6, 20] (by kernel_rfl) trivial J
      · have h := cond_f hb gy2; clear gy2
        refine WO_ent (ent_bool (T' := [(15, .cell (.c (.bool false))), (2, .cell (.c (.int .i64 a2))), (3, .cell (.op 0 0 8 0 0)), (4, .cell (.op 1 0 2 0 0)), (6, .cell (.op 2 0 7 0 0))]) 15 hb (by kernel_rfl) (by kernel_rfl)) ?_
        refine WO_exk (σ' := [some (.lit 0 27 [.c (.int .i64 a0_0), .c (.int .i64 a0_1), .c (.int .i64 a0_2), .c (.int .i64 a0_3), .c (slC e28 a0_4), .c (slC e72 a0_5), .c (slC e65 a0_6), .c (slC e77 a0_7)]), some (.lit 0 30 [.c (slC e44 a1_0), .c (slC e28 a1_1)]), some (.lit 0 35 [.c (.nsl), .c (.nsl), .c (.nsl), .c (.nsl), .c (.nsl), .c (.nsl), .c (.nsl)])]) (T' := [(2, .cell (.c (.int .i64 a2))), (3, .cell (.op 0 0 8 0 0)), (4, .cell (.op 1 0 2 0 0)), (6, .cell (.op 2 0 7 0 0)), (15, .cell (.c (.bool false))), (16, .cell (.c (.int .i64 a2))), (17, .agg [.c (.int .i64 a0_0), .c (.int .i64 a0_1), .c (.int .i64 a0_2), .c (.int .i64 a0_3), .c (slC e28 a0_4), .c (slC e72 a0_5), .c (slC e65 a0_6), .c (slC e77 a0_7)])]) (Φ := (True)) 2 [2, 3, 4, 6, 15, 16, 17] (by kernel_rfl) trivial ?_
        obtain ⟨r4, gr4, h⟩ := bind_some h
        refine WO_call (f := 28) (all := [.agg [.c (.int .i64 a0_0), .c (.int .i64 a0_1), .c (.int .i64 a0_2), .c (.int .i64 a0_3), .c (slC e28 a0_4), .c (slC e72 a0_5), .c (slC e65 a0_6), .c (slC e77 a0_7)]]) (d := some 18) (r := .cell (.c (.int .i64 r4))) (by kernel_rfl) (by kernel_rfl) (by kernel_rfl) Tryd.call28 (p28 L _ _ _ _ _ _ _ _ _ gr4) ?_
        refine WO_exk (σ' := [some (.lit 0 27 [.c (.int .i64 a0_0), .c (.int .i64 a0_1), .c (.int .i64 a0_2), .c (.int .i64 a0_3), .c (slC e28 a0_4), .c (slC e72 a0_5), .c (slC e65 a0_6), .c (slC e77 a0_7)]), some (.lit 0 30 [.c (slC e44 a1_0), .c (slC e28 a1_1)]), some (.lit 0 35 [.c (.nsl), .c (.nsl), .c (.nsl), .c (.nsl), .c (.nsl), .c (.nsl), .c (.nsl)])]) (T' := [(2, .cell (.c (.int .i64 a2))), (3, .cell (.op 0 0 8 0 0)), (4, .cell (.op 1 0 2 0 0)), (6, .cell (.op 2 0 7 0 0)), (15, .cell (.c (.bool false))), (19, .cell (.c (.bool (decide (a2 ≥ r4)))))]) (Φ := (True)) 1 [2, 3, 4, 6, 15, 19] (by kernel_rfl) trivial ?_
        obtain rfl := Option.some.inj h
        refine WO_exk (σ' := [some (.lit 0 27 [.c (.int .i64 a0_0), .c (.int .i64 a0_1), .c (.int .i64 a0_2), .c (.int .i64 a0_3), .c (slC e28 a0_4), .c (slC e72 a0_5), .c (slC e65 a0_6), .c (slC e77 a0_7)]), some (.lit 0 30 [.c (slC e44 a1_0), .c (slC e28 a1_1)]), some (.lit 0 35 [.c (.nsl), .c (.nsl), .c (.nsl), .c (.nsl), .c (.nsl), .c (.nsl), .c (.nsl)])]) (T' := [(2, .cell (.c (.int .i64 a2))), (3, .cell (.op 0 0 8 0 0)), (4, .cell (.op 1 0 2 0 0)), (6, .cell (.op 2 0 7 0 0)), (20, .cell (.c (.bool (decide (a2 ≥ r4)))))]) (Φ := True) 1 [2, 3, 4, 6, 20] (by kernel_rfl) trivial J

/- attestorref13.Equal -/
def s14_0 (L : LP) (a0 : (List Int)) (a1 : (List Int)) (y3 : Int) : Option (Int ⊕ (Bool ⊕ Unit)) :=
  (bif (decide (y3 < (a0.length : Int))) then
  (ck (0 ≤ y3 ∧ y3 < (a0.length : Int))).bind fun _ =>
  (ck (0 ≤ y3 ∧ y3 < (a1.length : Int))).bind fun _ =>
  (bif (!(decide ((a0.getD y3.toNat e44.d) = (a1.getD y3.toNat e44.d)))) then
  some (.inr (.inl false))
  else (ck (inR .i64 (y3 + (1 : Int)))).bind fun _ =>
  some (.inl (y3 + (1 : Int))))
  else some (.inr (.inr ())))
def s14 (L : LP) (a0 : (List Int)) (a1 : (List Int)) : Option Bool :=
  (bif (!(decide ((a0.length : Int) = (a1.length : Int)))) then
  some false
  else ((L.run (s14_0 L a0 a1) (0 : Int)).bind (fun (b : Bool ⊕ Unit) => (match b with
  | .inl v => some (.inr v)
  | .inr v => some (.inl ())))).bind fun (y1 : Unit ⊕ Bool) => (match y1 with
  | .inl v2 => some true
  | .inr v2 => some v2))
theorem p14 (L : LP) (a0 : (List Int)) (a1 : (List Int)) (r : Bool) (h : s14 L a0 a1 = some r) : Pure X 14 [.cell (.c (slC e44 a0)), .cell (.c (slC e44 a1))] (.cell (.c (.bool r))) := by
  refine Pure_of_W (c := cd Tryd.f14 []) Tryd.func14 (by kernel_rfl) (N := 26) (by kernel_rfl) (Nat.le_of_ble_eq_true (by kernel_rfl)) ?_
  unfold s14 at h
  refine W_seq_at (by kernel_rfl) ?_
  refine W_region_at (by kernel_rfl) ?_
  refine WO_fin (σ' := []) (T' := [(0, .cell (.c (slC e44 a0))), (1, .cell (.c (slC e44 a1)))]) (Φ := (True)) 1 [0, 1] (by kernel_rfl) trivial (by kernel_rfl) ?_
  refine thenQ_n ?_
  refine W_seq_at (by kernel_rfl) ?_
  refine W_seq_at (by kernel_rfl) ?_
  refine W_region_at (by kernel_rfl) ?_
  refine WO_fin (σ' := []) (T' := [(0, .cell (.c (slC e44 a0))), (1, .cell (.c (slC e44 a1))), (10, .cell (.c (.bool (!(decide ((a0.length : Int) = (a1.length : Int)))))))]) (Φ := (True)) 5 [0, 1, 10] (by kernel_rfl) trivial (by kernel_rfl) ?_
  refine thenQ_n ?_
  refine W_cond_at (b := (!(decide ((a0.length : Int) = (a1.length : Int))))) (by kernel_rfl) (fun hb => ?_) (fun hb => ?_)
  · have h := cond_t hb h
    refine W_seq_at (by kernel_rfl) ?_
    refine W_region_at (by kernel_rfl) ?_
    refine WO_fin (σ' := []) (T' := [(4, .cell (.c (.bool false)))]) (Φ := (True)) 1 [4] (by kernel_rfl) trivial (by kernel_rfl) ?_
    refine thenQ_n ?_
    refine W_ret_at (by kernel_rfl) ?_
    refine thenQ_r ?_
    obtain rfl := Option.some.inj h
    exact qret [.cell (.c (.bool false))] (by kernel_rfl) (by kernel_rfl) ([]) (by kernel_rfl)
  · have h := cond_f hb h
    refine W_skip_at (by kernel_rfl) ?_
    refine thenQ_n ?_
    obtain ⟨y1, gy1, ky1⟩ := bind_some h
    refine W_cutE (by kernel_rfl) (fun v2 => y1 = .inl v2) (fun v2 => ([], [])) ?_ ?_
    · intro v2 hv; subst hv; have h := ky1; clear gy1 ky1; dsimp only at h
      refine W_seq_at (by kernel_rfl) ?_
      refine W_region_at (by kernel_rfl) ?_
      refine WO_fin (σ' := []) (T' := [(4, .cell (.c (.bool true)))]) (Φ := (True)) 1 [4] (by kernel_rfl) trivial (by kernel_rfl) ?_
      refine thenQ_n ?_
      refine W_ret_at (by kernel_rfl) ?_
      obtain rfl := Option.some.inj h
      exact qret [.cell (.c (.bool true))] (by kernel_rfl) (by kernel_rfl) ([]) (by kernel_rfl)
    · have h := gy1; clear gy1
      refine W_seq_at (by kernel_rfl) ?_
      refine W_region_at (by kernel_rfl) ?_
      refine WO_fin (σ' := []) (T' := [(0, .cell (.c (slC e44 a0))), (1, .cell (.c (slC e44 a1))), (5, .cell (.c (.int .i64 (0 : Int))))]) (Φ := (True)) 1 [0, 1, 5] (by kernel_rfl) trivial (by kernel_rfl) ?_
      refine thenQ_n ?_
      refine W_block_at 0 (by kernel_rfl) (by kernel_rfl) ?_
      obtain ⟨b4, gb4, kb4⟩ := bind_some h
      refine W_loop_at (S := fun (y3 : Int) => ([], [(0, .cell (.c (slC e44 a0))), (1, .cell (.c (slC e44 a1))), (5, .cell (.c (.int .i64 y3)))])) (step := _) (x0 := (0 : Int)) (b := b4) (L.ok _ _ _ gb4) (by kernel_rfl) (stps_ok [.keep [0, 1, 5], .take 0] (by kernel_rfl)) ?_
      clear gb4 h; intro y3 o h; unfold s14_0 at h
      refine W_seq_at (by kernel_rfl) ?_
      refine W_seq_at (by kernel_rfl) ?_
      refine W_region_at (by kernel_rfl) ?_
      refine WO_fin (σ' := []) (T' := [(0, .cell (.c (slC e44 a0))), (1, .cell (.c (slC e44 a1))), (5, .cell (.c (.int .i64 y3))), (14, .cell (.c (.bool (decide (y3 < (a0.length : Int))))))]) (Φ := (True)) 4 [0, 1, 5, 14] (by kernel_rfl) trivial (by kernel_rfl) ?_
      refine thenQ_n ?_
      refine W_cond_at (b := (decide (y3 < (a0.length : Int)))) (by kernel_rfl) (fun hb => ?_) (fun hb => ?_)
      · have h := cond_t hb h
        refine W_skip_at (by kernel_rfl) ?_
        refine thenQ_n ?_
        refine W_seq_at (by kernel_rfl) ?_
        refine W_block_at 1 (by kernel_rfl) (by kernel_rfl) ?_
        refine W_seq_at (by kernel_rfl) ?_
        refine W_drawK 8 (by kernel_rfl) mixed (by kernel_rfl) ?_
        obtain ⟨c5, h⟩ := ck_bind h
        obtain ⟨c6, h⟩ := ck_bind h
        refine WQ_exk (n' := 0) (T' := [(0, .cell (.c (slC e44 a0))), (1, .cell (.c (slC e44 a1))), (5, .cell (.c (.int .i64 y3))), (20, .cell (.c (.int .u64 (a0.getD y3.toNat e44.d)))), (24, .cell (.c (.int .u64 (a1.getD y3.toNat e44.d))))]) (Φ := (0 ≤ y3 ∧ y3 < (a0.length : Int)) ∧ (0 ≤ y3 ∧ y3 < (a1.length : Int)) ∧ (True)) 8 [0, 1, 5, 20, 24] (by kernel_rfl) ⟨c5, c6, trivial⟩ ?_
        refine WQ_done ?_
        refine WO_fin (σ' := []) (T' := [(0, .cell (.c (slC e44 a0))), (1, .cell (.c (slC e44 a1))), (5, .cell (.c (.int .i64 y3))), (25, .cell (.c (.bool (!(decide ((a0.getD y3.toNat e44.d) = (a1.getD y3.toNat e44.d)))))))]) (Φ := (True)) 1 [0, 1, 5, 25] (by kernel_rfl) trivial (by kernel_rfl) ?_
        refine thenQ_n ?_
        refine W_cond_at (b := (!(decide ((a0.getD y3.toNat e44.d) = (a1.getD y3.toNat e44.d))))) (by kernel_rfl) (fun hb => ?_) (fun hb => ?_)
        · have h := cond_t hb h
          refine W_seq_at (by kernel_rfl) ?_
          refine W_region_at (by kernel_rfl) ?_
          refine WO_fin (σ' := []) (T' := [(4, .cell (.c (.bool false)))]) (Φ := (True)) 1 [4] (by kernel_rfl) trivial (by kernel_rfl) ?_
          refine thenQ_n ?_
          refine W_ret_at (by kernel_rfl) ?_
          refine blockQ_r ?_
          refine thenQ_r ?_
          obtain rfl := Option.some.inj h; refine round_r rfl (fun hb => ?_); subst hb; have h := kb4; dsimp only at h
          refine blockQ_r ?_
          obtain rfl := Option.some.inj h; have h := ky1; dsimp only at h; refine thenQ_r ?_
          obtain rfl := Option.some.inj h
          exact qret [.cell (.c (.bool false))] (by kernel_rfl) (by kernel_rfl) ([]) (by kernel_rfl)
        · have h := cond_f hb h
          refine W_skip_at (by kernel_rfl) ?_
          refine blockQ_n ?_
          refine thenQ_n ?_
          refine W_region_at (by kernel_rfl) ?_
          obtain ⟨c7, h⟩ := ck_bind h
          refine WO_fin (σ' := []) (T' := [(0, .cell (.c (slC e44 a0))), (1, .cell (.c (slC e44 a1))), (5, .cell (.c (.int .i64 (y3 + (1 : Int)))))]) (Φ := (inR .i64 (y3 + (1 : Int))) ∧ (True)) 3 [0, 1, 5] (by kernel_rfl) ⟨c7, trivial⟩ (by kernel_rfl) ?_
          obtain rfl := Option.some.inj h
          exact round_n _ rfl (stps_ok [.keep [0, 1, 5], .take 0] (by kernel_rfl))
      · have h := cond_f hb h
        refine W_exit_at 0 (by kernel_rfl) (by kernel_rfl) ?_
        refine thenQ_e ?_
        obtain rfl := Option.some.inj h; refine round_e rfl (fun hb => ?_); subst hb; have h := kb4; dsimp only at h
        refine blockQ_hit ?_
        obtain rfl := Option.some.inj h
        exact thenQ_n ⟨_, rfl, stps_ok [.keep [], .take 0] (by kernel_rfl)⟩

/- attestorlaw13.SystemEnvs -/
def s3 (L : LP) (a0_0 : Int) (a0_1 : Int) (a0_2 : Int) (a0_3 : Int) (a0_4 : (List (List Int))) (a0_5 : (List (Int × (List (Int × (List (Int × Int))))))) (a0_6 : (List ((List (List (Int × Int))) × (List (List (Int × Int)))))) (a0_7 : (List ((List (Int × Int)) × (List (Int × Int)) × Int × Int))) (a1_0 : (List Int)) (a1_1 : (List (List Int))) (a2 : Int) : Option Bool :=
  (s9 L a0_0 a0_1 a0_2 a0_3 a0_4 a0_5 a0_6 a0_7).bind fun r1 =>
  (bif (!r1) then some true
  else (s10 L a1_0 a1_1).bind fun r19 =>
  some (!r19)).bind fun y2 =>
  (bif y2 then
  (s11 L).bind fun r3 =>
  some r3
  else (s12 L a0_0 a0_1 a0_2 a0_3 a0_4 a0_5 a0_6 a0_7 a1_0 a1_1 a2).bind fun r4 =>
  (s13 L a0_0 a0_1 a0_2 a0_3 a0_4 a0_5 a0_6 a0_7 a1_0 a1_1 a2).bind fun r5 =>
  (bif (decide (r4.2.2.2.2.2.2.2 = r5.2.2.2.2.2.2.2)) then (s14 L r4.1 r5.1).bind fun r18 =>
  some r18
  else some false).bind fun y6 =>
  (bif y6 then (s14 L r4.2.1 r5.2.1).bind fun r17 =>
  some r17
  else some false).bind fun y7 =>
  (bif y7 then (s14 L r4.2.2.1 r5.2.2.1).bind fun r16 =>
  some r16
  else some false).bind fun y8 =>
  (bif y8 then (s14 L r4.2.2.2.1 r5.2.2.2.1).bind fun r15 =>
  some r15
  else some false).bind fun y9 =>
  (bif y9 then (ck (inR .i64 ((r4.2.2.2.2.1.length : Int) + (r4.2.2.2.2.2.1.length : Int)))).bind fun _ =>
  (ck (inR .i64 (((r4.2.2.2.2.1.length : Int) + (r4.2.2.2.2.2.1.length : Int)) + (r4.2.2.2.2.2.2.1.length : Int)))).bind fun _ =>
  some (decide ((((r4.2.2.2.2.1.length : Int) + (r4.2.2.2.2.2.1.length : Int)) + (r4.2.2.2.2.2.2.1.length : Int)) = (0 : Int)))
  else some false).bind fun y10 =>
  (bif y10 then (s11 L).bind fun r12 =>
  some r12
  else some false).bind fun y11 =>
  some y11)
theorem p3 (L : LP) (a0_0 : Int) (a0_1 : Int) (a0_2 : Int) (a0_3 : Int) (a0_4 : (List (List Int))) (a0_5 : (List (Int × (List (Int × (List (Int × Int))))))) (a0_6 : (List ((List (List (Int × Int))) × (List (List (Int × Int)))))) (a0_7 : (List ((List (Int × Int)) × (List (Int × Int)) × Int × Int))) (a1_0 : (List Int)) (a1_1 : (List (List Int))) (a2 : Int) (r : Bool) (h : s3 L a0_0 a0_1 a0_2 a0_3 a0_4 a0_5 a0_6 a0_7 a1_0 a1_1 a2 = some r) : Pure X 3 [.agg [.c (.int .i64 a0_0), .c (.int .i64 a0_1), .c (.int .i64 a0_2), .c (.int .i64 a0_3), .c (slC e28 a0_4), .c (slC e72 a0_5), .c (slC e65 a0_6), .c (slC e77 a0_7)], .agg [.c (slC e44 a1_0), .c (slC e28 a1_1)], .cell (.c (.int .i64 a2))] (.cell (.c (.bool r))) := by
  refine Pure_of_W (c := cd Tryd.f3 []) Tryd.func3 (by kernel_rfl) (N := 82) (by kernel_rfl) (Nat.le_of_ble_eq_true (by kernel_rfl)) ?_
  unfold s3 at h
  refine W_seq_at (by kernel_rfl) ?_
  refine W_region_at (by kernel_rfl) ?_
  refine WO_fin (σ' := [some (.lit 0 27 [.c (.int .i64 a0_0), .c (.int .i64 a0_1), .c (.int .i64 a0_2), .c (.int .i64 a0_3), .c (slC e28 a0_4), .c (slC e72 a0_5), .c (slC e65 a0_6), .c (slC e77 a0_7)]), some (.lit 0 30 [.c (slC e44 a1_0), .c (slC e28 a1_1)])]) (T' := [(2, .cell (.c (.int .i64 a2))), (3, .cell (.op 0 0 8 0 0)), (4, .cell (.op 1 0 2 0 0))]) (Φ := (True)) 3 [2, 3, 4] (by kernel_rfl) trivial (by kernel_rfl) ?_
  refine thenQ_n ?_
  refine W_seq_at (by kernel_rfl) ?_
  refine W_seq_at (by kernel_rfl) ?_
  refine W_region_at (by kernel_rfl) ?_
  refine WO_exk (σ' := [some (.lit 0 27 [.c (.int .i64 a0_0), .c (.int .i64 a0_1), .c (.int .i64 a0_2), .c (.int .i64 a0_3), .c (slC e28 a0_4), .c (slC e72 a0_5), .c (slC e65 a0_6), .c (slC e77 a0_7)]), some (.lit 0 30 [.c (slC e44 a1_0), .c (slC e28 a1_1)])]) (T' := [(2, .cell (.c (.int .i64 a2))), (3, .cell (.op 0 0 8 0 0)), (4, .cell (.op 1 0 2 0 0)), (11, .agg [.c (.int .i64 a0_0), .c (.int .i64 a0_1), .c (.int .i64 a0_2), .c (.int .i64 a0_3), .c (slC e28 a0_4), .c (slC e72 a0_5), .c (slC e65 a0_6), .c (slC e77 a0_7)])]) (Φ := (True)) 1 [2, 3, 4, 11] (by kernel_rfl) trivial ?_
  obtain ⟨r1, gr1, h⟩ := bind_some h
  refine WO_call (f := 9) (all := [.agg [.c (.int .i64 a0_0), .c (.int .i64 a0_1), .c (.int .i64 a0_2), .c (.int .i64 a0_3), .c (slC e28 a0_4), .c (slC e72 a0_5), .c (slC e65 a0_6), .c (slC e77 a0_7)]]) (d := some 12) (r := .cell (.c (.bool r1))) (by kernel_rfl) (by kernel_rfl) (by kernel_rfl) Tryd.call9 (p9 L _ _ _ _ _ _ _ _ _ gr1) ?_
  refine WO_exk (σ' := [some (.lit 0 27 [.c (.int .i64 a0_0), .c (.int .i64 a0_1), .c (.int .i64 a0_2), .c (.int .i64 a0_3), .c (slC e28 a0_4), .c (slC e72 a0_5), .c (slC e65 a0_6), .c (slC e77 a0_7)]), some (.lit 0 30 [.c (slC e44 a1_0), .c (slC e28 a1_1)])]) (T' := [(2, .cell (.c (.int .i64 a2))), (3, .cell (.op 0 0 8 0 0)), (4, .cell (.op 1 0 2 0 0)), (14, .cell (.c (.bool (!r1))))]) (Φ := (True)) 2 [2, 3, 4, 14] (by kernel_rfl) trivial ?_
  obtain ⟨y2, gy2, h⟩ := bind_some h
  refine WO_join 8 [some (.lit 0 27 [.c (.int .i64 a0_0), .c (.int .i64 a0_1), .c (.int .i64 a0_2), .c (.int .i64 a0_3), .c (slC e28 a0_4), .c (slC e72 a0_5), .c (slC e65 a0_6), .c (slC e77 a0_7)]), some (.lit 0 30 [.c (slC e44 a1_0), .c (slC e28 a1_1)])] [(2, .cell (.c (.int .i64 a2))), (3, .cell (.op 0 0 8 0 0)), (4, .cell (.op 1 0 2 0 0)), (18, .cell (.c (.bool y2)))] ?_ ?_
  · clear gy2
    refine WO_fin (σ' := [some (.lit 0 27 [.c (.int .i64 a0_0), .c (.int .i64 a0_1), .c (.int .i64 a0_2), .c (.int .i64 a0_3), .c (slC e28 a0_4), .c (slC e72 a0_5), .c (slC e65 a0_6), .c (slC e77 a0_7)]), some (.lit 0 30 [.c (slC e44 a1_0), .c (slC e28 a1_1)])]) (T' := [(2, .cell (.c (.int .i64 a2))), (3, .cell (.op 0 0 8 0 0)), (4, .cell (.op 1 0 2 0 0)), (18, .cell (.c (.bool y2)))]) (Φ := True) 0 [2, 3, 4, 18] (by kernel_rfl) trivial (by kernel_rfl) ?_
    refine thenQ_n ?_
    refine W_cond_at (b := y2) (by kernel_rfl) (fun hb => ?_) (fun hb => ?_)
    · have h := cond_t hb h
      refine W_seq_at (by kernel_rfl) ?_
      refine W_region_at (by kernel_rfl) ?_
      obtain ⟨r3, gr3, h⟩ := bind_some h
      refine WO_call (f := 11) (all := []) (d := some 19) (r := .cell (.c (.bool r3))) (by kernel_rfl) (by kernel_rfl) (by kernel_rfl) Tryd.call11 (p11 L  _ gr3) ?_
      refine WO_fin (σ' := [some (.lit 0 27 [.c (.int .i64 a0_0), .c (.int .i64 a0_1), .c (.int .i64 a0_2), .c (.int .i64 a0_3), .c (slC e28 a0_4), .c (slC e72 a0_5), .c (slC e65 a0_6), .c (slC e77 a0_7)]), some (.lit 0 30 [.c (slC e44 a1_0), .c (slC e28 a1_1)])]) (T' := [(6, .cell (.c (.bool r3)))]) (Φ := (True)) 1 [6] (by kernel_rfl) trivial (by kernel_rfl) ?_
      refine thenQ_n ?_
      refine W_ret_at (by kernel_rfl) ?_
      refine thenQ_r ?_
      obtain rfl := Option.some.inj h
      exact qret [.cell (.c (.bool r3))] (by kernel_rfl) (by kernel_rfl) ([]) (by kernel_rfl)
    · have h := cond_f hb h
      refine W_skip_at (by kernel_rfl) ?_
      refine thenQ_n ?_
      refine W_seq_at (by kernel_rfl) ?_
      refine W_region_at (by kernel_rfl) ?_
      refine WO_exk (σ' := [some (.lit 0 27 [.c (.int .i64 a0_0), .c (.int .i64 a0_1), .c (.int .i64 a0_2), .c (.int .i64 a0_3), .c (slC e28 a0_4), .c (slC e72 a0_5), .c (slC e65 a0_6), .c (slC e77 a0_7)]), some (.lit 0 30 [.c (slC e44 a1_0), .c (slC e28 a1_1)])]) (T' := [(2, .cell (.c (.int .i64 a2))), (3, .cell (.op 0 0 8 0 0)), (4, .cell (.op 1 0 2 0 0)), (21, .agg [.c (.int .i64 a0_0), .c (.int .i64 a0_1), .c (.int .i64 a0_2), .c (.int .i64 a0_3), .c (slC e28 a0_4), .c (slC e72 a0_5), .c (slC e65 a0_6), .c (slC e77 a0_7)]), (22, .agg [.c (slC e44 a1_0), .c (slC e28 a1_1)]), (23, .cell (.c (.int .i64 a2)))]) (Φ := (True)) 3 [2, 3, 4, 21, 22, 23] (by kernel_rfl) trivial ?_
      obtain ⟨r4, gr4, h⟩ := bind_some h
      refine WO_call (f := 12) (all := [.agg [.c (.int .i64 a0_0), .c (.int .i64 a0_1), .c (.int .i64 a0_2), .c (.int .i64 a0_3), .c (slC e28 a0_4), .c (slC e72 a0_5), .c (slC e65 a0_6), .c (slC e77 a0_7)], .agg [.c (slC e44 a1_0), .c (slC e28 a1_1)], .cell (.c (.int .i64 a2))]) (d := some 24) (r := tupV [.agg [.c (slC e44 r4.1), .c (slC e44 r4.2.1), .c (slC e44 r4.2.2.1), .c (slC e44 r4.2.2.2.1), .c (slC e44 r4.2.2.2.2.1), .c (slC e44 r4.2.2.2.2.2.1), .c (slC e44 r4.2.2.2.2.2.2.1)], .cell (.c (.int .i64 r4.2.2.2.2.2.2.2))]) (by kernel_rfl) (by kernel_rfl) (by kernel_rfl) Tryd.call12 (p12 L _ _ _ _ _ _ _ _ _ _ _ _ gr4) ?_
      refine WO_fin (σ' := [some (.lit 0 27 [.c (.int .i64 a0_0), .c (.int .i64 a0_1), .c (.int .i64 a0_2), .c (.int .i64 a0_3), .c (slC e28 a0_4), .c (slC e72 a0_5), .c (slC e65 a0_6), .c (slC e77 a0_7)]), some (.lit 0 30 [.c (slC e44 a1_0), .c (slC e28 a1_1)]), some (.lit 0 35 [.c (slC e44 r4.1), .c (slC e44 r4.2.1), .c (slC e44 r4.2.2.1), .c (slC e44 r4.2.2.2.1), .c (slC e44 r4.2.2.2.2.1), .c (slC e44 r4.2.2.2.2.2.1), .c (slC e44 r4.2.2.2.2.2.2.1)])]) (T' := [(2, .cell (.c (.int .i64 a2))), (3, .cell (.op 0 0 8 0 0)), (4, .cell (.op 1 0 2 0 0)), (7, .cell (.op 2 0 7 0 0)), (8, .cell (.c (.int .i64 r4.2.2.2.2.2.2.2)))]) (Φ := (True)) 6 [2, 3, 4, 7, 8] (by kernel_rfl) trivial (by kernel_rfl) ?_
      refine thenQ_n ?_
      refine W_seq_at (by kernel_rfl) ?_
      refine W_region_at (by kernel_rfl) ?_
      refine WO_exk (σ' := [some (.lit 0 27 [.c (.int .i64 a0_0), .c (.int .i64 a0_1), .c (.int .i64 a0_2), .c (.int .i64 a0_3), .c (slC e28 a0_4), .c (slC e72 a0_5), .c (slC e65 a0_6), .c (slC e77 a0_7)]), some (.lit 0 30 [.c (slC e44 a1_0), .c (slC e28 a1_1)]), some (.lit 0 35 [.c (slC e44 r4.1), .c (slC e44 r4.2.1), .c (slC e44 r4.2.2.1), .c (slC e44 r4.2.2.2.1), .c (slC e44 r4.2.2.2.2.1), .c (slC e44 r4.2.2.2.2.2.1), .c (slC e44 r4.2.2.2.2.2.2.1)])]) (T' := [(7, .cell (.op 2 0 7 0 0)), (8, .cell (.c (.int .i64 r4.2.2.2.2.2.2.2))), (28, .agg [.c (.int .i64 a0_0), .c (.int .i64 a0_1), .c (.int .i64 a0_2), .c (.int .i64 a0_3), .c (slC e28 a0_4), .c (slC e72 a0_5), .c (slC e65 a0_6), .c (slC e77 a0_7)]), (29, .agg [.c (slC e44 a1_0), .c (slC e28 a1_1)]), (30, .cell (.c (.int .i64 a2)))]) (Φ := (True)) 3 [7, 8, 28, 29, 30] (by kernel_rfl) trivial ?_
      obtain ⟨r5, gr5, h⟩ := bind_some h
      refine WO_call (f := 13) (all := [.agg [.c (.int .i64 a0_0), .c (.int .i64 a0_1), .c (.int .i64 a0_2), .c (.int .i64 a0_3), .c (slC e28 a0_4), .c (slC e72 a0_5), .c (slC e65 a0_6), .c (slC e77 a0_7)], .agg [.c (slC e44 a1_0), .c (slC e28 a1_1)], .cell (.c (.int .i64 a2))]) (d := some 31) (r := tupV [.agg [.c (slC e44 r5.1), .c (slC e44 r5.2.1), .c (slC e44 r5.2.2.1), .c (slC e44 r5.2.2.2.1), .c (slC e44 r5.2.2.2.2.1), .c (slC e44 r5.2.2.2.2.2.1), .c (slC e44 r5.2.2.2.2.2.2.1)], .cell (.c (.int .i64 r5.2.2.2.2.2.2.2))]) (by kernel_rfl) (by kernel_rfl) (by kernel_rfl) Tryd.call13 (p13 L _ _ _ _ _ _ _ _ _ _ _ _ gr5) ?_
      refine WO_fin (σ' := [some (.lit 0 27 [.c (.int .i64 a0_0), .c (.int .i64 a0_1), .c (.int .i64 a0_2), .c (.int .i64 a0_3), .c (slC e28 a0_4), .c (slC e72 a0_5), .c (slC e65 a0_6), .c (slC e77 a0_7)]), some (.lit 0 30 [.c (slC e44 a1_0), .c (slC e28 a1_1)]), some (.lit 0 35 [.c (slC e44 r4.1), .c (slC e44 r4.2.1), .c (slC e44 r4.2.2.1), .c (slC e44 r4.2.2.2.1), .c (slC e44 r4.2.2.2.2.1), .c (slC e44 r4.2.2.2.2.2.1), .c (slC e44 r4.2.2.2.2.2.2.1)]), some (.lit 0 35 [.c (slC e44 r5.1), .c (slC e44 r5.2.1), .c (slC e44 r5.2.2.1), .c (slC e44 r5.2.2.2.1), .c (slC e44 r5.2.2.2.2.1), .c (slC e44 r5.2.2.2.2.2.1), .c (slC e44 r5.2.2.2.2.2.2.1)])]) (T' := [(7, .cell (.op 2 0 7 0 0)), (8, .cell (.c (.int .i64 r4.2.2.2.2.2.2.2))), (9, .cell (.op 3 0 7 0 0)), (10, .cell (.c (.int .i64 r5.2.2.2.2.2.2.2)))]) (Φ := (True)) 6 [7, 8, 9, 10] (by kernel_rfl) trivial (by kernel_rfl) ?_
      refine thenQ_n ?_
      refine W_seq_at (by kernel_rfl) ?_
      refine W_region_at (by kernel_rfl) ?_
      refine WO_exk (σ' := [some (.lit 0 27 [.c (.int .i64 a0_0), .c (.int .i64 a0_1), .c (.int .i64 a0_2), .c (.int .i64 a0_3), .c (slC e28 a0_4), .c (slC e72 a0_5), .c (slC e65 a0_6), .c (slC e77 a0_7)]), some (.lit 0 30 [.c (slC e44 a1_0), .c (slC e28 a1_1)]), some (.lit 0 35 [.c (slC e44 r4.1), .c (slC e44 r4.2.1), .c (slC e44 r4.2.2.1), .c (slC e44 r4.2.2.2.1), .c (slC e44 r4.2.2.2.2.1), .c (slC e44 r4.2.2.2.2.2.1), .c (slC e44 r4.2.2.2.2.2.2.1)]), some (.lit 0 35 [.c (slC e44 r5.1), .c (slC e44 r5.2.1), .c (slC e44 r5.2.2.1), .c (slC e44 r5.2.2.2.1), .c (slC e44 r5.2.2.2.2.1), .c (slC e44 r5.2.2.2.2.2.1), .c (slC e44 r5.2.2.2.2.2.2.1)])]) (T' := [(7, .cell (.op 2 0 7 0 0)), (9, .cell (.op 3 0 7 0 0)), (37, .cell (.c (.bool (decide (r4.2.2.2.2.2.2.2 = r5.2.2.2.2.2.2.2)))))]) (Φ := (True)) 4 [7, 9, 37] (by kernel_rfl) trivial ?_
      obtain ⟨y6, gy6, h⟩ := bind_some h
      refine WO_join 10 [some (.lit 0 27 [.c (.int .i64 a0_0), .c (.int .i64 a0_1), .c (.int .i64 a0_2), .c (.int .i64 a0_3), .c (slC e28 a0_4), .c (slC e72 a0_5), .c (slC e65 a0_6), .c (slC e77 a0_7)]), some (.lit 0 30 [.c (slC e44 a1_0), .c (slC e28 a1_1)]), some (.lit 0 35 [.c (slC e44 r4.1), .c (slC e44 r4.2.1), .c (slC e44 r4.2.2.1), .c (slC e44 r4.2.2.2.1), .c (slC e44 r4.2.2.2.2.1), .c (slC e44 r4.2.2.2.2.2.1), .c (slC e44 r4.2.2.2.2.2.2.1)]), some (.lit 0 35 [.c (slC e44 r5.1), .c (slC e44 r5.2.1), .c (slC e44 r5.2.2.1), .c (slC e44 r5.2.2.2.1), .c (slC e44 r5.2.2.2.2.1), .c (slC e44 r5.2.2.2.2.2.1), .c (slC e44 r5.2.2.2.2.2.2.1)])] [(7, .cell (.op 2 0 7 0 0)), (9, .cell (.op 3 0 7 0 0)), (43, .cell (.c (.bool y6)))] ?_ ?_
      · clear gy6
        refine WO_exk (σ' := [some (.lit 0 27 [.c (.int .i64 a0_0), .c (.int .i64 a0_1), .c (.int .i64 a0_2), .c (.int .i64 a0_3), .c (slC e28 a0_4), .c (slC e72 a0_5), .c (slC e65 a0_6), .c (slC e77 a0_7)]), some (.lit 0 30 [.c (slC e44 a1_0), .c (slC e28 a1_1)]), some (.lit 0 35 [.c (slC e44 r4.1), .c (slC e44 r4.2.1), .c (slC e44 r4.2.2.1), .c (slC e44 r4.2.2.2.1), .c (slC e44 r4.2.2.2.2.1), .c (slC e44 r4.2.2.2.2.2.1), .c (slC e44 r4.2.2.2.2.2.2.1)]), some (.lit 0 35 [.c (slC e44 r5.1), .c (slC e44 r5.2.1), .c (slC e44 r5.2.2.1), .c (slC e44 r5.2.2.2.1), .c (slC e44 r5.2.2.2.2.1), .c (slC e44 r5.2.2.2.2.2.1), .c (slC e44 r5.2.2.2.2.2.2.1)])]) (T' := [(7, .cell (.op 2 0 7 0 0)), (9, .cell (.op 3 0 7 0 0)), (44, .cell (.c (.bool y6)))]) (Φ := (True)) 1 [7, 9, 44] (by kernel_rfl) trivial ?_
        obtain ⟨y7, gy7, h⟩ := bind_some h
        refine WO_join 17 [some (.lit 0 27 [.c (.int .i64 a0_0), .c (.int .i64 a0_1), .c (.int .i64 a0_2), .c (.int .i64 a0_3), .c (slC e28 a0_4), .c (slC e72 a0_5), .c (slC e65 a0_6), .c (slC e77 a0_7)]), some (.lit 0 30 [.c (slC e44 a1_0), .c (slC e28 a1_1)]), some (.lit 0 35 [.c (slC e44 r4.1), .c (slC e44 r4.2.1), .c (slC e44 r4.2.2.1), .c (slC e44 r4.2.2.2.1), .c (slC e44 r4.2.2.2.2.1), .c (slC e44 r4.2.2.2.2.2.1), .c (slC e44 r4.2.2.2.2.2.2.1)]), some (.lit 0 35 [.c (slC e44 r5.1), .c (slC e44 r5.2.1), .c (slC e44 r5.2.2.1), .c (slC e44 r5.2.2.2.1), .c (slC e44 r5.2.2.2.2.1), .c (slC e44 r5.2.2.2.2.2.1), .c (slC e44 r5.2.2.2.2.2.2.1)])] [(7, .cell (.op 2 0 7 0 0)), (9, .cell (.op 3 0 7 0 0)), (50, .cell (.c (.bool y7)))] ?_ ?_
        · clear gy7
          refine WO_exk (σ' := [some (.lit 0 27 [.c (.int .i64 a0_0), .c (.int .i64 a0_1), .c (.int .i64 a0_2), .c (.int .i64 a0_3), .c (slC e28 a0_4), .c (slC e72 a0_5), .c (slC e65 a0_6), .c (slC e77 a0_7)]), some (.lit 0 30 [.c (slC e44 a1_0), .c (slC e28 a1_1)]), some (.lit 0 35 [.c (slC e44 r4.1), .c (slC e44 r4.2.1), .c (slC e44 r4.2.2.1), .c (slC e44 r4.2.2.2.1), .c (slC e44 r4.2.2.2.2.1), .c (slC e44 r4.2.2.2.2.2.1), .c (slC e44 r4.2.2.2.2.2.2.1)]), some (.lit 0 35 [.c (slC e44 r5.1), .c (slC e44 r5.2.1), .c (slC e44 r5.2.2.1), .c (slC e44 r5.2.2.2.1), .c (slC e44 r5.2.2.2.2.1), .c (slC e44 r5.2.2.2.2.2.1), .c (slC e44 r5.2.2.2.2.2.2.1)])]) (T' := [(7, .cell (.op 2 0 7 0 0)), (9, .cell (.op 3 0 7 0 0)), (51, .cell (.c (.bool y7)))]) (Φ := (True)) 1 [7, 9, 51] (by kernel_rfl) trivial ?_
          obtain ⟨y8, gy8, h⟩ := bind_some h
          refine WO_join 24 [some (.lit 0 27 [.c (.int .i64 a0_0), .c (.int .i64 a0_1), .c (.int .i64 a0_2), .c (.int .i64 a0_3), .c (slC e28 a0_4), .c (slC e72 a0_5), .c (slC e65 a0_6), .c (slC e77 a0_7)]), some (.lit 0 30 [.c (slC e44 a1_0), .c (slC e28 a1_1)]), some (.lit 0 35 [.c (slC e44 r4.1), .c (slC e44 r4.2.1), .c (slC e44 r4.2.2.1), .c (slC e44 r4.2.2.2.1), .c (slC e44 r4.2.2.2.2.1), .c (slC e44 r4.2.2.2.2.2.1), .c (slC e44 r4.2.2.2.2.2.2.1)]), some (.lit 0 35 [.c (slC e44 r5.1), .c (slC e44 r5.2.1), .c (slC e44 r5.2.2.1), .c (slC e44 r5.2.2.2.1), .c (slC e44 r5.2.2.2.2.1), .c (slC e44 r5.2.2.2.2.2.1), .c (slC e44 r5.2.2.2.2.2.2.1)])] [(7, .cell (.op 2 0 7 0 0)), (9, .cell (.op 3 0 7 0 0)), (57, .cell (.c (.bool y8)))] ?_ ?_
          · clear gy8
            refine WO_exk (σ' := [some (.lit 0 27 [.c (.int .i64 a0_0), .c (.int .i64 a0_1), .c (.int .i64 a0_2), .c (.int .i64 a0_3), .c (slC e28 a0_4), .c (slC e72 a0_5), .c (slC e65 a0_6), .c (slC e77 a0_7)]), some (.lit 0 30 [.c (slC e44 a1_0), .c (slC e28 a1_1)]), some (.lit 0 35 [.c (slC e44 r4.1), .c (slC e44 r4.2.1), .c (slC e44 r4.2.2.1), .c (slC e44 r4.2.2.2.1), .c (slC e44 r4.2.2.2.2.1), .c (slC e44 r4.2.2.2.2.2.1), .c (slC e44 r4.2.2.2.2.2.2.1)]), some (.lit 0 35 [.c (slC e44 r5.1), .c (slC e44 r5.2.1), .c (slC e44 r5.2.2.1), .c (slC e44 r5.2.2.2.1), .c (slC e44 r5.2.2.2.2.1), .c (slC e44 r5.2.2.2.2.2.1), .c (slC e44 r5.2.2.2.2.2.2.1)])]) (T' := [(7, .cell (.op 2 0 7 0 0)), (9, .cell (.op 3 0 7 0 0)), (58, .cell (.c (.bool y8)))]) (Φ := (True)) 1 [7, 9, 58] (by kernel_rfl) trivial ?_
            obtain ⟨y9, gy9, h⟩ := bind_some h
            refine WO_join 31 [some (.lit 0 27 [.c (.int .i64 a0_0), .c (.int .i64 a0_1), .c (.int .i64 a0_2), .c (.int .i64 a0_3), .c (slC e28 a0_4), .c (slC e72 a0_5), .c (slC e65 a0_6), .c (slC e77 a0_7)]), some (.lit 0 30 [.c (slC e44 a1_0), .c (slC e28 a1_1)]), some (.lit 0 35 [.c (slC e44 r4.1), .c (slC e44 r4.2.1), .c (slC e44 r4.2.2.1), .c (slC e44 r4.2.2.2.1), .c (slC e44 r4.2.2.2.2.1), .c (slC e44 r4.2.2.2.2.2.1), .c (slC e44 r4.2.2.2.2.2.2.1)]), some (.lit 0 35 [.c (slC e44 r5.1), .c (slC e44 r5.2.1), .c (slC e44 r5.2.2.1), .c (slC e44 r5.2.2.2.1), .c (slC e44 r5.2.2.2.2.1), .c (slC e44 r5.2.2.2.2.2.1), .c (slC e44 r5.2.2.2.2.2.2.1)])] [(7, .cell (.op 2 0 7 0 0)), (64, .cell (.c (.bool y9)))] ?_ ?_
            · clear gy9
              refine WO_exk (σ' := [some (.lit 0 27 [.c (.int .i64 a0_0), .c (.int .i64 a0_1), .c (.int .i64 a0_2), .c (.int .i64 a0_3), .c (slC e28 a0_4), .c (slC e72 a0_5), .c (slC e65 a0_6), .c (slC e77 a0_7)]), some (.lit 0 30 [.c (slC e44 a1_0), .c (slC e28 a1_1)]), some (.lit 0 35 [.c (slC e44 r4.1), .c (slC e44 r4.2.1), .c (slC e44 r4.2.2.1), .c (slC e44 r4.2.2.2.1), .c (slC e44 r4.2.2.2.2.1), .c (slC e44 r4.2.2.2.2.2.1), .c (slC e44 r4.2.2.2.2.2.2.1)]), some (.lit 0 35 [.c (slC e44 r5.1), .c (slC e44 r5.2.1), .c (slC e44 r5.2.2.1), .c (slC e44 r5.2.2.2.1), .c (slC e44 r5.2.2.2.2.1), .c (slC e44 r5.2.2.2.2.2.1), .c (slC e44 r5.2.2.2.2.2.2.1)])]) (T' := [(7, .cell (.op 2 0 7 0 0)), (65, .cell (.c (.bool y9)))]) (Φ := (True)) 1 [7, 65] (by kernel_rfl) trivial ?_
              obtain ⟨y10, gy10, h⟩ := bind_some h
              refine WO_join 45 [some (.lit 0 27 [.c (.int .i64 a0_0), .c (.int .i64 a0_1), .c (.int .i64 a0_2), .c (.int .i64 a0_3), .c (slC e28 a0_4), .c (slC e72 a0_5), .c (slC e65 a0_6), .c (slC e77 a0_7)]), some (.lit 0 30 [.c (slC e44 a1_0), .c (slC e28 a1_1)]), some (.lit 0 35 [.c (slC e44 r4.1), .c (slC e44 r4.2.1), .c (slC e44 r4.2.2.1), .c (slC e44 r4.2.2.2.1), .c (slC e44 r4.2.2.2.2.1), .c (slC e44 r4.2.2.2.2.2.1), .c (slC e44 r4.2.2.2.2.2.2.1)]), some (.lit 0 35 [.c (slC e44 r5.1), .c (slC e44 r5.2.1), .c (slC e44 r5.2.2.1), .c (slC e44 r5.2.2.2.1), .c (slC e44 r5.2.2.2.2.1), .c (slC e44 r5.2.2.2.2.2.1), .c (slC e44 r5.2.2.2.2.2.2.1)])] [(78, .cell (.c (.bool y10)))] ?_ ?_
              · clear gy10
                refine WO_exk (σ' := [some (.lit 0 27 [.c (.int .i64 a0_0), .c (.int .i64 a0_1), .c (.int .i64 a0_2), .c (.int .i64 a0_3), .c (slC e28 a0_4), .c (slC e72 a0_5), .c (slC e65 a0_6), .c (slC e77 a0_7)]), some (.lit 0 30 [.c (slC e44 a1_0), .c (slC e28 a1_1)]), some (.lit 0 35 [.c (slC e44 r4.1), .c (slC e44 r4.2.1), .c (slC e44 r4.2.2.1), .c (slC e44 r4.2.2.2.1), .c (slC e44 r4.2.2.2.2.1), .c (slC e44 r4.2.2.2.2.2.1), .c (slC e44 r4.2.2.2.2.2.2.1)]), some (.lit 0 35 [.c (slC e44 r5.1), .c (slC e44 r5.2.1), .c (slC e44 r5.2.2.1), .c (slC e44 r5.2.2.2.1), .c (slC e44 r5.2.2.2.2.1), .c (slC e44 r5.2.2.2.2.2.1), .c (slC e44 r5.2.2.2.2.2.2.1)])]) (T' := [(79, .cell (.c (.bool y10)))]) (Φ := (True)) 1 [79] (by kernel_rfl) trivial ?_
                obtain ⟨y11, gy11, h⟩ := bind_some h
                refine WO_join 48 [some (.lit 0 27 [.c (.int .i64 a0_0), .c (.int .i64 a0_1), .c (.int .i64 a0_2), .c (.int .i64 a0_3), .c (slC e28 a0_4), .c (slC e72 a0_5), .c (slC e65 a0_6), .c (slC e77 a0_7)]), some (.lit 0 30 [.c (slC e44 a1_0), .c (slC e28 a1_1)]), some (.lit 0 35 [.c (slC e44 r4.1), .c (slC e44 r4.2.1), .c (slC e44 r4.2.2.1), .c (slC e44 r4.2.2.2.1), .c (slC e44 r4.2.2.2.2.1), .c (slC e44 r4.2.2.2.2.2.1), .c (slC e44 r4.2.2.2.2.2.2.1)]), some (.lit 0 35 [.c (slC e44 r5.1), .c (slC e44 r5.2.1), .c (slC e44 r5.2.2.1), .c (slC e44 r5.2.2.2.1), .c (slC e44 r5.2.2.2.2.1), .c (slC e44 r5.2.2.2.2.2.1), .c (slC e44 r5.2.2.2.2.2.2.1)])] [(81, .cell (.c (.bool y11)))] ?_ ?_
                · clear gy11
                  refine WO_fin (σ' := [some (.lit 0 27 [.c (.int .i64 a0_0), .c (.int .i64 a0_1), .c (.int .i64 a0_2), .c (.int .i64 a0_3), .c (slC e28 a0_4), .c (slC e72 a0_5), .c (slC e65 a0_6), .c (slC e77 a0_7)]), some (.lit 0 30 [.c (slC e44 a1_0), .c (slC e28 a1_1)]), some (.lit 0 35 [.c (slC e44 r4.1), .c (slC e44 r4.2.1), .c (slC e44 r4.2.2.1), .c (slC e44 r4.2.2.2.1), .c (slC e44 r4.2.2.2.2.1), .c (slC e44 r4.2.2.2.2.2.1), .c (slC e44 r4.2.2.2.2.2.2.1)]), some (.lit 0 35 [.c (slC e44 r5.1), .c (slC e44 r5.2.1), .c (slC e44 r5.2.2.1), .c (slC e44 r5.2.2.2.1), .c (slC e44 r5.2.2.2.2.1), .c (slC e44 r5.2.2.2.2.2.1), .c (slC e44 r5.2.2.2.2.2.2.1)])]) (T' := [(6, .cell (.c (.bool y11)))]) (Φ := (True)) 1 [6] (by kernel_rfl) trivial (by kernel_rfl) ?_
                  refine thenQ_n ?_
                  refine W_ret_at (by kernel_rfl) ?_
                  obtain rfl := Option.some.inj h
                  exact qret [.cell (.c (.bool y11))] (by kernel_rfl) (by kernel_rfl) ([]) (by kernel_rfl)
                · intro J
                  clear h
                  rcases Bool.eq_false_or_eq_true y10 with hb | hb
                  · have h := cond_t hb gy11; clear gy11
                    refine WO_ent (ent_bool (T' := [(79, .cell (.c (.bool true)))]) 79 hb (by kernel_rfl) (by kernel_rfl)) ?_
                    obtain ⟨r12, gr12, h⟩ := bind_some h
                    refine WO_call (f := 11) (all := []) (d := some 80) (r := .cell (.c (.bool r12))) (by kernel_rfl) (by kernel_rfl) (by kernel_rfl) Tryd.call11 (p11 L  _ gr12) ?_
                    obtain rfl := Option.some.inj h
                    refine WO_exk (σ' := [some (.lit 0 27 [.c (.int .i64 a0_0), .c (.int .i64 a0_1), .c (.int .i64 a0_2), .c (.int .i64 a0_3), .c (slC e28 a0_4), .c (slC e72 a0_5), .c (slC e65 a0_6), .c (slC e77 a0_7)]), some (.lit 0 30 [.c (slC e44 a1_0), .c (slC e28 a1_1)]), some (.lit 0 35 [.c (slC e44 r4.1), .c (slC e44 r4.2.1), .c (slC e44 r4.2.2.1), .c (slC e44 r4.2.2.2.1), .c (slC e44 r4.2.2.2.2.1), .c (slC e44 r4.2.2.2.2.2.1), .c (slC e44 r4.2.2.2.2.2.2.1)]), some (.lit 0 35 [.c (slC e44 r5.1), .c (slC e44 r5.2.1), .c (slC e44 r5.2.2.1), .c (slC e44 r5.2.2.2.1), .c (slC e44 r5.2.2.2.2.1), .c (slC e44 r5.2.2.2.2.2.1), .c (slC e44 r5.2.2.2.2.2.2.1)])]) (T' := [(81, .cell (.c (.bool r12)))]) (Φ := True) 1 [81] (by kernel_rfl) trivial J
                  · have h := cond_f hb gy11; clear gy11
                    refine WO_ent (ent_bool (T' := [(79, .cell (.c (.bool false)))]) 79 hb (by kernel_rfl) (by kernel_rfl)) ?_
                    obtain rfl := Option.some.inj h
                    refine WO_exk (σ' := [some (.lit 0 27 [.c (.int .i64 a0_0), .c (.int .i64 a0_1), .c (.int .i64 a0_2), .c (.int .i64 a0_3), .c (slC e28 a0_4), .c (slC e72 a0_5), .c (slC e65 a0_6), .c (slC e77 a0_7)]), some (.lit 0 30 [.c (slC e44 a1_0), .c (slC e28 a1_1)]), some (.lit 0 35 [.c (slC e44 r4.1), .c (slC e44 r4.2.1), .c (slC e44 r4.2.2.1), .c (slC e44 r4.2.2.2.1), .c (slC e44 r4.2.2.2.2.1), .c (slC e44 r4.2.2.2.2.2.1), .c (slC e44 r4.2.2.2.2.2.2.1)]), some (.lit 0 35 [.c (slC e44 r5.1), .c (slC e44 r5.2.1), .c (slC e44 r5.2.2.1), .c (slC e44 r5.2.2.2.1), .c (slC e44 r5.2.2.2.2.1), .c (slC e44 r5.2.2.2.2.2.1), .c (slC e44 r5.2.2.2.2.2.2.1)])]) (T' := [(81, .cell (.c (.bool false)))]) (Φ := True) 2 [81] (by kernel_rfl) trivial J
              · intro J
                clear h
                rcases Bool.eq_false_or_eq_true y9 with hb | hb
                · have h := cond_t hb gy10; clear gy10
                  refine WO_ent (ent_bool (T' := [(65, .cell (.c (.bool true))), (7, .cell (.op 2 0 7 0 0))]) 65 hb (by kernel_rfl) (by kernel_rfl)) ?_
                  obtain ⟨c13, h⟩ := ck_bind h
                  obtain ⟨c14, h⟩ := ck_bind h
                  refine WO_exk (σ' := [some (.lit 0 27 [.c (.int .i64 a0_0), .c (.int .i64 a0_1), .c (.int .i64 a0_2), .c (.int .i64 a0_3), .c (slC e28 a0_4), .c (slC e72 a0_5), .c (slC e65 a0_6), .c (slC e77 a0_7)]), some (.lit 0 30 [.c (slC e44 a1_0), .c (slC e28 a1_1)]), some (.lit 0 35 [.c (slC e44 r4.1), .c (slC e44 r4.2.1), .c (slC e44 r4.2.2.1), .c (slC e44 r4.2.2.2.1), .c (slC e44 r4.2.2.2.2.1), .c (slC e44 r4.2.2.2.2.2.1), .c (slC e44 r4.2.2.2.2.2.2.1)]), some (.lit 0 35 [.c (slC e44 r5.1), .c (slC e44 r5.2.1), .c (slC e44 r5.2.2.1), .c (slC e44 r5.2.2.2.1), .c (slC e44 r5.2.2.2.2.1), .c (slC e44 r5.2.2.2.2.2.1), .c (slC e44 r5.2.2.2.2.2.2.1)])]) (T' := [(65, .cell (.c (.bool true))), (77, .cell (.c (.bool (decide ((((r4.2.2.2.2.1.length : Int) + (r4.2.2.2.2.2.1.length : Int)) + (r4.2.2.2.2.2.2.1.length : Int)) = (0 : Int))))))]) (Φ := (inR .i64 ((r4.2.2.2.2.1.length : Int) + (r4.2.2.2.2.2.1.length : Int))) ∧ (inR .i64 (((r4.2.2.2.2.1.length : Int) + (r4.2.2.2.2.2.1.length : Int)) + (r4.2.2.2.2.2.2.1.length : Int))) ∧ (True)) 12 [65, 77] (by kernel_rfl) ⟨c13, c14, trivial⟩ ?_
                  obtain rfl := Option.some.inj h
                  refine WO_exk (σ' := [some (.lit 0 27 [.c (.int .i64 a0_0), .c (.int .i64 a0_1), .c (.int .i64 a0_2), .c (.int .i64 a0_3), .c (slC e28 a0_4), .c (slC e72 a0_5), .c (slC e65 a0_6), .c (slC e77 a0_7)]), some (.lit 0 30 [.c (slC e44 a1_0), .c (slC e28 a1_1)]), some (.lit 0 35 [.c (slC e44 r4.1), .c (slC e44 r4.2.1), .c (slC e44 r4.2.2.1), .c (slC e44 r4.2.2.2.1), .c (slC e44 r4.2.2.2.2.1), .c (slC e44 r4.2.2.2.2.2.1), .c (slC e44 r4.2.2.2.2.2.2.1)]), some (.lit 0 35 [.c (slC e44 r5.1), .c (slC e44 r5.2.1), .c (slC e44 r5.2.2.1), .c (slC e44 r5.2.2.2.1), .c (slC e44 r5.2.2.2.2.1), .c (slC e44 r5.2.2.2.2.2.1), .c (slC e44 r5.2.2.2.2.2.2.1)])]) (T' := [(78, .cell (.c (.bool (decide ((((r4.2.2.2.2.1.length : Int) + (r4.2.2.2.2.2.1.length : Int)) + (r4.2.2.2.2.2.2.1.length : Int)) = (0 : Int))))))]) (Φ := True) 1 [78] (by kernel_rfl) trivial J
                · have h := cond_f hb gy10; clear gy10
                  refine WO_ent (ent_bool (T' := [(65, .cell (.c (.bool false))), (7, .cell (.op 2 0 7 0 0))]) 65 hb (by kernel_rfl) (by kernel_rfl)) ?_
                  obtain rfl := Option.some.inj h
                  refine WO_exk (σ' := [some (.lit 0 27 [.c (.int .i64 a0_0), .c (.int .i64 a0_1), .c (.int .i64 a0_2), .c (.int .i64 a0_3), .c (slC e28 a0_4), .c (slC e72 a0_5), .c (slC e65 a0_6), .c (slC e77 a0_7)]), some (.lit 0 30 [.c (slC e44 a1_0), .c (slC e28 a1_1)]), some (.lit 0 35 [.c (slC e44 r4.1), .c (slC e44 r4.2.1), .c (slC e44 r4.2.2.1), .c (slC e44 r4.2.2.2.1), .c (slC e44 r4.2.2.2.2.1), .c (slC e44 r4.2.2.2.2.2.1), .c (slC e44 r4.2.2.2.2.2.2.1)]), some (.lit 0 35 [.c (slC e44 r5.1), .c (slC e44 r5.2.1), .c (slC e44 r5.2.2.1), .c (slC e44 r5.2.2.2.1), .c (slC e44 r5.2.2.2.2.1), .c (slC e44 r5.2.2.2.2.2.1), .c (slC e44 r5.2.2.2.2.2.2.1)])]) (T' := [(78, .cell (.c (.bool false)))]) (Φ := True) 13 [78] (by kernel_rfl) trivial J
            · intro J
              clear h
              rcases Bool.eq_false_or_eq_true y8 with hb | hb
              · have h := cond_t hb gy9; clear gy9
                refine WO_ent (ent_bool (T' := [(58, .cell (.c (.bool true))), (7, .cell (.op 2 0 7 0 0)), (9, .cell (.op 3 0 7 0 0))]) 58 hb (by kernel_rfl) (by kernel_rfl)) ?_
                refine WO_exk (σ' := [some (.lit 0 27 [.c (.int .i64 a0_0), .c (.int .i64 a0_1), .c (.int .i64 a0_2), .c (.int .i64 a0_3), .c (slC e28 a0_4), .c (slC e72 a0_5), .c (slC e65 a0_6), .c (slC e77 a0_7)]), some (.lit 0 30 [.c (slC e44 a1_0), .c (slC e28 a1_1)]), some (.lit 0 35 [.c (slC e44 r4.1), .c (slC e44 r4.2.1), .c (slC e44 r4.2.2.1), .c (slC e44 r4.2.2.2.1), .c (slC e44 r4.2.2.2.2.1), .c (slC e44 r4.2.2.2.2.2.1), .c (slC e44 r4.2.2.2.2.2.2.1)]), some (.lit 0 35 [.c (slC e44 r5.1), .c (slC e44 r5.2.1), .c (slC e44 r5.2.2.1), .c (slC e44 r5.2.2.2.1), .c (slC e44 r5.2.2.2.2.1), .c (slC e44 r5.2.2.2.2.2.1), .c (slC e44 r5.2.2.2.2.2.2.1)])]) (T' := [(7, .cell (.op 2 0 7 0 0)), (58, .cell (.c (.bool true))), (60, .cell (.c (slC e44 r4.2.2.2.1))), (62, .cell (.c (slC e44 r5.2.2.2.1)))]) (Φ := (True)) 4 [7, 58, 60, 62] (by kernel_rfl) trivial ?_
                obtain ⟨r15, gr15, h⟩ := bind_some h
                refine WO_call (f := 14) (all := [.cell (.c (slC e44 r4.2.2.2.1)), .cell (.c (slC e44 r5.2.2.2.1))]) (d := some 63) (r := .cell (.c (.bool r15))) (by kernel_rfl) (by kernel_rfl) (by kernel_rfl) Tryd.call14 (p14 L _ _ _ gr15) ?_
                obtain rfl := Option.some.inj h
                refine WO_exk (σ' := [some (.lit 0 27 [.c (.int .i64 a0_0), .c (.int .i64 a0_1), .c (.int .i64 a0_2), .c (.int .i64 a0_3), .c (slC e28 a0_4), .c (slC e72 a0_5), .c (slC e65 a0_6), .c (slC e77 a0_7)]), some (.lit 0 30 [.c (slC e44 a1_0), .c (slC e28 a1_1)]), some (.lit 0 35 [.c (slC e44 r4.1), .c (slC e44 r4.2.1), .c (slC e44 r4.2.2.1), .c (slC e44 r4.2.2.2.1), .c (slC e44 r4.2.2.2.2.1), .c (slC e44 r4.2.2.2.2.2.1), .c (slC e44 r4.2.2.2.2.2.2.1)]), some (.lit 0 35 [.c (slC e44 r5.1), .c (slC e44 r5.2.1), .c (slC e44 r5.2.2.1), .c (slC e44 r5.2.2.2.1), .c (slC e44 r5.2.2.2.2.1), .c (slC e44 r5.2.2.2.2.2.1), .c (slC e44 r5.2.2.2.2.2.2.1)])]) (T' := [(7, .cell (.op 2 0 7 0 0)), (64, .cell (.c (.bool r15)))]) (Φ := True) 1 [7, 64] (by kernel_rfl) trivial J
              · have h := cond_f hb gy9; clear gy9
                refine WO_ent (ent_bool (T' := [(58, .cell (.c (.bool false))), (7, .cell (.op 2 0 7 0 0)), (9, .cell (.op 3 0 7 0 0))]) 58 hb (by kernel_rfl) (by kernel_rfl)) ?_
                obtain rfl := Option.some.inj h
                refine WO_exk (σ' := [some (.lit 0 27 [.c (.int .i64 a0_0), .c (.int .i64 a0_1), .c (.int .i64 a0_2), .c (.int .i64 a0_3), .c (slC e28 a0_4), .c (slC e72 a0_5), .c (slC e65 a0_6), .c (slC e77 a0_7)]), some (.lit 0 30 [.c (slC e44 a1_0), .c (slC e28 a1_1)]), some (.lit 0 35 [.c (slC e44 r4.1), .c (slC e44 r4.2.1), .c (slC e44 r4.2.2.1), .c (slC e44 r4.2.2.2.1), .c (slC e44 r4.2.2.2.2.1), .c (slC e44 r4.2.2.2.2.2.1), .c (slC e44 r4.2.2.2.2.2.2.1)]), some (.lit 0 35 [.c (slC e44 r5.1), .c (slC e44 r5.2.1), .c (slC e44 r5.2.2.1), .c (slC e44 r5.2.2.2.1), .c (slC e44 r5.2.2.2.2.1), .c (slC e44 r5.2.2.2.2.2.1), .c (slC e44 r5.2.2.2.2.2.2.1)])]) (T' := [(7, .cell (.op 2 0 7 0 0)), (64, .cell (.c (.bool false)))]) (Φ := True) 6 [7, 64] (by kernel_rfl) trivial J
          · intro J
            clear h
            rcases Bool.eq_false_or_eq_true y7 with hb | hb
            · have h := cond_t hb gy8; clear gy8
              refine WO_ent (ent_bool (T' := [(51, .cell (.c (.bool true))), (7, .cell (.op 2 0 7 0 0)), (9, .cell (.op 3 0 7 0 0))]) 51 hb (by kernel_rfl) (by kernel_rfl)) ?_
              refine WO_exk (σ' := [some (.lit 0 27 [.c (.int .i64 a0_0), .c (.int .i64 a0_1), .c (.int .i64 a0_2), .c (.int .i64 a0_3), .c (slC e28 a0_4), .c (slC e72 a0_5), .c (slC e65 a0_6), .c (slC e77 a0_7)]), some (.lit 0 30 [.c (slC e44 a1_0), .c (slC e28 a1_1)]), some (.lit 0 35 [.c (slC e44 r4.1), .c (slC e44 r4.2.1), .c (slC e44 r4.2.2.1), .c (slC e44 r4.2.2.2.1), .c (slC e44 r4.2.2.2.2.1), .c (slC e44 r4.2.2.2.2.2.1), .c (slC e44 r4.2.2.2.2.2.2.1)]), some (.lit 0 35 [.c (slC e44 r5.1), .c (slC e44 r5.2.1), .c (slC e44 r5.2.2.1), .c (slC e44 r5.2.2.2.1), .c (slC e44 r5.2.2.2.2.1), .c (slC e44 r5.2.2.2.2.2.1), .c (slC e44 r5.2.2.2.2.2.2.1)])]) (T' := [(7, .cell (.op 2 0 7 0 0)), (9, .cell (.op 3 0 7 0 0)), (51, .cell (.c (.bool true))), (53, .cell (.c (slC e44 r4.2.2.1))), (55, .cell (.c (slC e44 r5.2.2.1)))]) (Φ := (True)) 4 [7, 9, 51, 53, 55] (by kernel_rfl) trivial ?_
              obtain ⟨r16, gr16, h⟩ := bind_some h
              refine WO_call (f := 14) (all := [.cell (.c (slC e44 r4.2.2.1)), .cell (.c (slC e44 r5.2.2.1))]) (d := some 56) (r := .cell (.c (.bool r16))) (by kernel_rfl) (by kernel_rfl) (by kernel_rfl) Tryd.call14 (p14 L _ _ _ gr16) ?_
              obtain rfl := Option.some.inj h
              refine WO_exk (σ' := [some (.lit 0 27 [.c (.int .i64 a0_0), .c (.int .i64 a0_1), .c (.int .i64 a0_2), .c (.int .i64 a0_3), .c (slC e28 a0_4), .c (slC e72 a0_5), .c (slC e65 a0_6), .c (slC e77 a0_7)]), some (.lit 0 30 [.c (slC e44 a1_0), .c (slC e28 a1_1)]), some (.lit 0 35 [.c (slC e44 r4.1), .c (slC e44 r4.2.1), .c (slC e44 r4.2.2.1), .c (slC e44 r4.2.2.2.1), .c (slC e44 r4.2.2.2.2.1), .c (slC e44 r4.2.2.2.2.2.1), .c (slC e44 r4.2.2.2.2.2.2.1)]), some (.lit 0 35 [.c (slC e44 r5.1), .c (slC e44 r5.2.1), .c (slC e44 r5.2.2.1), .c (slC e44 r5.2.2.2.1), .c (slC e44 r5.2.2.2.2.1), .c (slC e44 r5.2.2.2.2.2.1), .c (slC e44 r5.2.2.2.2.2.2.1)])]) (T' := [(7, .cell (.op 2 0 7 0 0)), (9, .cell (.op 3 0 7 0 0)), (57, .cell (.c (.bool r16)))]) (Φ := True) 1 [7, 9, 57] (by kernel_rfl) trivial J
            · have h := cond_f hb gy8; clear gy8
              refine WO_ent (ent_bool (T' := [(51, .cell (.c (.bool false))), (7, .cell (.op 2 0 7 0 0)), (9, .cell (.op 3 0 7 0 0))]) 51 hb (by kernel_rfl) (by kernel_rfl)) ?_
              obtain rfl := Option.some.inj h
              refine WO_exk (σ' := [some (.lit 0 27 [.c (.int .i64 a0_0), .c (.int .i64 a0_1), .c (.int .i64 a0_2), .c (.int .i64 a0_3), .c (slC e28 a0_4), .c (slC e72 a0_5), .c (slC e65 a0_6), .c (slC e77 a0_7)]), some (.lit 0 30 [.c (slC e44 a1_0), .c (slC e28 a1_1)]), some (.lit 0 35 [.c (slC e44 r4.1), .c (slC e44 r4.2.1), .c (slC e44 r4.2.2.1), .c (slC e44 r4.2.2.2.1), .c (slC e44 r4.2.2.2.2.1), .c (slC e44 r4.2.2.2.2.2.1), .c (slC e44 r4.2.2.2.2.2.2.1)]), some (.lit 0 35 [.c (slC e44 r5.1), .c (slC e44 r5.2.1), .c (slC e44 r5.2.2.1), .c (slC e44 r5.2.2.2.1), .c (slC e44 r5.2.2.2.2.1), .c (slC e44 r5.2.2.2.2.2.1), .c (slC e44 r5.2.2.2.2.2.2.1)])]) (T' := [(7, .cell (.op 2 0 7 0 0)), (9, .cell (.op 3 0 7 0 0)), (57, .cell (.c (.bool false)))]) (Φ := True) 6 [7, 9, 57] (by kernel_rfl) trivial J
        · intro J
          clear h
          rcases Bool.eq_false_or_eq_true y6 with hb | hb
          · have h := cond_t hb gy7; clear gy7
            refine WO_ent (ent_bool (T' := [(44, .cell (.c (.bool true))), (7, .cell (.op 2 0 7 0 0)), (9, .cell (.op 3 0 7 0 0))]) 44 hb (by kernel_rfl) (by kernel_rfl)) ?_
            refine WO_exk (σ' := [some (.lit 0 27 [.c (.int .i64 a0_0), .c (.int .i64 a0_1), .c (.int .i64 a0_2), .c (.int .i64 a0_3), .c (slC e28 a0_4), .c (slC e72 a0_5), .c (slC e65 a0_6), .c (slC e77 a0_7)]), some (.lit 0 30 [.c (slC e44 a1_0), .c (slC e28 a1_1)]), some (.lit 0 35 [.c (slC e44 r4.1), .c (slC e44 r4.2.1), .c (slC e44 r4.2.2.1), .c (slC e44 r4.2.2.2.1), .c (slC e44 r4.2.2.2.2.1), .c (slC e44 r4.2.2.2.2.2.1), .c (slC e44 r4.2.2.2.2.2.2.1)]), some (.lit 0 35 [.c (slC e44 r5.1), .c (slC e44 r5.2.1), .c (slC e44 r5.2.2.1), .c (slC e44 r5.2.2.2.1), .c (slC e44 r5.2.2.2.2.1), .c (slC e44 r5.2.2.2.2.2.1), .c (slC e44 r5.2.2.2.2.2.2.1)])]) (T' := [(7, .cell (.op 2 0 7 0 0)), (9, .cell (.op 3 0 7 0 0)), (44, .cell (.c (.bool true))), (46, .cell (.c (slC e44 r4.2.1))), (48, .cell (.c (slC e44 r5.2.1)))]) (Φ := (True)) 4 [7, 9, 44, 46, 48] (by kernel_rfl) trivial ?_
            obtain ⟨r17, gr17, h⟩ := bind_some h
            refine WO_call (f := 14) (all := [.cell (.c (slC e44 r4.2.1)), .cell (.c (slC e44 r5.2.1))]) (d := some 49) (r := .cell (.c (.bool r17))) (by kernel_rfl) (by kernel_rfl) (by kernel_rfl) Tryd.call14 (p14 L _ _ _ gr17) ?_
            obtain rfl := Option.some.inj h
            refine WO_exk (σ' := [some (.lit 0 27 [.c (.int .i64 a0_0), .c (.int .i64 a0_1), .c (.int .i64 a0_2), .c (.int .i64 a0_3), .c (slC e28 a0_4), .c (slC e72 a0_5), .c (slC e65 a0_6), .c (slC e77 a0_7)]), some (.lit 0 30 [.c (slC e44 a1_0), .c (slC e28 a1_1)]), some (.lit 0 35 [.c (slC e44 r4.1), .c (slC e44 r4.2.1), .c (slC e44 r4.2.2.1), .c (slC e44 r4.2.2.2.1), .c (slC e44 r4.2.2.2.2.1), .c (slC e44 r4.2.2.2.2.2.1), .c (slC e44 r4.2.2.2.2.2.2.1)]), some (.lit 0 35 [.c (slC e44 r5.1), .c (slC e44 r5.2.1), .c (slC e44 r5.2.2.1), .c (slC e44 r5.2.2.2.1), .c (slC e44 r5.2.2.2.2.1), .c (slC e44 r5.2.2.2.2.2.1), .c (slC e44 r5.2.2.2.2.2.2.1)])]) (T' := [(7, .cell (.op 2 0 7 0 0)), (9, .cell (.op 3 0 7 0 0)), (50, .cell (.c (.bool r17)))]) (Φ := True) 1 [7, 9, 50] (by kernel_rfl) trivial J
          · have h := cond_f hb gy7; clear gy7
            refine WO_ent (ent_bool (T' := [(44, .cell (.c (.bool false))), (7, .cell (.op 2 0 7 0 0)), (9, .cell (.op 3 0 7 0 0))]) 44 hb (by kernel_rfl) (by kernel_rfl)) ?_
            obtain rfl := Option.some.inj h
            refine WO_exk (σ' := [some (.lit 0 27 [.c (.int .i64 a0_0), .c (.int .i64 a0_1), .c (.int .i64 a0_2), .c (.int .i64 a0_3), .c (slC e28 a0_4), .c (slC e72 a0_5), .c (slC e65 a0_6), .c (slC e77 a0_7)]), some (.lit 0 30 [.c (slC e44 a1_0), .c (slC e28 a1_1)]), some (.lit 0 35 [.c (slC e44 r4.1), .c (slC e44 r4.2.1), .c (slC e44 r4.2.2.1), .c (slC e44 r4.2.2.2.1), .c (slC e44 r4.2.2.2.2.1), .c (slC e44 r4.2.2.2.2.2.1), .c (slC e44 r4.2.2.2.2.2.2.1)]), some (.lit 0 35 [.c (slC e44 r5.1), .c (slC e44 r5.2.1), .c (slC e44 r5.2.2.1), .c (slC e44 r5.2.2.2.1), .c (slC e44 r5.2.2.2.2.1), .c (slC e44 r5.2.2.2.2.2.1), .c (slC e44 r5.2.2.2.2.2.2.1)])]) (T' := [(7, .cell (.op 2 0 7 0 0)), (9, .cell (.op 3 0 7 0 0)), (50, .cell (.c (.bool false)))]) (Φ := True) 6 [7, 9, 50] (by kernel_rfl) trivial J
      · intro J
        clear h
        rcases Bool.eq_false_or_eq_true (decide (r4.2.2.2.2.2.2.2 = r5.2.2.2.2.2.2.2)) with hb | hb
        · have h := cond_t hb gy6; clear gy6
          refine WO_ent (ent_bool (T' := [(37, .cell (.c (.bool true))), (7, .cell (.op 2 0 7 0 0)), (9, .cell (.op 3 0 7 0 0))]) 37 hb (by kernel_rfl) (by kernel_rfl)) ?_
          refine WO_exk (σ' := [some (.lit 0 27 [.c (.int .i64 a0_0), .c (.int .i64 a0_1), .c (.int .i64 a0_2), .c (.int .i64 a0_3), .c (slC e28 a0_4), .c (slC e72 a0_5), .c (slC e65 a0_6), .c (slC e77 a0_7)]), some (.lit 0 30 [.c (slC e44 a1_0), .c (slC e28 a1_1)]), some (.lit 0 35 [.c (slC e44 r4.1), .c (slC e44 r4.2.1), .c (slC e44 r4.2.2.1), .c (slC e44 r4.2.2.2.1), .c (slC e44 r4.2.2.2.2.1), .c (slC e44 r4.2.2.2.2.2.1), .c (slC e44 r4.2.2.2.2.2.2.1)]), some (.lit 0 35 [.c (slC e44 r5.1), .c (slC e44 r5.2.1), .c (slC e44 r5.2.2.1), .c (slC e44 r5.2.2.2.1), .c (slC e44 r5.2.2.2.2.1), .c (slC e44 r5.2.2.2.2.2.1), .c (slC e44 r5.2.2.2.2.2.2.1)])]) (T' := [(7, .cell (.op 2 0 7 0 0)), (9, .cell (.op 3 0 7 0 0)), (37, .cell (.c (.bool true))), (39, .cell (.c (slC e44 r4.1))), (41, .cell (.c (slC e44 r5.1)))]) (Φ := (True)) 4 [7, 9, 37, 39, 41] (by kernel_rfl) trivial ?_
          obtain ⟨r18, gr18, h⟩ := bind_some h
          refine WO_call (f := 14) (all := [.cell (.c (slC e44 r4.1)), .cell (.c (slC e44 r5.1))]) (d := some 42) (r := .cell (.c (.bool r18))) (by kernel_rfl) (by kernel_rfl) (by kernel_rfl) Tryd.call14 (p14 L _ _ _ gr18) ?_
          obtain rfl := Option.some.inj h
          refine WO_exk (σ' := [some (.lit 0 27 [.c (.int .i64 a0_0), .c (.int .i64 a0_1), .c (.int .i64 a0_2), .c (.int .i64 a0_3), .c (slC e28 a0_4), .c (slC e72 a0_5), .c (slC e65 a0_6), .c (slC e77 a0_7)]), some (.lit 0 30 [.c (slC e44 a1_0), .c (slC e28 a1_1)]), some (.lit 0 35 [.c (slC e44 r4.1), .c (slC e44 r4.2.1), .c (slC e44 r4.2.2.1), .c (slC e44 r4.2.2.2.1), .c (slC e44 r4.2.2.2.2.1), .c (slC e44 r4.2.2.2.2.2.1), .c (slC e44 r4.2.2.2.2.2.2.1)]), some (.lit 0 35 [.c (slC e44 r5.1), .c (slC e44 r5.2.1), .c (slC e44 r5.2.2.1), .c (slC e44 r5.2.2.2.1), .c (slC e44 r5.2.2.2.2.1), .c (slC e44 r5.2.2.2.2.2.1), .c (slC e44 r5.2.2.2.2.2.2.1)])]) (T' := [(7, .cell (.op 2 0 7 0 0)), (9, .cell (.op 3 0 7 0 0)), (43, .cell (.c (.bool r18)))]) (Φ := True) 1 [7, 9, 43] (by kernel_rfl) trivial J
        · have h := cond_f hb gy6; clear gy6
          refine WO_ent (ent_bool (T' := [(37, .cell (.c (.bool false))), (7, .cell (.op 2 0 7 0 0)), (9, .cell (.op 3 0 7 0 0))]) 37 hb (by kernel_rfl) (by kernel_rfl)) ?_
          obtain rfl := Option.some.inj h
          refine WO_exk (σ' := [some (.lit 0 27 [.c (.int .i64 a0_0), .c (.int .i64 a0_1), .c (.int .i64 a0_2), .c (.int .i64 a0_3), .c (slC e28 a0_4), .c (slC e72 a0_5), .c (slC e65 a0_6), .c (slC e77 a0_7)]), some (.lit 0 30 [.c (slC e44 a1_0), .c (slC e28 a1_1)]), some (.lit 0 35 [.c (slC e44 r4.1), .c (slC e44 r4.2.1), .c (slC e44 r4.2.2.1), .c (slC e44 r4.2.2.2.1), .c (slC e44 r4.2.2.2.2.1), .c (slC e44 r4.2.2.2.2.2.1), .c (slC e44 r4.2.2.2.2.2.2.1)]), some (.lit 0 35 [.c (slC e44 r5.1), .c (slC e44 r5.2.1), .c (slC e44 r5.2.2.1), .c (slC e44 r5.2.2.2.1), .c (slC e44 r5.2.2.2.2.1), .c (slC e44 r5.2.2.2.2.2.1), .c (slC e44 r5.2.2.2.2.2.2.1)])]) (T' := [(7, .cell (.op 2 0 7 0 0)), (9, .cell (.op 3 0 7 0 0)), (43, .cell (.c (.bool false)))]) (Φ := True) 6 [7, 9, 43] (by kernel_rfl) trivial J
  · intro J
    clear h
    rcases Bool.eq_false_or_eq_true (!r1) with hb | hb
    · have h := cond_t hb gy2; clear gy2
      refine WO_ent (ent_bool (T' := [(14, .cell (.c (.bool true))), (2, .cell (.c (.int .i64 a2))), (3, .cell (.op 0 0 8 0 0)), (4, .cell (.op 1 0 2 0 0))]) 14 hb (by kernel_rfl) (by kernel_rfl)) ?_
      obtain rfl := Option.some.inj h
      refine WO_exk (σ' := [some (.lit 0 27 [.c (.int .i64 a0_0), .c (.int .i64 a0_1), .c (.int .i64 a0_2), .c (.int .i64 a0_3), .c (slC e28 a0_4), .c (slC e72 a0_5), .c (slC e65 a0_6), .c (slC e77 a0_7)]), some (.lit 0 30 [.c (slC e44 a1_0), .c (slC e28 a1_1)])]) (T' := [(2, .cell (.c (.int .i64 a2))), (3, .cell (.op 0 0 8 0 0)), (4, .cell (.op 1 0 2 0 0)), (18, .cell (.c (.bool true)))]) (Φ := True) 4 [2, 3, 4, 18] (by kernel_rfl) trivial J
    · have h := cond_f hb gy2; clear gy2
      refine WO_ent (ent_bool (T' := [(14, .cell (.c (.bool false))), (2, .cell (.c (.int .i64 a2))), (3, .cell (.op 0 0 8 0 0)), (4, .cell (.op 1 0 2 0 0))]) 14 hb (by kernel_rfl) (by kernel_rfl)) ?_
      refine WO_exk (σ' := [some (.lit 0 27 [.c (.int .i64 a0_0), .c (.int .i64 a0_1), .c (.int .i64 a0_2), .c (.int .i64 a0_3), .c (slC e28 a0_4), .c (slC e72 a0_5), .c (slC e65 a0_6), .c (slC e77 a0_7)]), some (.lit 0 30 [.c (slC e44 a1_0), .c (slC e28 a1_1)])]) (T' := [(2, .cell (.c (.int .i64 a2))), (3, .cell (.op 0 0 8 0 0)), (4, .cell (.op 1 0 2 0 0)), (14, .cell (.c (.bool false))), (15, .agg [.c (slC e44 a1_0), .c (slC e28 a1_1)])]) (Φ := (True)) 1 [2, 3, 4, 14, 15] (by kernel_rfl) trivial ?_
      obtain ⟨r19, gr19, h⟩ := bind_some h
      refine WO_call (f := 10) (all := [.agg [.c (slC e44 a1_0), .c (slC e28 a1_1)]]) (d := some 16) (r := .cell (.c (.bool r19))) (by kernel_rfl) (by kernel_rfl) (by kernel_rfl) Tryd.call10 (p10 L _ _ _ gr19) ?_
      refine WO_exk (σ' := [some (.lit 0 27 [.c (.int .i64 a0_0), .c (.int .i64 a0_1), .c (.int .i64 a0_2), .c (.int .i64 a0_3), .c (slC e28 a0_4), .c (slC e72 a0_5), .c (slC e65 a0_6), .c (slC e77 a0_7)]), some (.lit 0 30 [.c (slC e44 a1_0), .c (slC e28 a1_1)])]) (T' := [(2, .cell (.c (.int .i64 a2))), (3, .cell (.op 0 0 8 0 0)), (4, .cell (.op 1 0 2 0 0)), (14, .cell (.c (.bool false))), (17, .cell (.c (.bool (!r19))))]) (Φ := (True)) 1 [2, 3, 4, 14, 17] (by kernel_rfl) trivial ?_
      obtain rfl := Option.some.inj h
      refine WO_exk (σ' := [some (.lit 0 27 [.c (.int .i64 a0_0), .c (.int .i64 a0_1), .c (.int .i64 a0_2), .c (.int .i64 a0_3), .c (slC e28 a0_4), .c (slC e72 a0_5), .c (slC e65 a0_6), .c (slC e77 a0_7)]), some (.lit 0 30 [.c (slC e44 a1_0), .c (slC e28 a1_1)])]) (T' := [(2, .cell (.c (.int .i64 a2))), (3, .cell (.op 0 0 8 0 0)), (4, .cell (.op 1 0 2 0 0)), (18, .cell (.c (.bool (!r19))))]) (Φ := True) 1 [2, 3, 4, 18] (by kernel_rfl) trivial J
end Go.Proofs.YtkbpafipbhaknaaDoor
