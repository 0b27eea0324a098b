/- For every two valid systems, small enough to be looked at: the same words exactly if the same but for the fixed columns. No conditions. -/
import Derived.Test.YtkbpafipbhaknaaDoorQ4E8
import Derived.Test.YtkbpafipbhaknaaDoorQ4G1
namespace Go.Proofs.YtkbpafipbhaknaaDoor.systemWords
open Go Go.Av Go.RowKit Go.ChangeShapes
set_option maxRecDepth 100000

theorem contract (H : Type) (enc : TypeId × Value → H) (W : World) (base : Nat) (args : Array Value) (ds gs : List (DataW H)) (before : List MemPlace)
    (hval : ∀ (j : Nat) t v, Tryd.f4.params[j]? = some t → args[j]? = some v → Value.okWide Tryd.prog W .any base t v)
    (hW : DataW.Whole enc Tryd.prog Tryd.f4.params.toList Rows.systemWordsSpec.vars false W args.toList ds gs before)
    (hsz : (DataW.weightsEach Tryd.prog (Tryd.f4.params.toList ++ (OpenSpec.ofChange Rows.systemWordsSpec).bare.plain.varTypes Tryd.prog) (ds ++ gs)).all (· ≤ reachBytes) = true)
    (hL : laidMetH Tryd.prog Rows.systemWordsRow.laid W) :
    Calls Tryd.prog 4 args W fun e W' => ∃ v, e = .returned v ∧ Rows.systemWordsSpec.post enc Tryd.prog Tryd.f4 false true false false W args v W' := by
  have hW' := hW
  obtain ⟨p, q, hA, hV, rfl, hfz, hnd⟩ := hW
  rw [Tryd.params4] at hA hval hsz
  obtain ⟨v0, vs0, d0, ds0, p0, q0, hargs, rfl, rfl, t0, r0⟩ := trodAll_cons hA
  obtain ⟨v1, vs1, d1, ds1, p1, q1, rfl, rfl, rfl, t1, r1⟩ := trodAll_cons r0
  obtain ⟨rfl, rfl, rfl⟩ := trodAll_nil r1
  have hw : ∀ (j : Nat) t (d : DataW H), [27, 27][j]? = some t → [d0, d1][j]? = some d → wts Tryd.prog t d := fun j t d ht hd n hn => by
    have := List.all_eq_true.1 hsz n (DataW.weights_mem_each (j := j) (by rw [List.getElem?_append_left (lt_of ht)]; exact ht) (by rw [List.getElem?_append_left (lt_of hd)]; exact hd) n hn)
    simpa using this
  have hargs' : ∀ (j : Nat) v, [v0, v1][j]? = some v → args[j]? = some v := fun j v h => by rw [← hargs] at h; simpa using h
  obtain ⟨x0, h0, hv0⟩ := arg_agg rd27 (fun _ => rfl) (.inl ⟨_, Tryd.underlying27⟩) (hval 0 27 v0 rfl (hargs' 0 _ rfl)) t0 (hw 0 _ _ rfl rfl)
  obtain ⟨x1, h1, hv1⟩ := arg_agg rd27 (fun _ => rfl) (.inl ⟨_, Tryd.underlying27⟩) (hval 1 27 v1 rfl (hargs' 1 _ rfl)) t1 (hw 1 _ _ rfl rfl)
  have hpure := p4 whole x0.1 x0.2.1 x0.2.2.1 x0.2.2.2.1 x0.2.2.2.2.1 x0.2.2.2.2.2.1 x0.2.2.2.2.2.2.1 x0.2.2.2.2.2.2.2 x1.1 x1.2.1 x1.2.2.1 x1.2.2.2.1 x1.2.2.2.2.1 x1.2.2.2.2.2.1 x1.2.2.2.2.2.2.1 x1.2.2.2.2.2.2.2 true
    (lawWords _ _ _ _ _ _ _ _ _ _ _ _ _ _ _ _ (bd_of h0) (rg_of h0) (bd_of h1) (rg_of h1))
  exact contract_of (X := X) hpure (stand hL) (by rw [hargs]; exact (VRs_cons hv0 (VRs_cons hv1 VRs_nil))) laidOut (by kernel_rfl) (by kernel_rfl) Tryd.underlying4 rfl
    (fun ds hd => by
      rw [Tryd.params4] at hd
      match ds, hd with
      | [a, b], _ => rfl) hW'

def zArgs : Array Value := #[.agg #[.int .i64 0, .int .i64 0, .int .i64 0, .int .i64 0, .slice none 0 0, .slice none 0 0, .slice none 0 0, .slice none 0 0], .agg #[.int .i64 0, .int .i64 0, .int .i64 0, .int .i64 0, .slice none 0 0, .slice none 0 0, .slice none 0 0, .slice none 0 0]]
theorem reads (os : Os) {H : Type} (enc : TypeId × Value → H) : ∃ x, DataW.whole enc Tryd.prog ((w0 os).forCall (fun _ _ => 0) ⟨#[], zArgs, []⟩).memory Tryd.f4.params.toList Rows.systemWordsSpec.vars false zArgs.toList 8 = some x :=
  ⟨([.agg [.lit (.int .i64 0), .lit (.int .i64 0), .lit (.int .i64 0), .lit (.int .i64 0), .nil, .nil, .nil, .nil], .agg [.lit (.int .i64 0), .lit (.int .i64 0), .lit (.int .i64 0), .lit (.int .i64 0), .nil, .nil, .nil, .nil]], [], []), by kernel_rfl⟩

theorem lifted (os : Os) (started : os.Started) (H : Type) (enc : TypeId × Value → H) (F : Stop.Interp) :
    ReturnsInHanded {} Tryd.checked os 4 .any ((OpenSpec.ofChange Rows.systemWordsSpec).preRow enc Tryd.prog Tryd.f4 Rows.systemWordsRow.domain false Rows.systemWordsRow.laid) (((OpenSpec.ofChange Rows.systemWordsSpec).at F).post enc Tryd.prog Tryd.f4 false true false false) := by
  obtain ⟨x, hx⟩ := reads os enc
  refine returnsInHanded_of_row (C := Tryd.checked) (s := OpenSpec.ofChange Rows.systemWordsSpec) ownK started (by kernel_rfl) Tryd.func4
    (witness_row_atRef (enc := enc) (C := Tryd.checked) false (w0 os) zArgs (w0_os os) (by kernel_rfl) (by kernel_rfl) (by kernel_rfl)
      (OpenSpec.preRow_of_cond 8 hx (by rfl) (fun k hk => by cases hk) (by kernel_rfl) (w0_met os zArgs))) ?_
  intro W base args ds gs before hval hW _ _ hsz hL _ _
  exact contract H enc W base args ds gs before hval hW hsz hL

theorem said : Rows.SystemWordsSaid :=
  OpenClaim.holds_of_cond 4 Tryd.f4 rfl rfl rfl rfl rfl rfl rfl ⟨rfl, rfl, rfl, rfl, rfl⟩ rfl rfl rfl rfl rfl (by kernel_rfl) Tryd.func4 (by kernel_rfl)
    (of_decide_eq_true (by kernel_rfl)) (by unfold Func.isWrapper; first | (rw [if_pos (by decide +kernel)]; kernel_rfl) | (rw [if_neg (by decide +kernel)]; exact ⟨rfl, rfl⟩))
    (fun os started H enc _ F => by rw [OpenClaim.pre_eq_preRow]; exact lifted os started H enc F)

theorem plain (f : FuncId) (fn : Func) (hf : Tryd.pinned.checked.prog.funcNamed "attestor/attestorlaw13.SystemWords" = some f) (hfn : Tryd.pinned.checked.prog.funcs[f]? = some fn) :
    false = Tryd.pinned.checked.prog.looks [] ∧ ∀ (j : Nat) t, fn.params[j]? = some t → Tryd.pinned.checked.prog.wantsStandIn t = false := by
  obtain rfl : f = 4 := Option.some.inj ((show Tryd.prog.funcNamed "attestor/attestorlaw13.SystemWords" = some 4 by kernel_rfl).symm.trans hf) |>.symm
  obtain rfl : fn = Tryd.f4 := (Option.some.inj (Tryd.func4.symm.trans hfn)).symm
  refine ⟨by kernel_rfl, fun j t ht => ?_⟩
  rw [Tryd.params4] at ht
  have : t = 27 := by simpa using Array.mem_of_getElem? ht
  subst this
  exact (show Tryd.prog.wantsStandIn 27 = false by kernel_rfl)

theorem card : Rows.SystemWordsCardSaid :=
  Claim7.holds_tied_plain_at .later [] _ _ _ _ said (fun _ h => by cases h) (by kernel_rfl) (fun _ h => by cases h) systemWords_row_tie rfl ⟨rfl, rfl⟩ (by kernel_rfl) rfl plain (by kernel_rfl)
end Go.Proofs.YtkbpafipbhaknaaDoor.systemWords
namespace Go.Proofs.YtkbpafipbhaknaaDoor
theorem systemWords_card : Rows.SystemWordsCardSaid := systemWords.card
end Go.Proofs.YtkbpafipbhaknaaDoor
