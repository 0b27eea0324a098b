/- What the arguments of the laws read as; the table of the fields; a start that fits. -/
import Derived.Test.YtkbpafipbhaknaaDoorTie
import Derived.Test.YtkbpafipbhaknaaDoorCards
import Derived.Test.YtkbpafipbhaknaaDoorQ4E2
import Derived.Test.YtkbpafipbhaknaaDoorQ4A6
namespace Go.Proofs.YtkbpafipbhaknaaDoor
open Go Go.Av Go.RowKit Go.ChangeShapes
set_option maxRecDepth 100000
set_option linter.unusedVariables false

theorem laidOut : laidOutB Tryd.prog = true := by kernel_rfl
theorem ownK : ownKnob Tryd.prog.godebug = none := by kernel_rfl

abbrev QL (B : Nat) {α : Type} (Q : α → Prop) (l : List α) : Prop := l.length * B ≤ reachBytes ∧ ∀ x ∈ l, Q x
theorem rd3 : Rd Tryd.prog 3 e3 (inR .i64) := Rd_int .i64 e3 Tryd.underlying3 rfl (fun _ => rfl)
theorem rd44 : Rd Tryd.prog 44 e44 (inR .u64) := Rd_int .u64 e44 Tryd.underlying44 rfl (fun _ => rfl)
theorem rd59 : Rd Tryd.prog 59 e59 (inR .u8) := Rd_int .u8 e59 Tryd.underlying59 rfl (fun _ => rfl)
theorem rd55 : Rd Tryd.prog 55 e59 (inR .u8) := Rd_int .u8 e59 Tryd.underlying55 rfl (fun _ => rfl)
theorem rd28 : Rd Tryd.prog 28 e28 (QL 8 (inR .u64)) := Rd_slice rd44 e28 Tryd.underlying28 (by kernel_rfl) (by kernel_rfl) (by decide) (by decide) rfl (fun _ => rfl)
def Q61 (v : Vr) : Prop := inR .u8 v.1 ∧ inR .i64 v.2
theorem rd61 : Rd Tryd.prog 61 e61 Q61 :=
  Rd_struct (E := e61) Tryd.underlying61 (by kernel_rfl) rfl (fs_cons rd59 (by kernel_rfl) (fun _ => rfl) (fs_one rd3 (by kernel_rfl) (fun _ => rfl) rfl rfl rfl (fun _ => rfl)) rfl rfl rfl rfl (fun _ => rfl)) (fun _ h => h)
theorem rd62 : Rd Tryd.prog 62 e62 (QL 16 Q61) := Rd_slice rd61 e62 Tryd.underlying62 (by kernel_rfl) (by kernel_rfl) (by decide) (by decide) rfl (fun _ => rfl)
def Q74 (m : Mo) : Prop := inR .u64 m.1 ∧ QL 16 Q61 m.2
theorem rd74 : Rd Tryd.prog 74 e74 Q74 :=
  Rd_struct (E := e74) Tryd.underlying74 (by kernel_rfl) rfl (fs_cons rd44 (by kernel_rfl) (fun _ => rfl) (fs_one rd62 (by kernel_rfl) (fun _ => rfl) rfl rfl rfl (fun _ => rfl)) rfl rfl rfl rfl (fun _ => rfl)) (fun _ h => h)
def e70 : En (List Mo) := ⟨1, fun x => [slC e74 x], []⟩
theorem rd70 : Rd Tryd.prog 70 e70 (QL 32 Q74) := Rd_slice rd74 e70 Tryd.underlying70 (by kernel_rfl) (by kernel_rfl) (by decide) (by decide) rfl (fun _ => rfl)
def Q72 (r : Ru) : Prop := inR .u8 r.1 ∧ QL 32 Q74 r.2
theorem rd72 : Rd Tryd.prog 72 e72 Q72 :=
  Rd_struct (E := e72) Tryd.underlying72 (by kernel_rfl) rfl (fs_cons rd55 (by kernel_rfl) (fun _ => rfl) (fs_one rd70 (by kernel_rfl) (fun _ => rfl) rfl rfl rfl (fun _ => rfl)) rfl rfl rfl rfl (fun _ => rfl)) (fun _ h => h)
theorem rd63 : Rd Tryd.prog 63 e63 (QL 24 (QL 16 Q61)) := Rd_slice rd62 e63 Tryd.underlying63 (by kernel_rfl) (by kernel_rfl) (by decide) (by decide) rfl (fun _ => rfl)
def Q65 (q : Pm) : Prop := QL 24 (QL 16 Q61) q.1 ∧ QL 24 (QL 16 Q61) q.2
theorem rd65 : Rd Tryd.prog 65 e65 Q65 :=
  Rd_struct (E := e65) Tryd.underlying65 (by kernel_rfl) rfl (fs_cons rd63 (by kernel_rfl) (fun _ => rfl) (fs_one rd63 (by kernel_rfl) (fun _ => rfl) rfl rfl rfl (fun _ => rfl)) rfl rfl rfl rfl (fun _ => rfl)) (fun _ h => h)
def Q77 (l : Lk) : Prop := QL 16 Q61 l.1 ∧ QL 16 Q61 l.2.1 ∧ Q61 l.2.2
theorem rd77 : Rd Tryd.prog 77 e77 Q77 :=
  Rd_struct (E := e77) Tryd.underlying77 (by kernel_rfl) rfl (fs_cons rd62 (by kernel_rfl) (fun _ => rfl) (fs_cons rd62 (by kernel_rfl) (fun _ => rfl) (fs_one rd61 (by kernel_rfl) (fun _ => rfl) rfl rfl rfl (fun _ => rfl)) rfl rfl rfl rfl (fun _ => rfl)) rfl rfl rfl rfl (fun _ => rfl)) (fun _ h => h)
def e22 : En (List (List Int)) := ⟨1, fun x => [slC e28 x], []⟩
def e23 : En (List Ru) := ⟨1, fun x => [slC e72 x], []⟩
def e24 : En (List Pm) := ⟨1, fun x => [slC e65 x], []⟩
def e25 : En (List Lk) := ⟨1, fun x => [slC e77 x], []⟩
theorem rd22 : Rd Tryd.prog 22 e22 (QL 24 (QL 8 (inR .u64))) := Rd_slice rd28 e22 Tryd.underlying22 (by kernel_rfl) (by kernel_rfl) (by decide) (by decide) rfl (fun _ => rfl)
theorem rd23 : Rd Tryd.prog 23 e23 (QL 32 Q72) := Rd_slice rd72 e23 Tryd.underlying23 (by kernel_rfl) (by kernel_rfl) (by decide) (by decide) rfl (fun _ => rfl)
theorem rd24 : Rd Tryd.prog 24 e24 (QL 48 Q65) := Rd_slice rd65 e24 Tryd.underlying24 (by kernel_rfl) (by kernel_rfl) (by decide) (by decide) rfl (fun _ => rfl)
theorem rd25 : Rd Tryd.prog 25 e25 (QL 64 Q77) := Rd_slice rd77 e25 Tryd.underlying25 (by kernel_rfl) (by kernel_rfl) (by decide) (by decide) rfl (fun _ => rfl)
abbrev Sy := Int × Int × Int × Int × List (List Int) × List Ru × List Pm × List Lk
def e27 : En Sy := ⟨8, fun x => [.int .i64 x.1, .int .i64 x.2.1, .int .i64 x.2.2.1, .int .i64 x.2.2.2.1, slC e28 x.2.2.2.2.1, slC e72 x.2.2.2.2.2.1, slC e65 x.2.2.2.2.2.2.1, slC e77 x.2.2.2.2.2.2.2], (0, 0, 0, 0, [], [], [], [])⟩
def Q27 (s : Sy) : Prop := inR .i64 s.1 ∧ inR .i64 s.2.1 ∧ inR .i64 s.2.2.1 ∧ inR .i64 s.2.2.2.1 ∧ QL 24 (QL 8 (inR .u64)) s.2.2.2.2.1 ∧ QL 32 Q72 s.2.2.2.2.2.1 ∧ QL 48 Q65 s.2.2.2.2.2.2.1 ∧ QL 64 Q77 s.2.2.2.2.2.2.2
theorem rd27 : Rd Tryd.prog 27 e27 Q27 :=
  Rd_struct (E := e27) Tryd.underlying27 (by kernel_rfl) rfl (fs_cons rd3 (by kernel_rfl) (fun _ => rfl) (fs_cons rd3 (by kernel_rfl) (fun _ => rfl) (fs_cons rd3 (by kernel_rfl) (fun _ => rfl) (fs_cons rd3 (by kernel_rfl) (fun _ => rfl)
    (fs_cons rd22 (by kernel_rfl) (fun _ => rfl) (fs_cons rd23 (by kernel_rfl) (fun _ => rfl) (fs_cons rd24 (by kernel_rfl) (fun _ => rfl) (fs_one rd25 (by kernel_rfl) (fun _ => rfl) rfl rfl rfl (fun _ => rfl)) rfl rfl rfl rfl (fun _ => rfl)) rfl rfl rfl rfl (fun _ => rfl)) rfl rfl rfl rfl (fun _ => rfl)) rfl rfl rfl rfl (fun _ => rfl)) rfl rfl rfl rfl (fun _ => rfl)) rfl rfl rfl rfl (fun _ => rfl)) rfl rfl rfl rfl (fun _ => rfl)) (fun _ h => h)
abbrev Tr := List Int × List (List Int)
def e30 : En Tr := ⟨2, fun x => [slC e44 x.1, slC e28 x.2], ([], [])⟩
def Q30 (t : Tr) : Prop := QL 8 (inR .u64) t.1 ∧ QL 24 (QL 8 (inR .u64)) t.2
theorem rd30 : Rd Tryd.prog 30 e30 Q30 :=
  Rd_struct (E := e30) Tryd.underlying30 (by kernel_rfl) rfl (fs_cons rd28 (by kernel_rfl) (fun _ => rfl) (fs_one rd22 (by kernel_rfl) (fun _ => rfl) rfl rfl rfl (fun _ => rfl)) rfl rfl rfl rfl (fun _ => rfl)) (fun _ h => h)

theorem le_BD {n B : Nat} (h : n * B ≤ reachBytes) (hB : 0 < B) : n ≤ BD := by
  have h1 : n * 1 ≤ n * B := Nat.mul_le_mul_left n hB
  have h2 : reachBytes ≤ BD := by unfold BD; exact reach_lt
  omega
theorem bd_of {s : Sy} (h : Q27 s) : Bd s.2.2.2.2.1 s.2.2.2.2.2.1 s.2.2.2.2.2.2.1 s.2.2.2.2.2.2.2 := by
  obtain ⟨_, _, _, _, h4, h5, h6, h7⟩ := h
  refine ⟨⟨le_BD h4.1 (by decide), fun c hc => le_BD (h4.2 c hc).1 (by decide)⟩, ⟨le_BD h5.1 (by decide), fun r hr => ⟨le_BD (h5.2 r hr).2.1 (by decide), fun m hm => le_BD ((h5.2 r hr).2.2 m hm).2.1 (by decide)⟩⟩,
    ⟨le_BD h6.1 (by decide), fun q hq => ⟨⟨le_BD (h6.2 q hq).1.1 (by decide), fun t ht => le_BD ((h6.2 q hq).1.2 t ht).1 (by decide)⟩, ⟨le_BD (h6.2 q hq).2.1 (by decide), fun t ht => le_BD ((h6.2 q hq).2.2 t ht).1 (by decide)⟩⟩⟩,
    ⟨le_BD h7.1 (by decide), fun l hl => ⟨le_BD (h7.2 l hl).1.1 (by decide), le_BD (h7.2 l hl).2.1.1 (by decide)⟩⟩⟩

/-! ### the table -/
def recs : List Rec := [(97, 5, 5, 5, [3]), (257, 3, 8, 3, []), (12289, 11, 12, 5, [3]), (998244353, 3, 23, 3, [7, 17])]
theorem stand {W : World} (h : laidMetH Tryd.prog [("attestor/field.fields", Rows.laid_attestor_field_fields)] W) : St X W (GW W) m0 [] := by
  refine St_GW (X := X) fun g c hg => ?_
  rw [MakeChecks.laidMetH_plain _ _ _ (by kernel_rfl)] at h
  obtain ⟨ps, ⟨g', t', cs, fuel, p, q, hg', ht', hvar, hd, _, _⟩, _⟩ := h
  have e0 : Tryd.prog.globalNamed "attestor/field.fields" = some 0 := by kernel_rfl
  have e1 : (Tryd.prog.globals[0]?).map (·.type) = some 158 := by kernel_rfl
  obtain rfl : 0 = g' := Option.some.inj (e0.symm.trans hg')
  obtain rfl : 158 = t' := Option.some.inj (e1.symm.trans ht')
  have hcs : GW W 0 = some cs := by
    unfold World.var? at hvar
    rw [e0] at hvar
    simp only [Option.bind_some] at hvar
    unfold GW
    exact hvar
  have hd' : DataW.trod (fun _ => ()) Tryd.prog W 0 (fun _ => true) false fuel 158 cs.toList = some (.agg (recs.map recD), p) := hd
  have ht := tab_ok Tryd.underlying158 Tryd.underlying134 rfl (by kernel_rfl) Tryd.underlying28 Tryd.underlying44 Tryd.underlying3 (by kernel_rfl) (by kernel_rfl) (by kernel_rfl) (rs := recs)
    (fun r hr => by
      simp only [recs, List.mem_cons, List.not_mem_nil, or_false] at hr
      rcases hr with rfl | rfl | rfl | rfl <;> simp) hd'
  have hgc : (bif Nat.beq g 0 then some fieldsC else none) = some c := hg
  cases g with
  | succ g => cases hgc
  | zero =>
    obtain rfl : fieldsC = c := Option.some.inj hgc
    refine ⟨0, 0, cs, rfl, by decide, hcs, fun i hi j hj => ?_⟩
    obtain rfl : i = 0 := by omega
    have key : ∀ i, i < 4 → ∀ k, k < 5 → ∃ u, cs.toList[i * 5 + k]? = some u ∧ VRC (GW W) (fieldsL.getD (i * 5 + k) .jk) u := by
      intro i hi k hk
      match i, hi, k, hk with
        | 0, _, 0, _ => exact ht 0 (by decide) 0 (by decide)
        | 0, _, 1, _ => exact ht 0 (by decide) 1 (by decide)
        | 0, _, 2, _ => exact ht 0 (by decide) 2 (by decide)
        | 0, _, 3, _ => exact ht 0 (by decide) 3 (by decide)
        | 0, _, 4, _ => exact ht 0 (by decide) 4 (by decide)
        | 1, _, 0, _ => exact ht 1 (by decide) 0 (by decide)
        | 1, _, 1, _ => exact ht 1 (by decide) 1 (by decide)
        | 1, _, 2, _ => exact ht 1 (by decide) 2 (by decide)
        | 1, _, 3, _ => exact ht 1 (by decide) 3 (by decide)
        | 1, _, 4, _ => exact ht 1 (by decide) 4 (by decide)
        | 2, _, 0, _ => exact ht 2 (by decide) 0 (by decide)
        | 2, _, 1, _ => exact ht 2 (by decide) 1 (by decide)
        | 2, _, 2, _ => exact ht 2 (by decide) 2 (by decide)
        | 2, _, 3, _ => exact ht 2 (by decide) 3 (by decide)
        | 2, _, 4, _ => exact ht 2 (by decide) 4 (by decide)
        | 3, _, 0, _ => exact ht 3 (by decide) 0 (by decide)
        | 3, _, 1, _ => exact ht 3 (by decide) 1 (by decide)
        | 3, _, 2, _ => exact ht 3 (by decide) 2 (by decide)
        | 3, _, 3, _ => exact ht 3 (by decide) 3 (by decide)
        | 3, _, 4, _ => exact ht 3 (by decide) 4 (by decide)
    obtain ⟨u, hu, hv⟩ := key (j / 5) (by omega) (j % 5) (by omega)
    rw [show j / 5 * 5 + j % 5 = j by omega] at hu hv
    exact ⟨u, by simpa using hu, hv⟩

/-! ### a start that fits -/
noncomputable def w0 (os : Os) : World := World.laidAll Tryd.prog os [("attestor/field.fields", Rows.laid_attestor_field_fields)]
theorem w0_os (os : Os) : (w0 os).os = os := World.laidAll_os _ _ _
theorem w0_met (os : Os) (args : Array Value) : laidMetH Tryd.prog [("attestor/field.fields", Rows.laid_attestor_field_fields)] ((w0 os).forCall (fun _ _ => 0) ⟨#[], args, []⟩).memory := by
  rw [MakeChecks.laidMetH_plain _ _ _ (by kernel_rfl)]
  exact laidMet_laidAll args (by kernel_rfl) (by kernel_rfl)
end Go.Proofs.YtkbpafipbhaknaaDoor
