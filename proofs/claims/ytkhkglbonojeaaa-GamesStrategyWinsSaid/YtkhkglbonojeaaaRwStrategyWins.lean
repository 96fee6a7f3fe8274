/- Following the strategy, whatever the other player does, the game reaches a target within the number of moves that the rank promises, whatever values of their types come in. -/
import Derived.Test.YtkhkglbonojeaaaRows
import Derived.Test.YtkhkglbonojeaaaSd
import Derived.Test.YtkhkglbonojeaaaPg8
namespace Ab
open Go Go.Proofs
def bd_i64 (v : Int) : Prop := (-9223372036854775808 ≤ v ∧ v ≤ 9223372036854775807)
theorem dec_i64 {is : List I} (h : DecL [.int] is) : ∃ v : Int, is = intI v ∧ bd_i64 v := by
  obtain ⟨x0, _, rfl, g0, h⟩ := dec_int h
  obtain rfl := dec_nil h
  exact ⟨x0, rfl, g0⟩
def bd_A2i64 (v : Int × Int) : Prop := (-9223372036854775808 ≤ v.1 ∧ v.1 ≤ 9223372036854775807) ∧ (-9223372036854775808 ≤ v.2 ∧ v.2 ≤ 9223372036854775807)
theorem dec_A2i64 {is : List I} (h : DecL [.int, .int] is) : ∃ v : Int × Int, is = eA2i64 v ∧ bd_A2i64 v := by
  obtain ⟨x0, _, rfl, g0, h⟩ := dec_int h
  obtain ⟨x1, _, rfl, g1, h⟩ := dec_int h
  obtain rfl := dec_nil h
  exact ⟨(x0, x1), rfl, ⟨g0, g1⟩⟩
def bd_TGame (v : TGame) : Prop := (∀ a ∈ v.owner, bd_i64 a) ∧ (∀ a ∈ v.arcs, bd_A2i64 a)
theorem dec_TGame {is : List I} (h : DecL [.sl [.int], .sl [.int, .int]] is) : ∃ v : TGame, is = eTGame v ∧ bd_TGame v := by
  obtain ⟨x0, _, rfl, g0, h⟩ := dec_sl (fun e he => dec_i64 he) h
  obtain ⟨x1, _, rfl, g1, h⟩ := dec_sl (fun e he => dec_A2i64 he) h
  obtain rfl := dec_nil h
  exact ⟨⟨x0, x1⟩, rfl, ⟨g0, g1⟩⟩
def bd_Li64 (v : List Int) : Prop := (∀ a ∈ v, bd_i64 a)
theorem dec_Li64 {is : List I} (h : DecL [.sl [.int]] is) : ∃ v : List Int, is = eLi64 v ∧ bd_Li64 v := by
  obtain ⟨x0, _, rfl, g0, h⟩ := dec_sl (fun e he => dec_i64 he) h
  obtain rfl := dec_nil h
  exact ⟨x0, rfl, g0⟩
end Ab
namespace Go.Proofs.Ytkhkglbonojeaaa
open Go.ChangeShapes Go.WideShapes Go.ChangeAt Go.RowKit Ab

theorem Try.own : ownKnob Try.prog.godebug = none := by kernel_rfl
theorem Try.laidOut : laidOutB Try.prog = true := by kernel_rfl

theorem law : ∀ xs : List T, ArgsT Try.prog Try.f8.params.toList xs → FnOk Try.prog 8 xs [] fun r _ => r = .c (bool true) := by
  intro xs h
  rw [Try.params8] at h
  have hl := h.len
  match xs, hl with
  | [y0, y1, y2, y3, y4], _ =>
    have h2 : ArgT Try.prog 25 y0 ∧ ArgT Try.prog 3 y1 ∧ ArgT Try.prog 22 y2 ∧ ArgT Try.prog 22 y3 ∧ ArgT Try.prog 3 y4 ∧ True := h
    obtain ⟨⟨L0, is0, e0, d0, g0⟩, ⟨L1, is1, e1, d1, g1⟩, ⟨L2, is2, e2, d2, g2⟩, ⟨L3, is3, e3, d3, g3⟩, ⟨L4, is4, e4, d4, g4⟩, _⟩ := h2
    rw [show shapes Try.prog 9 25 = some [.sl [.int], .sl [.int, .int]] by kernel_rfl] at e0; cases e0
    obtain ⟨v0, rfl, b0⟩ := dec_TGame d0
    have k0 : y0 = .agg [row 1 intI v0.owner, row 2 eA2i64 v0.arcs] := by rw [g0]; simp only [treeOf, Try.underlying25] <;> rfl
    rw [show shapes Try.prog 9 3 = some [.int] by kernel_rfl] at e1; cases e1
    obtain ⟨v1, rfl, b1⟩ := dec_i64 d1
    have k1 : y1 = .c (int v1) := by rw [g1]; simp only [treeOf, Try.underlying3] <;> rfl
    rw [show shapes Try.prog 9 22 = some [.sl [.int]] by kernel_rfl] at e2; cases e2
    obtain ⟨v2, rfl, b2⟩ := dec_Li64 d2
    have k2 : y2 = .c (row 1 intI v2) := by rw [g2]; simp only [treeOf, Try.underlying22] <;> rfl
    rw [show shapes Try.prog 9 22 = some [.sl [.int]] by kernel_rfl] at e3; cases e3
    obtain ⟨v3, rfl, b3⟩ := dec_Li64 d3
    have k3 : y3 = .c (row 1 intI v3) := by rw [g3]; simp only [treeOf, Try.underlying22] <;> rfl
    rw [show shapes Try.prog 9 3 = some [.int] by kernel_rfl] at e4; cases e4
    obtain ⟨v4, rfl, b4⟩ := dec_i64 d4
    have k4 : y4 = .c (int v4) := by rw [g4]; simp only [treeOf, Try.underlying3] <;> rfl
    subst k0 k1 k2 k3 k4
    exact law8_GamesStrategyWins_ok (GamesStrategyWins_true v0 v1 v2 v3 v4)

set_option maxRecDepth 100000 in
theorem lifted (os : Os) (started : os.Started) (H : Type) (enc : TypeId × Value → H) :
    ReturnsInHanded {} Try.checked os 8 .any (Rows.gamesStrategyWinsSpec.pre6 enc Try.prog Try.f8 Rows.gamesStrategyWinsRow.domain false) (Rows.gamesStrategyWinsSpec.post enc Try.prog Try.f8 false true false false) := by
  refine returnsInHanded_of_change (C := Try.checked) Try.own started (by kernel_rfl) Try.func8
    (ChangeSpec.witness6 (enc := enc) (C := Try.checked) false ⟨#[], #[.agg #[.slice none 0 0, .slice none 0 0], .int .i64 0, .slice none 0 0, .slice none 0 0, .int .i64 0], []⟩ 8 (by kernel_rfl) (by kernel_rfl) (by kernel_rfl) (by kernel_rfl)) ?_
  intro W base args ds gs before hval hW _ _
  refine law_contract (tb := 4) Try.laidOut (fun t ht => ?_) rfl (by kernel_rfl) Try.underlying4 (fun ds hds => ?_) law hval hW
  · rw [Try.params8] at ht
    revert t
    exact of_decide_eq_true (by kernel_rfl)
  · rw [Try.params8] at hds
    match ds, hds with
    | [_, _, _, _, _], _ => rfl

theorem holds : Rows.GamesStrategyWinsSaid :=
  OpenClaim.holds_of_wide 8 Try.f8 rfl rfl rfl rfl rfl rfl rfl ⟨rfl, rfl, rfl, rfl, rfl⟩ rfl rfl rfl rfl rfl (by kernel_rfl) Try.func8 (by kernel_rfl)
    (of_decide_eq_true (by kernel_rfl)) (by unfold Func.isWrapper; first | (rw [if_pos (by decide +kernel)]; kernel_rfl) | (rw [if_neg (by decide +kernel)]; exact ⟨rfl, rfl⟩))
    (fun os started H enc _ => lifted os started H enc)
end Go.Proofs.Ytkhkglbonojeaaa
