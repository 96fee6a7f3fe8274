/-
  ARGUMENTS of a law as values of plain types.
-/
import Derived.Test.YtfjbddjoagefkaaSh1
import Derived.Test.YtfjbddjoagefkaaAb18
namespace Ab
open Go

theorem ArgsT.len {P : Program} : ∀ {ts : List TypeId} {xs : List T}, ArgsT P ts xs → xs.length = ts.length
  | [], [], _ => rfl
  | _ :: _, _ :: _, h => by simp [ArgsT.len h.2]
  | [], _ :: _, h => h.elim
  | _ :: _, [], h => h.elim
theorem dec_int {L : List Sh} {is : List I} (h : DecL (.int :: L) is) : ∃ (n : Int) (r : List I), is = .val (.int .i64 n) :: r ∧ (-9223372036854775808 ≤ n ∧ n ≤ 9223372036854775807) ∧ DecL L r := by
  cases h with
  | int h1 h2 h => exact ⟨_, _, rfl, ⟨h1, h2⟩, h⟩
theorem dec_bool {L : List Sh} {is : List I} (h : DecL (.bool :: L) is) : ∃ (b : Bool) (r : List I), is = .val (.bool b) :: r ∧ True ∧ DecL L r := by
  cases h with
  | bool h => exact ⟨_, _, rfl, trivial, h⟩
theorem dec_nil {is : List I} (h : DecL [] is) : is = [] := by cases h; rfl
theorem dec_list {α : Type} {L0 : List Sh} {f : α → List I} {p : α → Prop} (hf : ∀ e, DecL L0 e → ∃ a, e = f a ∧ p a) : ∀ {es : List (List I)}, (∀ e ∈ es, DecL L0 e) → ∃ l : List α, es = l.map f ∧ ∀ a ∈ l, p a
  | [], _ => ⟨[], rfl, fun a h => by simp at h⟩
  | e :: es, h => by
    obtain ⟨a, rfl, ha⟩ := hf e (h e (by simp))
    obtain ⟨l, rfl, hl⟩ := dec_list hf (es := es) fun e he => h e (by simp [he])
    exact ⟨a :: l, rfl, fun b hb => by rcases List.mem_cons.1 hb with rfl | hb; exact ha; exact hl b hb⟩
theorem dec_sl {α : Type} {L0 L : List Sh} {f : α → List I} {p : α → Prop} (hf : ∀ e, DecL L0 e → ∃ a, e = f a ∧ p a) {is : List I} (h : DecL (.sl L0 :: L) is) : ∃ (l : List α) (r : List I), is = .sl L0.length (l.map f) :: r ∧ (∀ a ∈ l, p a) ∧ DecL L r := by
  cases h with
  | sl he h =>
    obtain ⟨l, rfl, hl⟩ := dec_list hf he
    exact ⟨l, _, rfl, hl, h⟩
end Ab
