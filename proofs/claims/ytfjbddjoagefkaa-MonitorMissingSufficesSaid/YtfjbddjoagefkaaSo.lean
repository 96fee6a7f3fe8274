/-
  Sort and Compact of this program.
-/
import Derived.Test.YtfjbddjoagefkaaSh7
import Derived.Test.YtfjbddjoagefkaaShelf
namespace Ab
open Go Go.Proofs

theorem sort_facts : fnFacts Try.prog 46 := ⟨_, Try.func46, rfl, rfl⟩
theorem compact_facts : fnFacts Try.prog 47 := ⟨_, Try.func47, rfl, rfl⟩
theorem sortL_ok : SortOk Try.prog 46 := fun hσ hl => sort_fn sort_facts (fun blk off cap zs w hH hb hs => Try.slices_Sort_int blk off cap zs w hH hb hs) (fun p cap w => Try.slices_Sort_int_none p cap w) hσ hl
theorem compactL_ok : CompactOk Try.prog 47 := fun hσ => compact_fn compact_facts (fun blk off cap zs w hH hs hc => Try.slices_Compact_int blk off cap zs w hH hs hc) (fun a cap w => Try.slices_Compact_int_empty a cap w) hσ
end Ab
