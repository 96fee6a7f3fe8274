/-
  slices.Clone of this program.
-/
import Derived.Test.YtfjbddjoagefkaaSn
import Derived.Test.YtfjbddjoagefkaaTy
namespace Ab
open Go Go.Proofs
def slices_Clone_int_int (s : List Int) : Option (List Int) := app 8 [] s
theorem slices_Clone_int_int_ok {s r : List Int} (h : slices_Clone_int_int s = some r) : FreshOk Try.prog 58 [.c (row 1 intI s)] 1 (List.map intI r) := by
  unfold slices_Clone_int_int at h
  unfold FreshOk
  refine FnOk.enter (rs := [.t 2]) Try.func58 rfl Try.ntmps58 Try.results58 rfl ⟨trivial, trivial⟩ (by kernel_rfl) rfl ?_
  refine AWP.seq ?_
  refine AWP.region ?_
  refine AOps.assign rfl rfl ?_
  refine AOps.nil ?_
  refine thn_normal ?_
  refine AWP.seq ?_
  refine AWP.seq ?_
  refine AWP.region ?_
  refine AOps.move rfl rfl ?_
  refine AOps.eqlNil rfl rfl rfl (fun he => ?_) ?_
  · have hs : s = [] := by simpa using he
    subst hs
    have hr : r = [] := by
      have := app_get h
      simpa using this.2
    subst hr
    refine AOps.nil ?_
    refine thn_normal ?_
    refine AWP.condT rfl ?_
    refine AWP.seq ?_
    refine AWP.region ?_
    refine AOps.assign rfl rfl ?_
    refine AOps.nil ?_
    refine thn_normal ?_
    refine AWP.virtV 1 intI 2 rfl rfl rfl ?_
    refine AWP.ret ?_
    refine thn_ret ?_
    exact Done.ret rfl (Fresh.mk rfl rfl)
  · refine AOps.nil ?_
    refine thn_normal ?_
    refine AWP.condF rfl ?_
    refine AWP.skip ?_
    refine thn_normal ?_
    refine AWP.seq ?_
    refine AWP.region ?_
    refine S.lit (f := intI) (l := []) (ess := []) rfl rfl rfl rfl rfl rfl rfl trivial rfl rfl rfl ?_
    refine AOps.move rfl rfl ?_
    refine S.append (f := intI) h rfl rfl rfl rfl rfl rfl .row rfl rfl rfl rfl ?_
    refine AOps.assign rfl rfl ?_
    refine AOps.nil ?_
    refine thn_normal ?_
    refine AWP.ret ?_
    exact Done.ret rfl (Fresh.mk rfl rfl)
end Ab
