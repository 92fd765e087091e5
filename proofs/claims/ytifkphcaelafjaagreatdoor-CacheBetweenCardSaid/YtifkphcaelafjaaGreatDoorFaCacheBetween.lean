/-
  The closed facts of the row 'CacheBetween', one by one. No condition.
-/
import Derived.Test.YtifkphcaelafjaaGreatDoorRows
import Derived.ProofKit
import Derived.JoinedOf
import Derived.ClosedOfChecked
namespace Go.Proofs.YtifkphcaelafjaaGreatDoor.cacheBetween
open Go
theorem kspec : ClosedOfChecked.AllSpec Tryz.prog := ClosedOfChecked.allSpec_of Tryz.checked.wellFormed (by kernel_rfl)
theorem klaid : laidOutB Tryz.prog = true := ClosedOfChecked.laidOutB_of kspec (by kernel_rfl)
theorem kmaps : mapsRowed Tryz.prog = true := ClosedOfChecked.mapsRowed_of kspec
theorem kwf : Rows.cacheBetweenRow.wf (OpenSpec.ofChange Rows.cacheBetweenSpec) = true := by kernel_rfl
theorem kread : Tryz.f4.params.all (Tryz.prog.readableRec ·) = true := by kernel_rfl
theorem ktie : namedTie Tryz.prog Rows.cacheBetweenRow.named Rows.cacheBetweenSpec.vars = true := by kernel_rfl
theorem kst : ((Rows.cacheBetweenRow.stops == []) && (Tryz.prog.stops == []) && (Rows.cacheBetweenRow.knobs == []) && (Tryz.prog.stopKnobs == [])) = true := by kernel_rfl
theorem kin : (Rows.cacheBetweenRow.inPlace == Tryz.prog.inPlace 4) = true := by kernel_rfl
theorem kun : (Rows.cacheBetweenRow.unfollowed == Tryz.prog.unfollowed 4) = true := by kernel_rfl
theorem krc : (Rows.cacheBetweenRow.recurses == Tryz.prog.recurses 4) = true := by kernel_rfl
theorem knm : (Rows.cacheBetweenRow.named == Tryz.prog.varsNamed 4) = true := by kernel_rfl
theorem kmp : (Rows.cacheBetweenRow.maps == (Tryz.f4.params.toList ++ Rows.cacheBetweenSpec.plain.varTypes Tryz.prog).any (Tryz.prog.mapsRec ·)) = true := by kernel_rfl
theorem kif : (Rows.cacheBetweenRow.ifaces == (Tryz.f4.params.toList ++ Rows.cacheBetweenSpec.plain.varTypes Tryz.prog).any (Tryz.prog.ifacesRec ·)) = true := by kernel_rfl
theorem kmo : (Rows.cacheBetweenRow.mapsOut == Tryz.prog.mapsAmong Tryz.f4.resultTypes.toList) = true := by kernel_rfl
theorem klo : (Rows.cacheBetweenRow.loops == (Tryz.f4.params.toList ++ Rows.cacheBetweenSpec.plain.varTypes Tryz.prog).any (Tryz.prog.loopsFrom ·)) = true := by kernel_rfl
theorem kwk : (Rows.cacheBetweenRow.wideKeys == (Tryz.f4.params.toList ++ Rows.cacheBetweenSpec.plain.varTypes Tryz.prog ++ Tryz.f4.resultTypes.toList).any (Tryz.prog.wideKeysFrom ·)) = true := by kernel_rfl
theorem kvr : Rows.cacheBetweenSpec.vars.all (Tryz.prog.varReadable ·) = true := by kernel_rfl
theorem krt : Tryz.f4.resultTypes.all (fun t => Tryz.prog.readableRec t && decide (t < Tryz.prog.types.size)) = true := by kernel_rfl
theorem kio : (Rows.cacheBetweenRow.ifacesOut == Tryz.f4.resultTypes.toList.any (Tryz.prog.ifacesRec ·)) = true := by kernel_rfl
theorem klt : (Rows.cacheBetweenRow.loopsOut == Tryz.f4.resultTypes.toList.any (Tryz.prog.loopsFrom ·)) = true := by kernel_rfl
theorem kpk : (Rows.cacheBetweenRow.plainKeys == Tryz.prog.plainKeys) = true := by kernel_rfl
theorem kss : Rows.cacheBetweenRow.shortTexts.isNone = true := by kernel_rfl
theorem ksh : Tryz.prog.stopsHeard = true := by kernel_rfl
theorem kme : Tryz.prog.mayEnter = true := by kernel_rfl
theorem klf : (Rows.cacheBetweenRow.lifted == Tryz.prog.liftsFinal) = true := by kernel_rfl
theorem kmk : (Tryz.prog.make == some Rows.cacheBetweenRow.make) = true := by kernel_rfl
theorem kkd : (Rows.cacheBetweenRow.kinds == (if Rows.cacheBetweenRow.domain.isEmpty then [] else Tryz.f4.params.toList.map fun t => match Tryz.prog.underlying t with | some (.int k) => some k | _ => none)) = true := by kernel_rfl
theorem kpi : (Rows.cacheBetweenRow.pinned == Rows.cacheBetweenRow.pinnedBy) = true := by kernel_rfl
theorem kve : (Rows.cacheBetweenRow.veiled == (Tryz.f4.params.toList ++ Rows.cacheBetweenSpec.plain.varTypes Tryz.prog ++ Tryz.f4.resultTypes.toList).any (Tryz.prog.veiledRec ·)) = true := by kernel_rfl
theorem kvf : Rows.cacheBetweenRow.veiledFits Tryz.prog Tryz.f4.params.toList (Tryz.f4.params.toList ++ Rows.cacheBetweenSpec.plain.varTypes Tryz.prog ++ Tryz.f4.resultTypes.toList) = true := by kernel_rfl
set_option maxRecDepth 100000 in
theorem facts : joinedFacts Tryz.prog 4 Tryz.f4 Rows.cacheBetweenSpec Rows.cacheBetweenRow = true := by
  simp only [joinedFacts, Bool.and_eq_true]
  have kst := kst
  simp only [Bool.and_eq_true] at kst
  exact ⟨⟨⟨⟨⟨⟨⟨⟨⟨⟨⟨⟨⟨⟨⟨⟨⟨⟨⟨⟨⟨⟨⟨⟨⟨⟨⟨⟨⟨⟨⟨kwf, klaid⟩, kmaps⟩, kread⟩, ktie⟩, kst.1.1.1⟩, kst.1.1.2⟩, kst.1.2⟩, kst.2⟩, kin⟩, kun⟩, krc⟩, knm⟩, kmp⟩, kif⟩, kmo⟩, klo⟩, kwk⟩, kvr⟩, krt⟩, kio⟩, klt⟩, kpk⟩, kss⟩, ksh⟩, kme⟩, klf⟩, kmk⟩, kkd⟩, kpi⟩, kve⟩, kvf⟩
end Go.Proofs.YtifkphcaelafjaaGreatDoor.cacheBetween
