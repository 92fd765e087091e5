/-
  The closed facts of the row 'ImageSpreads', one by one. No condition.
-/
import Derived.Test.YtoafmlegamjlpaaGreatDoorRows
import Derived.ProofKit
import Derived.JoinedOf
import Derived.ClosedOfChecked
namespace Go.Proofs.YtoafmlegamjlpaaGreatDoor.imageSpreads
open Go
theorem kspec : ClosedOfChecked.AllSpec Tryz.prog := ClosedOfChecked.allSpec_of Tryz.checked.wellFormed (by kernel_rfl)
theorem klaid : laidOutB Tryz.prog = true := ClosedOfChecked.laidOutB_of kspec (by kernel_rfl)
theorem kmaps : mapsRowed Tryz.prog = true := ClosedOfChecked.mapsRowed_of kspec
theorem kwf : Rows.imageSpreadsRow.wf (OpenSpec.ofChange Rows.imageSpreadsSpec) = true := by kernel_rfl
theorem kread : Tryz.f4.params.all (Tryz.prog.readableRec ·) = true := by kernel_rfl
theorem ktie : namedTie Tryz.prog Rows.imageSpreadsRow.named Rows.imageSpreadsSpec.vars = true := by kernel_rfl
theorem kst : ((Rows.imageSpreadsRow.stops == []) && (Tryz.prog.stops == []) && (Rows.imageSpreadsRow.knobs == []) && (Tryz.prog.stopKnobs == [])) = true := by kernel_rfl
theorem kin : (Rows.imageSpreadsRow.inPlace == Tryz.prog.inPlace 4) = true := by kernel_rfl
theorem kun : (Rows.imageSpreadsRow.unfollowed == Tryz.prog.unfollowed 4) = true := by kernel_rfl
theorem krc : (Rows.imageSpreadsRow.recurses == Tryz.prog.recurses 4) = true := by kernel_rfl
theorem knm : (Rows.imageSpreadsRow.named == Tryz.prog.varsNamed 4) = true := by kernel_rfl
theorem kmp : (Rows.imageSpreadsRow.maps == (Tryz.f4.params.toList ++ Rows.imageSpreadsSpec.plain.varTypes Tryz.prog).any (Tryz.prog.mapsRec ·)) = true := by kernel_rfl
theorem kif : (Rows.imageSpreadsRow.ifaces == (Tryz.f4.params.toList ++ Rows.imageSpreadsSpec.plain.varTypes Tryz.prog).any (Tryz.prog.ifacesRec ·)) = true := by kernel_rfl
theorem kmo : (Rows.imageSpreadsRow.mapsOut == Tryz.prog.mapsAmong Tryz.f4.resultTypes.toList) = true := by kernel_rfl
theorem klo : (Rows.imageSpreadsRow.loops == (Tryz.f4.params.toList ++ Rows.imageSpreadsSpec.plain.varTypes Tryz.prog).any (Tryz.prog.loopsFrom ·)) = true := by kernel_rfl
theorem kwk : (Rows.imageSpreadsRow.wideKeys == (Tryz.f4.params.toList ++ Rows.imageSpreadsSpec.plain.varTypes Tryz.prog ++ Tryz.f4.resultTypes.toList).any (Tryz.prog.wideKeysFrom ·)) = true := by kernel_rfl
theorem kvr : Rows.imageSpreadsSpec.vars.all (Tryz.prog.varReadable ·) = true := by kernel_rfl
theorem krt : Tryz.f4.resultTypes.all (fun t => Tryz.prog.readableRec t && decide (t < Tryz.prog.types.size)) = true := by kernel_rfl
theorem kio : (Rows.imageSpreadsRow.ifacesOut == Tryz.f4.resultTypes.toList.any (Tryz.prog.ifacesRec ·)) = true := by kernel_rfl
theorem klt : (Rows.imageSpreadsRow.loopsOut == Tryz.f4.resultTypes.toList.any (Tryz.prog.loopsFrom ·)) = true := by kernel_rfl
theorem kpk : (Rows.imageSpreadsRow.plainKeys == Tryz.prog.plainKeys) = true := by kernel_rfl
theorem kss : Rows.imageSpreadsRow.shortTexts.isNone = true := by kernel_rfl
theorem ksh : Tryz.prog.stopsHeard = true := by kernel_rfl
theorem kme : Tryz.prog.mayEnter = true := by kernel_rfl
theorem klf : (Rows.imageSpreadsRow.lifted == Tryz.prog.liftsFinal) = true := by kernel_rfl
theorem kmk : (Tryz.prog.make == some Rows.imageSpreadsRow.make) = true := by kernel_rfl
theorem kkd : (Rows.imageSpreadsRow.kinds == (if Rows.imageSpreadsRow.domain.isEmpty then [] else Tryz.f4.params.toList.map fun t => match Tryz.prog.underlying t with | some (.int k) => some k | _ => none)) = true := by kernel_rfl
theorem kpi : (Rows.imageSpreadsRow.pinned == Rows.imageSpreadsRow.pinnedBy) = true := by kernel_rfl
theorem kve : (Rows.imageSpreadsRow.veiled == (Tryz.f4.params.toList ++ Rows.imageSpreadsSpec.plain.varTypes Tryz.prog ++ Tryz.f4.resultTypes.toList).any (Tryz.prog.veiledRec ·)) = true := by kernel_rfl
theorem kvf : Rows.imageSpreadsRow.veiledFits Tryz.prog Tryz.f4.params.toList (Tryz.f4.params.toList ++ Rows.imageSpreadsSpec.plain.varTypes Tryz.prog ++ Tryz.f4.resultTypes.toList) = true := by kernel_rfl
set_option maxRecDepth 100000 in
theorem facts : joinedFacts Tryz.prog 4 Tryz.f4 Rows.imageSpreadsSpec Rows.imageSpreadsRow = true := by
  simp only [joinedFacts, Bool.and_eq_true]
  have kst := kst
  simp only [Bool.and_eq_true] at kst
  exact ⟨⟨⟨⟨⟨⟨⟨⟨⟨⟨⟨⟨⟨⟨⟨⟨⟨⟨⟨⟨⟨⟨⟨⟨⟨⟨⟨⟨⟨⟨⟨kwf, klaid⟩, kmaps⟩, kread⟩, ktie⟩, kst.1.1.1⟩, kst.1.1.2⟩, kst.1.2⟩, kst.2⟩, kin⟩, kun⟩, krc⟩, knm⟩, kmp⟩, kif⟩, kmo⟩, klo⟩, kwk⟩, kvr⟩, krt⟩, kio⟩, klt⟩, kpk⟩, kss⟩, ksh⟩, kme⟩, klf⟩, kmk⟩, kkd⟩, kpi⟩, kve⟩, kvf⟩
end Go.Proofs.YtoafmlegamjlpaaGreatDoor.imageSpreads
