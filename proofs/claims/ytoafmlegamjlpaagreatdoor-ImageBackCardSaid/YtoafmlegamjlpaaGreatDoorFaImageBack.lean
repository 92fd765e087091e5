/-
  The closed facts of the row 'ImageBack', one by one. No condition.
-/
import Derived.Test.YtoafmlegamjlpaaGreatDoorRows
import Derived.ProofKit
import Derived.JoinedOf
import Derived.ClosedOfChecked
namespace Go.Proofs.YtoafmlegamjlpaaGreatDoor.imageBack
open Go
theorem kspec : ClosedOfChecked.AllSpec Tryz.prog := ClosedOfChecked.allSpec_of Tryz.checked.wellFormed (by kernel_rfl)
theorem klaid : laidOutB Tryz.prog = true := ClosedOfChecked.laidOutB_of kspec (by kernel_rfl)
theorem kmaps : mapsRowed Tryz.prog = true := ClosedOfChecked.mapsRowed_of kspec
theorem kwf : Rows.imageBackRow.wf (OpenSpec.ofChange Rows.imageBackSpec) = true := by kernel_rfl
theorem kread : Tryz.f5.params.all (Tryz.prog.readableRec ·) = true := by kernel_rfl
theorem ktie : namedTie Tryz.prog Rows.imageBackRow.named Rows.imageBackSpec.vars = true := by kernel_rfl
theorem kst : ((Rows.imageBackRow.stops == []) && (Tryz.prog.stops == []) && (Rows.imageBackRow.knobs == []) && (Tryz.prog.stopKnobs == [])) = true := by kernel_rfl
theorem kin : (Rows.imageBackRow.inPlace == Tryz.prog.inPlace 5) = true := by kernel_rfl
theorem kun : (Rows.imageBackRow.unfollowed == Tryz.prog.unfollowed 5) = true := by kernel_rfl
theorem krc : (Rows.imageBackRow.recurses == Tryz.prog.recurses 5) = true := by kernel_rfl
theorem knm : (Rows.imageBackRow.named == Tryz.prog.varsNamed 5) = true := by kernel_rfl
theorem kmp : (Rows.imageBackRow.maps == (Tryz.f5.params.toList ++ Rows.imageBackSpec.plain.varTypes Tryz.prog).any (Tryz.prog.mapsRec ·)) = true := by kernel_rfl
theorem kif : (Rows.imageBackRow.ifaces == (Tryz.f5.params.toList ++ Rows.imageBackSpec.plain.varTypes Tryz.prog).any (Tryz.prog.ifacesRec ·)) = true := by kernel_rfl
theorem kmo : (Rows.imageBackRow.mapsOut == Tryz.prog.mapsAmong Tryz.f5.resultTypes.toList) = true := by kernel_rfl
theorem klo : (Rows.imageBackRow.loops == (Tryz.f5.params.toList ++ Rows.imageBackSpec.plain.varTypes Tryz.prog).any (Tryz.prog.loopsFrom ·)) = true := by kernel_rfl
theorem kwk : (Rows.imageBackRow.wideKeys == (Tryz.f5.params.toList ++ Rows.imageBackSpec.plain.varTypes Tryz.prog ++ Tryz.f5.resultTypes.toList).any (Tryz.prog.wideKeysFrom ·)) = true := by kernel_rfl
theorem kvr : Rows.imageBackSpec.vars.all (Tryz.prog.varReadable ·) = true := by kernel_rfl
theorem krt : Tryz.f5.resultTypes.all (fun t => Tryz.prog.readableRec t && decide (t < Tryz.prog.types.size)) = true := by kernel_rfl
theorem kio : (Rows.imageBackRow.ifacesOut == Tryz.f5.resultTypes.toList.any (Tryz.prog.ifacesRec ·)) = true := by kernel_rfl
theorem klt : (Rows.imageBackRow.loopsOut == Tryz.f5.resultTypes.toList.any (Tryz.prog.loopsFrom ·)) = true := by kernel_rfl
theorem kpk : (Rows.imageBackRow.plainKeys == Tryz.prog.plainKeys) = true := by kernel_rfl
theorem kss : Rows.imageBackRow.shortTexts.isNone = true := by kernel_rfl
theorem ksh : Tryz.prog.stopsHeard = true := by kernel_rfl
theorem kme : Tryz.prog.mayEnter = true := by kernel_rfl
theorem klf : (Rows.imageBackRow.lifted == Tryz.prog.liftsFinal) = true := by kernel_rfl
theorem kmk : (Tryz.prog.make == some Rows.imageBackRow.make) = true := by kernel_rfl
theorem kkd : (Rows.imageBackRow.kinds == (if Rows.imageBackRow.domain.isEmpty then [] else Tryz.f5.params.toList.map fun t => match Tryz.prog.underlying t with | some (.int k) => some k | _ => none)) = true := by kernel_rfl
theorem kpi : (Rows.imageBackRow.pinned == Rows.imageBackRow.pinnedBy) = true := by kernel_rfl
theorem kve : (Rows.imageBackRow.veiled == (Tryz.f5.params.toList ++ Rows.imageBackSpec.plain.varTypes Tryz.prog ++ Tryz.f5.resultTypes.toList).any (Tryz.prog.veiledRec ·)) = true := by kernel_rfl
theorem kvf : Rows.imageBackRow.veiledFits Tryz.prog Tryz.f5.params.toList (Tryz.f5.params.toList ++ Rows.imageBackSpec.plain.varTypes Tryz.prog ++ Tryz.f5.resultTypes.toList) = true := by kernel_rfl
set_option maxRecDepth 100000 in
theorem facts : joinedFacts Tryz.prog 5 Tryz.f5 Rows.imageBackSpec Rows.imageBackRow = true := by
  simp only [joinedFacts, Bool.and_eq_true]
  have kst := kst
  simp only [Bool.and_eq_true] at kst
  exact ⟨⟨⟨⟨⟨⟨⟨⟨⟨⟨⟨⟨⟨⟨⟨⟨⟨⟨⟨⟨⟨⟨⟨⟨⟨⟨⟨⟨⟨⟨⟨kwf, klaid⟩, kmaps⟩, kread⟩, ktie⟩, kst.1.1.1⟩, kst.1.1.2⟩, kst.1.2⟩, kst.2⟩, kin⟩, kun⟩, krc⟩, knm⟩, kmp⟩, kif⟩, kmo⟩, klo⟩, kwk⟩, kvr⟩, krt⟩, kio⟩, klt⟩, kpk⟩, kss⟩, ksh⟩, kme⟩, klf⟩, kmk⟩, kkd⟩, kpi⟩, kve⟩, kvf⟩
end Go.Proofs.YtoafmlegamjlpaaGreatDoor.imageBack
