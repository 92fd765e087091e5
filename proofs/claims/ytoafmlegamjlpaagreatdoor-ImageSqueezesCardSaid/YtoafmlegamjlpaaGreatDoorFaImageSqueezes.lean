/-
  The closed facts of the row 'ImageSqueezes', one by one. No condition.
-/
import Derived.Test.YtoafmlegamjlpaaGreatDoorRows
import Derived.ProofKit
import Derived.JoinedOf
import Derived.ClosedOfChecked
namespace Go.Proofs.YtoafmlegamjlpaaGreatDoor.imageSqueezes
open Go
theorem kspec : ClosedOfChecked.AllSpec Tryz.prog := ClosedOfChecked.allSpec_of Tryz.checked.wellFormed (by kernel_rfl)
theorem klaid : laidOutB Tryz.prog = true := ClosedOfChecked.laidOutB_of kspec (by kernel_rfl)
theorem kmaps : mapsRowed Tryz.prog = true := ClosedOfChecked.mapsRowed_of kspec
theorem kwf : Rows.imageSqueezesRow.wf (OpenSpec.ofChange Rows.imageSqueezesSpec) = true := by kernel_rfl
theorem kread : Tryz.f3.params.all (Tryz.prog.readableRec ·) = true := by kernel_rfl
theorem ktie : namedTie Tryz.prog Rows.imageSqueezesRow.named Rows.imageSqueezesSpec.vars = true := by kernel_rfl
theorem kst : ((Rows.imageSqueezesRow.stops == []) && (Tryz.prog.stops == []) && (Rows.imageSqueezesRow.knobs == []) && (Tryz.prog.stopKnobs == [])) = true := by kernel_rfl
theorem kin : (Rows.imageSqueezesRow.inPlace == Tryz.prog.inPlace 3) = true := by kernel_rfl
theorem kun : (Rows.imageSqueezesRow.unfollowed == Tryz.prog.unfollowed 3) = true := by kernel_rfl
theorem krc : (Rows.imageSqueezesRow.recurses == Tryz.prog.recurses 3) = true := by kernel_rfl
theorem knm : (Rows.imageSqueezesRow.named == Tryz.prog.varsNamed 3) = true := by kernel_rfl
theorem kmp : (Rows.imageSqueezesRow.maps == (Tryz.f3.params.toList ++ Rows.imageSqueezesSpec.plain.varTypes Tryz.prog).any (Tryz.prog.mapsRec ·)) = true := by kernel_rfl
theorem kif : (Rows.imageSqueezesRow.ifaces == (Tryz.f3.params.toList ++ Rows.imageSqueezesSpec.plain.varTypes Tryz.prog).any (Tryz.prog.ifacesRec ·)) = true := by kernel_rfl
theorem kmo : (Rows.imageSqueezesRow.mapsOut == Tryz.prog.mapsAmong Tryz.f3.resultTypes.toList) = true := by kernel_rfl
theorem klo : (Rows.imageSqueezesRow.loops == (Tryz.f3.params.toList ++ Rows.imageSqueezesSpec.plain.varTypes Tryz.prog).any (Tryz.prog.loopsFrom ·)) = true := by kernel_rfl
theorem kwk : (Rows.imageSqueezesRow.wideKeys == (Tryz.f3.params.toList ++ Rows.imageSqueezesSpec.plain.varTypes Tryz.prog ++ Tryz.f3.resultTypes.toList).any (Tryz.prog.wideKeysFrom ·)) = true := by kernel_rfl
theorem kvr : Rows.imageSqueezesSpec.vars.all (Tryz.prog.varReadable ·) = true := by kernel_rfl
theorem krt : Tryz.f3.resultTypes.all (fun t => Tryz.prog.readableRec t && decide (t < Tryz.prog.types.size)) = true := by kernel_rfl
theorem kio : (Rows.imageSqueezesRow.ifacesOut == Tryz.f3.resultTypes.toList.any (Tryz.prog.ifacesRec ·)) = true := by kernel_rfl
theorem klt : (Rows.imageSqueezesRow.loopsOut == Tryz.f3.resultTypes.toList.any (Tryz.prog.loopsFrom ·)) = true := by kernel_rfl
theorem kpk : (Rows.imageSqueezesRow.plainKeys == Tryz.prog.plainKeys) = true := by kernel_rfl
theorem kss : Rows.imageSqueezesRow.shortTexts.isNone = true := by kernel_rfl
theorem ksh : Tryz.prog.stopsHeard = true := by kernel_rfl
theorem kme : Tryz.prog.mayEnter = true := by kernel_rfl
theorem klf : (Rows.imageSqueezesRow.lifted == Tryz.prog.liftsFinal) = true := by kernel_rfl
theorem kmk : (Tryz.prog.make == some Rows.imageSqueezesRow.make) = true := by kernel_rfl
theorem kkd : (Rows.imageSqueezesRow.kinds == (if Rows.imageSqueezesRow.domain.isEmpty then [] else Tryz.f3.params.toList.map fun t => match Tryz.prog.underlying t with | some (.int k) => some k | _ => none)) = true := by kernel_rfl
theorem kpi : (Rows.imageSqueezesRow.pinned == Rows.imageSqueezesRow.pinnedBy) = true := by kernel_rfl
theorem kve : (Rows.imageSqueezesRow.veiled == (Tryz.f3.params.toList ++ Rows.imageSqueezesSpec.plain.varTypes Tryz.prog ++ Tryz.f3.resultTypes.toList).any (Tryz.prog.veiledRec ·)) = true := by kernel_rfl
theorem kvf : Rows.imageSqueezesRow.veiledFits Tryz.prog Tryz.f3.params.toList (Tryz.f3.params.toList ++ Rows.imageSqueezesSpec.plain.varTypes Tryz.prog ++ Tryz.f3.resultTypes.toList) = true := by kernel_rfl
set_option maxRecDepth 100000 in
theorem facts : joinedFacts Tryz.prog 3 Tryz.f3 Rows.imageSqueezesSpec Rows.imageSqueezesRow = true := by
  simp only [joinedFacts, Bool.and_eq_true]
  have kst := kst
  simp only [Bool.and_eq_true] at kst
  exact ⟨⟨⟨⟨⟨⟨⟨⟨⟨⟨⟨⟨⟨⟨⟨⟨⟨⟨⟨⟨⟨⟨⟨⟨⟨⟨⟨⟨⟨⟨⟨kwf, klaid⟩, kmaps⟩, kread⟩, ktie⟩, kst.1.1.1⟩, kst.1.1.2⟩, kst.1.2⟩, kst.2⟩, kin⟩, kun⟩, krc⟩, knm⟩, kmp⟩, kif⟩, kmo⟩, klo⟩, kwk⟩, kvr⟩, krt⟩, kio⟩, klt⟩, kpk⟩, kss⟩, ksh⟩, kme⟩, klf⟩, kmk⟩, kkd⟩, kpi⟩, kve⟩, kvf⟩
end Go.Proofs.YtoafmlegamjlpaaGreatDoor.imageSqueezes
