/- The closed facts of the row of ForemanNil, each for itself. -/
import Derived.Test.YtfcbemhokihmoaaGreatDoorN2
set_option linter.all false
section
namespace Go.Proofs.YtfcbemhokihmoaaGreatDoor.nilRow
open Go.ChangeShapes Go.WideShapes Go.ChangeAt Go.RowKit Go.Joins Go.Deep
set_option maxRecDepth 100000
noncomputable abbrev PP := Tryz.pinned.checked.prog
abbrev cc := Rows.foremanNilRow
noncomputable abbrev ss := (OpenSpec.ofChange Rows.foremanNilSpec).bare
noncomputable abbrev tys := Tryz.f3.params.toList ++ ss.plain.varTypes PP
theorem s_named : PP.funcNamed cc.func = some 3 := by kernel_rfl
theorem k1 : cc.wf (OpenSpec.ofChange ss) = true := by kernel_rfl
theorem k2 : laidOutB PP = true := by kernel_rfl
theorem k3 : mapsRowed PP = true := by kernel_rfl
theorem k4 : Tryz.f3.params.all (PP.readableRec ·) = true := by kernel_rfl
theorem k5 : namedTie PP cc.named ss.vars = true := by kernel_rfl
theorem k6 : (cc.stops == []) = true := by kernel_rfl
theorem k7 : (PP.stops == []) = true := by kernel_rfl
theorem k8 : (cc.knobs == []) = true := by kernel_rfl
theorem k9 : (PP.stopKnobs == []) = true := by kernel_rfl
theorem k10 : (cc.inPlace == PP.inPlace 3) = true := by kernel_rfl
theorem k11 : (cc.unfollowed == PP.unfollowed 3) = true := by kernel_rfl
theorem k12 : (cc.recurses == PP.recurses 3) = true := by kernel_rfl
theorem k13 : (cc.named == PP.varsNamed 3) = true := by kernel_rfl
theorem k14 : (cc.maps == tys.any (PP.mapsRec ·)) = true := by kernel_rfl
theorem k15 : (cc.ifaces == tys.any (PP.ifacesRec ·)) = true := by kernel_rfl
theorem k16 : (cc.mapsOut == PP.mapsAmong Tryz.f3.resultTypes.toList) = true := by kernel_rfl
theorem k17 : (cc.loops == tys.any (PP.loopsFrom ·)) = true := by kernel_rfl
theorem k17b : (cc.wideKeys == (tys ++ Tryz.f3.resultTypes.toList).any (PP.wideKeysFrom ·)) = true := by kernel_rfl
theorem k18 : ss.vars.all (PP.varReadable ·) = true := by kernel_rfl
theorem k19 : Tryz.f3.resultTypes.all (fun t => PP.readableRec t && decide (t < PP.types.size)) = true := by kernel_rfl
theorem k20 : (cc.ifacesOut == Tryz.f3.resultTypes.toList.any (PP.ifacesRec ·)) = true := by kernel_rfl
theorem k21 : (cc.loopsOut == Tryz.f3.resultTypes.toList.any (PP.loopsFrom ·)) = true := by kernel_rfl
theorem k22 : (cc.plainKeys == PP.plainKeys) = true := by kernel_rfl
theorem k23 : cc.shortTexts.isNone = true := by kernel_rfl
theorem k23b : PP.stopsHeard = true := by kernel_rfl
theorem k24 : PP.mayEnter = true := by kernel_rfl
theorem k24b : (cc.lifted == PP.liftsFinal) = true := by kernel_rfl
theorem k24c : (PP.make == some cc.make) = true := by kernel_rfl
theorem k25 : (cc.kinds == (if cc.domain.isEmpty then [] else Tryz.f3.params.toList.map fun t => match PP.underlying t with | some (.int k) => some k | _ => none)) = true := by kernel_rfl
theorem k26 : (cc.pinned == cc.pinnedBy) = true := by kernel_rfl
theorem k27 : (cc.veiled == (tys ++ Tryz.f3.resultTypes.toList).any (PP.veiledRec ·)) = true := by kernel_rfl
theorem k28 : cc.veiledFits PP Tryz.f3.params.toList (tys ++ Tryz.f3.resultTypes.toList) = true := by kernel_rfl
theorem tt {a b : Bool} (h : a = true) (h' : b = true) : (a && b) = true := by rw [h, h']; rfl
theorem closed : joinedFacts PP 3 Tryz.f3 ss cc = true :=
  tt (tt (tt (tt (tt (tt (tt (tt (tt (tt (tt (tt (tt (tt (tt (tt (tt (tt (tt (tt (tt (tt (tt (tt (tt (tt (tt (tt (tt (tt (tt k1 k2) k3) k4) k5) k6) k7) k8) k9) k10) k11) k12) k13) k14) k15) k16) k17) k17b) k18) k19) k20) k21) k22) k23) k23b) k24) k24b) k24c) k25) k26) k27) k28
end Go.Proofs.YtfcbemhokihmoaaGreatDoor.nilRow
end
