import Derived.Test.YtfdbegdgedhhcaaGreatAmSM8
import Derived.Test.YtfdbegdgedhhcaaGreatAmS79
set_option linter.all false
/- The law SlopeScale: all slopes of a graph with this kind (scale) are the page's, by graphs made here. No condition. -/
namespace Go.AM
set_option maxRecDepth 20000
set_option maxHeartbeats 1000000
attribute [local simp] layAt
attribute [local irreducible] lenK sliceK idxK fldK cutK storeK appK copyK clearK mapAtK callK loopH readK readK1 guardK grdK fnK nilK fieldK extrK strK nextK joinK iteK intK boolK cellsK castK castL castEnv binK unK intBin layParts execN runOpsN runItemsN denN call loop blockK
theorem Laws.SlopeScale (y : ask10.den) (as : List AV) (H : Holds (fun _ => False) [] ask10 y as) : WP (call prog 0 223 [.agg as] []) fun r => r.1 = .bool true := by
  have H0 : In [] ask10 y as := H.mono fun _ h => h.elim
  obtain ⟨_, vl, vn, vd, vx, vv, rfl, rfl, h8, hl, hx, hv⟩ := holds_ask10 H0
  refine wp_enter (fn := C.law11_SlopeScale) rfl ?_
  dsimp only [bodyN, C.law11_SlopeScale]; simp
  generalize hh : [AObj.cells 0 1 [vl, vn, vd, vx, vv]] = h1
  have b1 : Box h1 0 [vl, vn, vd, vx, vv] := by subst hh; simp [Box]
  have o1 : Old ([] : Heap).length [] h1 := ⟨Nat.zero_le _, fun l hl => by simp at hl⟩
  refine wq_ptrs b1 (by simp) ?_
  try simp
  refine wp_call (law11_of (k := 8) (fun H b hb => madeOk8 H b hb) (In.old o1 H0) _ (Nat.zero_le _)) fun v2 h2 e2 => ?_
  simp only at e2
  subst e2
  try simp
  exact wp_some rfl
end Go.AM
