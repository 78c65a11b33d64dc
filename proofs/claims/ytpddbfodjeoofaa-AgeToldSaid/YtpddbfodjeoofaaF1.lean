/- The plain forms of functions, with the proof that each is what its function returns. Printed by a program of this session (wip/refl/tools). -/
import Derived.Test.YtpddbfodjeoofaaF0
import Derived.Test.YtpddbfodjeoofaaXW
import Derived.KernelRfl
namespace Go.Proofs.Ytpddbfodjeoofaa.R
open Go Go.RowKit
set_option linter.unusedVariables false
set_option maxRecDepth 100000
set_option maxHeartbeats 0
/-! scullery/scullerylaw13.AgeTold -/
def law13_AgeTold.h : H := (.two .no (.two .no (.two (.two .no (.two (.two .no .no) .no)) (.two .no (.two .no (.two .no (.two (.two .no (.two (.two .no .no) .no)) (.two .no (.two .no .no)))))))))

def law13_AgeTold.f (k : Nat) (x : Tup [(.sl 74 (.agg (.pair .str .str))), (.agg (.pair (.int .i64) (.pair (.int .i64) (.pair (.int .i64) (.int .i64))))), .str]) : Option (Tup [.bool]) := (bindO (law13_awake.f k ()) fun y0 => (bindO (ref06_Size.f k x.1) fun y1 => (ifO (ltI 2000 y1) (some y0) (ifO (ltI 30 (lenS x.2.2)) (some y0) (bindO (head_Without.f k (x.1, ((⟨#[97, 103, 101]⟩ : ByteArray) :: ([] : List ByteArray)))) fun y2 => (bindO (age_Current.f k (y2, (x.2.1.1, (x.2.1.2.1, x.2.1.2.2.1)))) fun y3 => (bindO (head_With.f k (y2, ((⟨#[97, 103, 101]⟩ : ByteArray), x.2.2))) fun y4 => (bindO (age_Current.f k (y4, (x.2.1.1, (x.2.1.2.1, x.2.1.2.2.1)))) fun y5 => (ifO (ltI y5 y3) (some false) (bindO (age_Told.f k y2) fun y6 => (ifO (neI y6 0) (some false) (bindO (age_Current.f k (y2, ((minI x.2.1.1 x.2.1.2.2.2), (x.2.1.2.1, x.2.1.2.2.1)))) fun y7 => (ifO y0 (some (leI y3 y7)) (some false))))))))))))))
theorem law13_AgeTold.ok : Spec.Sound P T 8 ⟨[(.sl 74 (.agg (.pair .str .str))), (.agg (.pair (.int .i64) (.pair (.int .i64) (.pair (.int .i64) (.int .i64))))), .str], [.bool], law13_AgeTold.f⟩ := mk_sound (n := 200) (h := law13_AgeTold.h) T_below (Specs.Ok.cons ref06_Size.ok (Specs.Ok.cons head_With.ok (Specs.Ok.cons head_Without.ok (Specs.Ok.cons age_Told.ok (Specs.Ok.cons age_Current.ok (Specs.Ok.cons law13_awake.ok Specs.Ok.nil)))))) (fun k x => by kernel_rfl)
end Go.Proofs.Ytpddbfodjeoofaa.R
