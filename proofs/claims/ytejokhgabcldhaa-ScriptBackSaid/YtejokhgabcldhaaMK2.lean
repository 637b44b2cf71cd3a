/- wire: a request kept as one value. -/
import Derived.Test.YtejokhgabcldhaaMK
import Derived.Test.YtejokhgabcldhaaMH
namespace Go.Proofs.Ytejokhgabcldhaa
open Go.ChangeShapes Go.WideShapes Go.ChangeAt Go.RowKit
set_option linter.unusedVariables false
set_option linter.unusedSimpArgs false

theorem alien_q (q : Req) (a : Option Addr) (cap : Nat) (w : World) (hk : q.kind < 256) (hr : RecsAt w a q.batch.recs) (hm : q.batch.recs.length ≤ maxLen) :
    Calls Try.prog 95 #[.agg (rq q a cap)] w fun e w' => e = .returned (.bool (decide (reqClean q ≠ reqBlank q.kind))) ∧ More w w' := by
  obtain ⟨xk, xtp, xix, xpa, xco, xfl, xof, xmo, xti, xgr, xme, xge, ⟨xb0, xb1, xb2, xb3, xb4, xrs⟩⟩ := q
  exact alien_any xk xtp xix xpa xco xfl xof xmo xti xgr xme xge xb0 xb1 xb2 xb3 xb4 xrs a cap w hk hr hm
theorem field_q (q : Req) (a : Option Addr) (cap : Nat) (c : UInt8) (hc : c ∈ letters) (v : Value) (body : List UInt8) (w : World) (hv : RB w v body) (hb : body.length ≤ 1099511627776)
    (h1 : q.topic.length ≤ 1099511627776) (h2 : q.group.length ≤ 1099511627776) (h3 : q.member.length ≤ 1099511627776) (hw : q.wf) :
    Calls Try.prog 98 #[.agg (rq q a cap), .int .i32 c.toNat, v] w fun e w' => ∃ v, e = .returned v ∧ BMade w w' v (reqField q body c) := by
  obtain ⟨xk, xtp, xix, xpa, xco, xfl, xof, xmo, xti, xgr, xme, xge, ⟨xb0, xb1, xb2, xb3, xb4, xrs⟩⟩ := q
  exact field_any xk xtp xix xpa xco xfl xof xmo xti xgr xme xge xb0 xb1 xb2 xb3 xb4 xrs a cap c hc v body w hv hb h1 h2 h3 hw
end Go.Proofs.Ytejokhgabcldhaa
