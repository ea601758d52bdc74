/- Part of the proof that card_holds ends in: closed runs of the digest, the seal and the cipher, as tables. -/
import Derived.Test.YtkobceanlhlmcaaGreatDoorB01
import Derived.Test.YtkobceanlhlmcaaGreatDoorB02
import Derived.Test.YtkobceanlhlmcaaGreatDoorB03
import Derived.Test.YtkobceanlhlmcaaGreatDoorB04
import Derived.Test.YtkobceanlhlmcaaGreatDoorB05
set_option linter.all false
section
namespace Go.Ev
open Go.Proofs
set_option maxRecDepth 100000
theorem qe13 : FnOk Tryz.prog 94 (exTab [([(.str 6 110442424246322), (.str 17 39287256825355425691592234338445601369345)], (.str 32 74152833372182628809426016254450626352543556738866478285234611359541259201748))]) := runS_tab (l := (240, exMemos [qM9, qM10, qM11, qM12]) :: rowL) (consOk (exMemos_ok (mCons qm9 (mCons qm10 (mCons qm11 (mCons qm12 (mNil)))))) rowL_ok) (by decide +kernel) (by decide +kernel)
theorem qe31 : FnOk Tryz.prog 94 (exTab [([(.str 32 61339580620271929414178434837373459332592384968300690018729090773118205186468), (.str 2 256)], (.str 32 16729974313136180735838625590287966974449501677257141921597787959062955050130))]) := runS_tab (l := (240, exMemos [qM27, qM28, qM29, qM30]) :: rowL) (consOk (exMemos_ok (mCons qm27 (mCons qm28 (mCons qm29 (mCons qm30 (mNil)))))) rowL_ok) (by decide +kernel) (by decide +kernel)
theorem qe55 : FnOk Tryz.prog 94 (exTab [([(.str 32 114223428241697336365119012894082344483823085390464196060972000551964974162592), (.str 113 2063650512248692368563832512553458372019998287666313088270688002837536560175448582093007249906967211800702375320384786686117707429197809464590998409770876784837111200885156541950233950076025197092507993766336089850754622126789423407669681664533390002584270808993066291)], (.str 32 19448362806393087883856087903334125425199563885370921062628547266942939382292))]) := runS_tab (l := (240, exMemos [qM40, qM51, qM52, qM53, qM54]) :: rowL) (consOk (exMemos_ok (mCons qm40 (mCons qm51 (mCons qm52 (mCons qm53 (mCons qm54 (mNil))))))) rowL_ok) (by decide +kernel) (by decide +kernel)
theorem qe74 : FnOk Tryz.prog 94 (exTab [([(.str 32 114223428241697336365119012894082344483823085390464196060972000551964974162592), (.str 69 57811042259880073519115420207535713314556046184771752848422018473520557124682639619900911903909008005312970286882961479806774793568672011615380073057864077771798549)], (.str 32 32987849583538491032329273494789559320338254958789288372418092359132726054607))]) := runS_tab (l := (240, exMemos [qM40, qM70, qM71, qM72, qM73]) :: rowL) (consOk (exMemos_ok (mCons qm40 (mCons qm70 (mCons qm71 (mCons qm72 (mCons qm73 (mNil))))))) rowL_ok) (by decide +kernel) (by decide +kernel)
end Go.Ev
end
