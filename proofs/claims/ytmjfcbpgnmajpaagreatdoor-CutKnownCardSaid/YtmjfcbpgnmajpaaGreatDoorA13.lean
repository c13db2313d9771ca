/- The words that a walk's simp opens. -/
import Derived.Test.YtmjfcbpgnmajpaaGreatDoorA12
namespace Go.AM

attribute [simp ↓] awpC awpFrz awpFrzc awpOps awpO awpI
attribute [simp] subOW isnilW snilW gixW mgetW msetW mgetV mapGet mapPut keysOk tabOf mkOk qside qval needs opv opg Env.get Env.put Env.only Fr.put Fr.only AEx.then AEx.inBlock AEx.noGoto bodyQ offColls resV resOk resTup argEnv gcond AI.val AI.side AI.quiet AI.plain AI.opers
  AVal.strip AVal.cond mintL partV partOk loadV loadOk AHeap.get cellsLen fillV fillOk litV litOk putCells allScal AVal.scal AVal.fine AVal.cells storeOk storeV setElem setElemOk binV binOk arith arithOk
  strop stropOk unV unOk intV isInt lenV lenOk ixSV ixSOk fieldAddrV fieldAddrOk aggV aggOk maxV minV allInt cellsEq cellsEqOk leafEq leafIs pickV boolV isBool deowns AVal.deown AVal.down AVal.unmint pures AVal.pure AVal.elems AVal.elemsOk bndV bndOk appendW subW mkslW clearW copyW freezeW rangeW nextW appD flatOf dEval dguard gopt dqEff rdOf rdL wrOf noMint DEff.run DEff.clash clashOk clashesOk AVal.blks blksL qEval qPut qAll gqv gqs gql

end Go.AM
