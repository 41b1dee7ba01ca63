/- For seats without teamsterkeep.good: XGoodC alone (fillall with OV=maps takes it in XGood's place). -/
import Derived.Test.YtonalhedjjobeaaDoorGoodC
