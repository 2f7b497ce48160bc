/- The printed functions of the law FnOrdersTurn, gathered. -/
import Derived.Test.YtnlbhlomdcgpeaaDoorPr0
import Derived.Test.YtnlbhlomdcgpeaaDoorPr1
import Derived.Test.YtnlbhlomdcgpeaaDoorPr2
import Derived.Test.YtnlbhlomdcgpeaaDoorPr3
import Derived.Test.YtnlbhlomdcgpeaaDoorPr4
import Derived.Test.YtnlbhlomdcgpeaaDoorPr5
import Derived.Test.YtnlbhlomdcgpeaaDoorPr6
import Derived.Test.YtnlbhlomdcgpeaaDoorPr7
import Derived.Test.YtnlbhlomdcgpeaaDoorPr8
import Derived.Test.YtnlbhlomdcgpeaaDoorPr9
import Derived.Test.YtnlbhlomdcgpeaaDoorPr10
import Derived.Test.YtnlbhlomdcgpeaaDoorPr11
