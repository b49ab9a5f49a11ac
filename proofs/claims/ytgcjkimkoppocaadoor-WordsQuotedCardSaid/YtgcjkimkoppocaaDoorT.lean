/- All of the printed shadows. -/
import Derived.Test.YtgcjkimkoppocaaDoorT2
