/- The shelf at the seat, by its other name. -/
import Derived.Test.YtmdpmpdlkaogdaaDoorSf
