import Derived.Test.YtgmoodcojpbbdaaGen
import Derived.Deep.Slices
import Derived.ProofKit
import Derived.OpenShut
