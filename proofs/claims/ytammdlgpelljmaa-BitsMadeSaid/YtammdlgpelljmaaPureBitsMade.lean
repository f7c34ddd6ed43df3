/- The plain statement of the law BitsMade is proved in the text that is imported here; it has no conditions of its own. -/
import Derived.Test.YtammdlgpelljmaaBmBitsMadePure
