/- The second part of the shelf: the same as the first in this seat. -/
import Derived.Test.YtkkpjdgahdljbaaDoorShelf
