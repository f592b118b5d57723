/- What all texts of this seat begin with. -/
import Derived.Test.YtheanmfdfoefoaaProg
import Derived.Test.YtheanmfdfoefoaaMeta
