/- Over of any wrapper over any sets. -/
import Derived.Test.YtbicaejpckcfbaaDoorCA0
import Derived.Test.YtbicaejpckcfbaaDoorCA1
import Derived.Test.YtbicaejpckcfbaaDoorCA2
import Derived.Test.YtbicaejpckcfbaaDoorCA3
import Derived.Test.YtbicaejpckcfbaaDoorCA4
import Derived.Test.YtbicaejpckcfbaaDoorCA5
import Derived.Test.YtbicaejpckcfbaaDoorCA6
import Derived.Test.YtbicaejpckcfbaaDoorCA7
import Derived.Test.YtbicaejpckcfbaaDoorCA8
import Derived.Test.YtbicaejpckcfbaaDoorCA9
import Derived.Test.YtbicaejpckcfbaaDoorCA10
namespace Go.Proofs.YtbicaejpckcfbaaDoor
open Go.RowKit

theorem over_any (kd N M K : Int) (A : Option Addr) (n c : Nat) (ls : List Nat) (w : World) (hs : SetSl w A n ls) (hc : n ≤ 9223372036854775807) (h1 : -128 ≤ kd) (h2 : kd ≤ 127) :
    Calls Tryd.prog 15 #[.agg #[.int .i8 kd, .int .i64 N, .int .i64 M, .int .u64 K], .slice A n c] w (OverPost kd ls w) := by
  by_cases h : kd < 0 ∨ 11 ≤ kd
  · exact over_out kd N M K A n c ls w h h1 h2
  · rcases (by omega : kd = 0 ∨ kd = 1 ∨ kd = 2 ∨ kd = 3 ∨ kd = 4 ∨ kd = 5 ∨ kd = 6 ∨ kd = 7 ∨ kd = 8 ∨ kd = 9 ∨ kd = 10) with rfl | rfl | rfl | rfl | rfl | rfl | rfl | rfl | rfl | rfl | rfl
    · exact over_0 N M K A n c ls w hs hc
    · exact over_1 N M K A n c ls w hs hc
    · exact over_2 N M K A n c ls w hs hc
    · exact over_3 N M K A n c ls w hs hc
    · exact over_4 N M K A n c ls w hs hc
    · exact over_5 N M K A n c ls w hs hc
    · exact over_6 N M K A n c ls w hs hc
    · exact over_7 N M K A n c ls w hs hc
    · exact over_8 N M K A n c ls w hs hc
    · exact over_9 N M K A n c ls w hs hc
    · exact over_10 N M K A n c ls w hs hc
end Go.Proofs.YtbicaejpckcfbaaDoor
