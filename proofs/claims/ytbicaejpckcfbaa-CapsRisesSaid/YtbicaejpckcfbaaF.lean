/- Over, the program's and the document's, of any wrapper over any sets. -/
import Derived.Test.YtbicaejpckcfbaaCA0
import Derived.Test.YtbicaejpckcfbaaCA1
import Derived.Test.YtbicaejpckcfbaaCA2
import Derived.Test.YtbicaejpckcfbaaCA3
import Derived.Test.YtbicaejpckcfbaaCA4
import Derived.Test.YtbicaejpckcfbaaCA5
import Derived.Test.YtbicaejpckcfbaaCA6
import Derived.Test.YtbicaejpckcfbaaCA7
import Derived.Test.YtbicaejpckcfbaaCA8
import Derived.Test.YtbicaejpckcfbaaCA9
import Derived.Test.YtbicaejpckcfbaaCA10
import Derived.Test.YtbicaejpckcfbaaEA0
import Derived.Test.YtbicaejpckcfbaaEA1
import Derived.Test.YtbicaejpckcfbaaEA2
import Derived.Test.YtbicaejpckcfbaaEA3
import Derived.Test.YtbicaejpckcfbaaEA4
import Derived.Test.YtbicaejpckcfbaaEA5
import Derived.Test.YtbicaejpckcfbaaEA6
import Derived.Test.YtbicaejpckcfbaaEA7
import Derived.Test.YtbicaejpckcfbaaEA8
import Derived.Test.YtbicaejpckcfbaaEA9
import Derived.Test.YtbicaejpckcfbaaEA10
namespace Go.Proofs.Ytbicaejpckcfbaa
open Go.RowKit

theorem over_any (kd N M K : Int) (A : Option Addr) (n c : Nat) (ls : List Nat) (w : World) (hs : SetSl w A n ls) (hc : n ≤ 9223372036854775807) (h1 : -128 ≤ kd) (h2 : kd ≤ 127) :
    Calls Try.prog 8 #[.agg #[.int .i8 kd, .int .i64 N, .int .i64 M, .int .u64 K], .slice A n c] w (OverPost kd ls w) := by
  by_cases h : kd < 0 ∨ 11 ≤ kd
  · exact over_out kd N M K A n c ls w h h1 h2
  · rcases (by omega : kd = 0 ∨ kd = 1 ∨ kd = 2 ∨ kd = 3 ∨ kd = 4 ∨ kd = 5 ∨ kd = 6 ∨ kd = 7 ∨ kd = 8 ∨ kd = 9 ∨ kd = 10) with rfl | rfl | rfl | rfl | rfl | rfl | rfl | rfl | rfl | rfl | rfl
    · exact over_0 N M K A n c ls w hs hc
    · exact over_1 N M K A n c ls w hs hc
    · exact over_2 N M K A n c ls w hs hc
    · exact over_3 N M K A n c ls w hs hc
    · exact over_4 N M K A n c ls w hs hc
    · exact over_5 N M K A n c ls w hs hc
    · exact over_6 N M K A n c ls w hs hc
    · exact over_7 N M K A n c ls w hs hc
    · exact over_8 N M K A n c ls w hs hc
    · exact over_9 N M K A n c ls w hs hc
    · exact over_10 N M K A n c ls w hs hc
theorem refover_any (kd N M K : Int) (A : Option Addr) (n c : Nat) (ls : List Nat) (w : World) (hs : SetSl w A n ls) (hc : n ≤ 9223372036854775807) (h1 : -128 ≤ kd) (h2 : kd ≤ 127) :
    Calls Try.prog 9 #[.agg #[.int .i8 kd, .int .i64 N, .int .i64 M, .int .u64 K], .slice A n c] w (OverPost kd ls w) := by
  cases hf : fitsB kd n with
  | false => exact refover_not kd N M K A n c ls w hs.1 hf h1 h2 hc
  | true =>
    have h := (fits_iff kd n).1 hf
    rcases (by omega : kd = 0 ∨ kd = 1 ∨ kd = 2 ∨ kd = 3 ∨ kd = 4 ∨ kd = 5 ∨ kd = 6 ∨ kd = 7 ∨ kd = 8 ∨ kd = 9 ∨ kd = 10) with rfl | rfl | rfl | rfl | rfl | rfl | rfl | rfl | rfl | rfl | rfl
    · exact refover_0 N M K A n c ls w hs hc (by omega) (by omega)
    · exact refover_1 N M K A n c ls w hs hc (by omega) (by omega)
    · exact refover_2 N M K A n c ls w hs hc (by omega) (by omega)
    · exact refover_3 N M K A n c ls w hs hc (by omega) (by omega)
    · exact refover_4 N M K A n c ls w hs hc (by omega) (by omega)
    · exact refover_5 N M K A n c ls w hs hc (by omega) (by omega)
    · exact refover_6 N M K A n c ls w hs hc (by omega) (by omega)
    · exact refover_7 N M K A n c ls w hs hc (by omega) (by omega)
    · exact refover_8 N M K A n c ls w hs hc (by omega) (by omega)
    · exact refover_9 N M K A n c ls w hs hc (by omega) (by omega)
    · exact refover_10 N M K A n c ls w hs hc (by omega) (by omega)
end Go.Proofs.Ytbicaejpckcfbaa
