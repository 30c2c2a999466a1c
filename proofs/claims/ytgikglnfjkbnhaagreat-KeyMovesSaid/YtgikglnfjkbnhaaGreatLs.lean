/-
  Proved: for every position, behind each move by which a man goes, the key that comes by what changed alone is that of the position ('alfillaw17.KeyMoves' returns true, and the position reads behind the call as before). No condition.
-/
import Derived.Test.YtgikglnfjkbnhaaGreatLq
import Derived.Test.YtgikglnfjkbnhaaGreatLr
namespace Go.Proofs.YtgikglnfjkbnhaaGreat

theorem keyMoves_holds : Rows.KeyMovesSaid := keyMoves_of keyMoves_walk
#print axioms keyMoves_holds

end Go.Proofs.YtgikglnfjkbnhaaGreat
