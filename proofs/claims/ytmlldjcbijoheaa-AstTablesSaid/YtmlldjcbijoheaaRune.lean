/- strings.IndexRune of an ASCII rune, laid at this program. -/
import Derived.Test.YtmlldjcbijoheaaProg
import Derived.Ground.NamesProg
import Derived.Shelf.Lay
import Derived.Shelf.Strings.Runes
namespace Go.Proofs
open Go.Shelf
shelf_lay Lays.n152 Nm 152 at Try as Try.lays152
end Go.Proofs
namespace Go.Proofs.Ytmlldjcbijoheaa
open Go.RowKit
theorem indexRune_ascii (s : ByteArray) (r : Int) (w : World) (h0 : 0 ≤ r) (h1 : r < 128) :
    Calls Try.prog 86 #[.string s, .int .i32 r] w fun e w' => e = .returned (.int .i64 (Lib.indexByte s.data.toList r.toNat.toUInt8)) ∧ w' = w :=
  Any.strings_IndexRune_ascii Try.lays152 s r w h0 h1
end Go.Proofs.Ytmlldjcbijoheaa
