/- The law that a copy goes its own way: the four ways joined. -/
import Derived.Test.YtafhkjipjgkkkaaLevSame
import Derived.Test.YtafhkjipjgkkkaaLevApartAA
import Derived.Test.YtafhkjipjgkkkaaLevApartAB
import Derived.Test.YtafhkjipjgkkkaaLevApartBA
import Derived.Test.YtafhkjipjgkkkaaLevApartBB
namespace Go.Proofs.Ytafhkjipjgkkkaa.Lv
open Go.RowKit Go.Proofs.Ytafhkjipjgkkkaa.W
set_option linter.unusedVariables false
set_option linter.unusedSimpArgs false

theorem levelApart_walk (a : Nat) (ha : a < 256) (A1 A2 : Option Addr) (len1 d1 len2 d2 : Nat) (K1 I1 N1 K2 I2 N2 : Nat → Int) (Ka Ia Na : Int) (w : World) (hl1 : len1 ≤ maxLen) (hl2 : len2 ≤ maxLen)
    (hA1 : Holds w w.heap.size 3 A1 len1 (actAt K1 I1 N1)) (hN1 : ∀ i, i < len1 → -9223372036854775808 ≤ N1 i ∧ N1 i ≤ 9223372036854775807)
    (hA2 : Holds w w.heap.size 3 A2 len2 (actAt K2 I2 N2)) (hN2 : ∀ i, i < len2 → -9223372036854775808 ≤ N2 i ∧ N2 i ≤ 9223372036854775807) :
    Calls Try.prog 6 #[.agg #[.int .u8 (a : Int), .slice A1 len1 d1, .slice A2 len2 d2, .int .i64 Ka, .int .i64 Ia, .int .i64 Na]] w fun e w' => e = .returned (.bool true) ∧ Below w.heap.size w w' := by
  have hs : ∀ (gq gx n : Nat) (R : Nat → List Nat) (_ : n ≤ 16) (w : World) (_ : QAt w gq n R) (_ : RefAt w gx R), Calls Try.prog 10 #[.pointer (some ⟨gq, 0, none⟩), .pointer (some ⟨gx, 0, none⟩)] w fun e w' => e = .returned (.bool true) ∧ Below w.heap.size w w' :=
    fun gq gx n R hn w hq hx => same_yes gq gx n R hn w hq hx
  by_cases h1 : len1 ≤ 30
  · by_cases h2 : len2 ≤ 30
    · exact levelApart_AA a ha A1 A2 len1 d1 len2 d2 K1 I1 N1 K2 I2 N2 Ka Ia Na w hl1 hl2 hA1 hN1 hA2 hN2 h1 h2 hs
    · exact levelApart_AB a ha A1 A2 len1 d1 len2 d2 K1 I1 N1 K2 I2 N2 Ka Ia Na w hl1 hl2 hA1 hN1 hA2 hN2 h1 (by omega) hs
  · by_cases h2 : len2 ≤ 30
    · exact levelApart_BA a ha A1 A2 len1 d1 len2 d2 K1 I1 N1 K2 I2 N2 Ka Ia Na w hl1 hl2 hA1 hN1 hA2 hN2 (by omega) h2 hs
    · exact levelApart_BB a ha A1 A2 len1 d1 len2 d2 K1 I1 N1 K2 I2 N2 Ka Ia Na w hl1 hl2 hA1 hN1 hA2 hN2 (by omega) (by omega) hs
end Go.Proofs.Ytafhkjipjgkkkaa.Lv
