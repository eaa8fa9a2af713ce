/- The derived words and the derivations of the reference. No condition but the readings. -/
import Derived.Test.YtgefgdkejenhnaaDoorDvW
import Derived.Test.YtgefgdkejenhnaaDoorIn
import Derived.Test.YtgefgdkejenhnaaDoorWoc
set_option linter.unusedSimpArgs false
namespace Go.Proofs.YtgefgdkejenhnaaDoor
open Go.RowKit
theorem WordPost.split {l : List AffD} {s : ByteArray} {ns : List ByteArray} {e : Ending} (h : WordPost l s ns e) : ∃ t c, e = .returned (.tuple #[.string t, .int .i64 c]) ∧ t = (wordV l s ns).1 ∧ c = (wordV l s ns).2 := ⟨_, _, h, rfl, rfl⟩
attribute [local irreducible] Calls
theorem l04Word_is {x : GraD} {s t : ByteArray} {c : Int} {names : List ByteArray} {g : Nat} {s1 s2 v : Value} (ht : (wordV x.affixes s names).1 = t) (hc : (wordV x.affixes s names).2 = c) (w : World) (hx : GraBox w g s1 s2 x) (hok : GraOk x) (hs : isLong s = true) (hn : Strs w v names) (hin : ∀ n ∈ names, hasB x.affixes n = true) :
    Calls Tryd.prog 41 #[.pointer (some ⟨g, 0, none⟩), .string s, v] w fun e w' => e = .returned (.tuple #[.string t, .int .i64 c]) ∧ Below w.heap.size w w' := by
  subst ht hc
  exact l04Word_any g s1 v x.affixes s names w hx.c0 hx.a hok.1 hs hn hin
end Go.Proofs.YtgefgdkejenhnaaDoor
