import Derived.Test.YthpnhdopheofcaaDxClaim
import Derived.Test.YthpnhdopheofcaaDxLs
import Derived.Below
set_option linter.unusedSimpArgs false
set_option linter.unusedVariables false
namespace Go.Dx
open Go.RowKit
def ROnly (H : Heap) : Prop := ∀ p, H.live p = true → p.num < H.next.num ∧ ∃ t, H.get p = some (.ro t)
theorem open_calls {P : Program} {tbl : Nat → Option CFunc} (hT : TblOk P 0 tbl) {f : Nat} {as : AV} {H : Heap} {M : Mem} (hs : Sees H M) (hro : ROnly H)
  (h : CallW tbl f as M fun r _ => r = .ret (.bool true)) {w : World} {ρ : Ren} {args : Array Value} (hrel : HRel P 0 ρ H w) (hargs : RX ρ as args.toList) (hl : as.isList = true) :
  Calls P f args w fun e w' => e = .returned (.bool true) ∧ Below w.heap.size w w' := by
 obtain ⟨n, r, H', M', h1, _, rfl⟩ := h H hs
 obtain ⟨_, hc⟩ := callN_ok hT n f as H _ _ h1
 refine Calls.mono (hc ρ w args hrel hargs hl) ?_
 intro e w' ⟨ρ', _, h2, h3⟩
 cases e with
 | returned x =>
  have hx : x = .bool true := RX.bool_eq (ρ := ρ') h3
  refine ⟨by rw [hx], h2.os, h2.tape, h2.output, h2.size, fun k hk => ?_⟩
  by_cases hb : ∃ p L, H.live p = true ∧ ρ p = some L ∧ L.b = k
  ·obtain ⟨p, L, hp, hL, rfl⟩ := hb
   obtain ⟨hn, t, ht⟩ := hro p hp
   exact (h2.keep p hn t ht).2 L hL hk
  ·exact h2.frame k hk fun p L hp hL e => hb ⟨p, L, hp, hL, e⟩
 | _ => exact h3.elim
end Go.Dx
