import Derived.Test.YthpnhdopheofcaaProg
import Derived.Test.YthpnhdopheofcaaDxLast
import Derived.Tactics
import Derived.Tactics2
import Derived.StillTactics
import Derived.Laws.Sem
import Derived.Laws.World
import Derived.Laws.Small
import Derived.Laws.Unary
import Derived.Laws.Pointers
import Derived.Laws.Cells
import Derived.LoopTactic
import Derived.LoopN
import Derived.Laws.IdiomRangeMap
import Derived.Maps.RangeRun
import Derived.WalkSpells
import Derived.KernelRfl
set_option linter.unusedSimpArgs false
set_option linter.unusedVariables false
namespace Go.Proofs.Ythpnhdopheofcaa
open Go.Dx
set_option maxRecDepth 1000000 in
theorem last_nil (w : World) : Calls Try.prog 104 #[.pointer none] w fun e w' => e = .returned (.int .i64 0) ∧ w' = w := by
 go_enter Try.func104, Try.ntmps104
 go_wp2
 go_ret
 exact ⟨rfl, rfl⟩
set_option maxRecDepth 1000000 in
theorem last_none (w : World) (ad : Addr) (hm : w.cell? ad = some (.map none)) : Calls Try.prog 104 #[.pointer (some ad)] w fun e w' => e = .returned (.int .i64 0) ∧ w' = w := by
 have heq := run_eql_map_nil (P := Try.prog) w 165 3 179 none Try.underlying165
 simp only [Option.isNone_none] at heq
 go_enter Try.func104, Try.ntmps104
 go_wp2
 go_ret
 exact ⟨rfl, rfl⟩
set_option maxRecDepth 1000000 in
theorem last_some (w : World) (ad : Addr) (bm : Nat) (es : Array MapEntry) (clock : Nat) (hm : w.cell? ad = some (.map (some bm))) (hb : w.heap[bm]? = some (.map es clock)) (hst : Stamps es clock) (hk : ∀ x ∈ es.toList, ∃ v, x.key = .int .i64 v) :
  Calls Try.prog 104 #[.pointer (some ad)] w fun e w' => e = .returned (.int .i64 (maxAll es.toList)) ∧ SameBut w w' := by
 have heq := run_eql_map_nil (P := Try.prog) w 165 3 179 (some bm) Try.underlying165
 simp only [Option.isNone_some] at heq
 have hrg := run_range_map (P := Try.prog) w 165 3 179 bm es clock Try.underlying165 hb
 go_enter Try.func104, Try.ntmps104
 go_wp2
 go_loopw [3] (fun s w' => ∃ (w1 : World) (seen : Array Nat), (w1.heap = w.heap ∧ w1.os = w.os ∧ w1.tape = w.tape ∧ w1.output = w.output) ∧ w' = w1.alloc (.mapIter (some bm) clock seen clock) ∧ s = .int .i64 (maxSeen es.toList seen)) (fun _ w' => (leftOf es (w'.iterSeen w.heap.size)).size)
 case atStart => exact ⟨w, #[], ⟨rfl, rfl, rfl, rfl⟩, rfl, by rw [maxSeen_none]⟩
 case round =>
  obtain ⟨w1, seen, hal, rfl, rfl⟩ := hrel
  have hsz : w1.heap.size = w.heap.size := by rw [hal.1]
  have hb1 : w1.heap[bm]? = some (.map es clock) := by rw [hal.1]; exact hb
  have law := next_map (P := Try.prog) w1 0 bm clock clock seen es clock hb1 hst.1 (Nat.le_refl _)
  rw [hsz] at law
  rcases law with ⟨h0, hrun⟩ | ⟨e, he, w2, hal2, hrun⟩
  ·have hnx : ∀ ty, (Instr.next (.pointer (some ⟨w.heap.size, 0, none⟩)) false ty).run Try.prog (w1.alloc (.mapIter (some bm) clock seen clock)) = _ := fun _ => hrun
   go_wp2
   go_ret
   rw [maxSeen_all es seen h0]
   exact ⟨rfl, sameBut_alloc hal⟩
  ·obtain ⟨v, hval⟩ := hk e (mem_left he).1
   rw [hval] at hrun
   have hnx : ∀ ty, (Instr.next (.pointer (some ⟨w.heap.size, 0, none⟩)) false ty).run Try.prog (w1.alloc (.mapIter (some bm) clock seen clock)) = _ := fun _ => hrun
   have hsz2 : w2.heap.size = w.heap.size := by rw [hal2.1, hal.1]
   have hb2 : w2.heap[bm]? = some (.map es clock) := by rw [hal2.1]; exact hb1
   have hen := run_entry_map (P := Try.prog) w2 bm clock seen es clock e hb2 (mem_left he).1 hst.2.1
   rw [hsz2, hval] at hen
   go_wp2
   refine ⟨⟨w2, seen.push e.born, ⟨hal2.1.trans hal.1, hal2.2.1.trans hal.2.1, hal2.2.2.1.trans hal.2.2.1, hal2.2.2.2.trans hal.2.2.2⟩, rfl, ?_⟩, ?_⟩
   ·rw [maxSeen_push seen e (mem_left he).2 es.toList hst.2.1 (mem_left he).1, hval]
    congr 1
    show (if _ then _ else _) = max _ v
    split <;> omega
   ·rw [← hsz2, World.iterSeen_alloc, hsz2, ← hsz, World.iterSeen_alloc]
    exact left_shrinks es seen e he
theorem nat104 : NatOk Try.prog 0 104 natLast :=
 natLast_ok ⟨_, Try.func104, by kernel_rfl, by decide⟩ last_nil last_none last_some
def nf104 : CFunc := ⟨.skip, [], some (.nat natLast)⟩
theorem n104 : FnOk Try.prog 0 104 nf104 := nat104
end Go.Proofs.Ythpnhdopheofcaa
