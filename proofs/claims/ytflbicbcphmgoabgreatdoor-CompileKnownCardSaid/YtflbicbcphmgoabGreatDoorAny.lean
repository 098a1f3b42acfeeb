/-
  (*parse.parser).is asks whether the next token is a word and one of some texts; (*parse.parser).signed asks that of the keys of a map, in whatever order.
-/
import Derived.Test.YtflbicbcphmgoabGreatDoorProg
import Derived.Test.YtflbicbcphmgoabGreatDoorDxAnyP
import Derived.Test.YtflbicbcphmgoabGreatDoorDxClaim
import Derived.Test.YtflbicbcphmgoabGreatDoorDxAbb
import Derived.Tactics
import Derived.Tactics2
import Derived.StillTactics
import Derived.Laws.Sem
import Derived.Laws.World
import Derived.Laws.Small
import Derived.Laws.Unary
import Derived.Laws.Pointers
import Derived.Laws.Cells
import Derived.LoopTactic
import Derived.LoopN
import Derived.Laws.Rows
import Derived.WalkSpells
import Derived.KernelRfl
namespace Go.Proofs.YtflbicbcphmgoabGreatDoor
open Go.Dx Go.Dx.P
set_option maxRecDepth 1000000 in
theorem is_law : IsLaw Tryz.prog 114 4 := by
  intro w bp op bs os len cap kd tx j2 j3 bv s h0 hlen h1 h2 h3 h4 hv
  have one : ∀ o, SameBut w (w.alloc o) := fun o => (SameBut.refl w).alloc o
  have g0 := fun o => (one o).cell h0
  have g1 := fun o => (one o).cell h1
  have g2 := fun o => (one o).cell h2
  have g3 := fun o => (one o).cell h3
  have g4 := fun o => (one o).cell h4
  have gv := fun o o' => ((one o).alloc o').cell hv
  go_enter Tryz.func114, Tryz.ntmps114
  go_wp2
  refine bodyPost_ret (results_cell_row rfl _ _ w.heap.size 123 _ _ _ rfl (heap_alloc_new w _) Tryz.underlying123 rfl (by kernel_rfl)) rfl ?_
  simp only []
  go_at_K
  go_wp2
  refine wp_loop_rounds 2 ?_
  rw [rounds_succ]
  go_wp2
  all_goals try (rw [rounds_succ]; go_wp2)
  all_goals go_ret
  all_goals refine ⟨?_, ((SameBut.refl w).alloc _).alloc _⟩
  all_goals simp_all
noncomputable section
def cf227 : CFunc := ⟨(.seq (.region (.cons none (.box (.var (.o .h))) (some (.i .h))
    (.cons none (.mov (.lit .nilptr)) (some (.o (.o .h)))
    .nil)))
  (.seq (.seq (.region (.cons none .mkMap none
    (.cons none (.update (.leaf .str) (.loc 0) (.lit (.str 3 7104878)) (.lit (.int 3 1))) none
    (.cons none (.update (.leaf .str) (.loc 1) (.lit (.str 4 1702195828)) (.lit (.int 3 2))) none
    (.cons none (.update (.leaf .str) (.loc 2) (.lit (.str 5 435728179558)) (.lit (.int 3 3))) none
    (.cons none (.mov (.loc 3)) none
    (.cons none (.load1 (.lit .nilptr)) (some (.i (.i (.o .h))))
    .nil)))))))
  (.block 0 (.loop (.seq (.region (.cons none (.load1 (.lit .nilptr)) none
    (.cons none (.extract 0 (.loc 0)) (some (.i (.o (.i .h))))
    .nil)))
  (.seq (.cond (.var (.i (.o (.i .h)))) .skip
  (.exit 0))
  (.block 1 (.seq (.region (.cons none (.load1 (.lit .nilptr)) none
    (.cons none (.extract 0 (.loc 0)) none
    (.cons none (.extract 1 (.loc 1)) none
    (.cons none (.mov (.loc 1)) (some (.i (.o .h)))
    (.cons none (.mov (.loc 1)) (some (.o (.i .h)))
    .nil))))))
  (.seq (.region (.cons none (.load1 (.var (.i .h))) none
    (.cons none (.mov (.var (.i (.o .h)))) none
    (.cons none (.buildSlice (.cons (.str 0 0) .nil) 1 1 (.cons 0 1 (.loc 0) .nil)) none
    (.cons none (.callF 114 (.cons (.loc 2) (.cons (.loc 0) .nil))) (some (.o (.o (.i (.o .h)))))
    .nil)))))
  (.cond (.var (.o (.o (.i (.o .h))))) (.seq (.region (.cons none (.mov (.var (.o (.i .h)))) none
    (.cons none (.load1 (.var (.i .h))) none
    (.cons none (.callF 122 (.cons (.loc 0) .nil)) none
    (.cons none (.field1 3 (.loc 0)) none
    (.cons none (.build (.cons (.int 3 0) (.cons (.int 3 0) (.cons (.int 3 0) (.cons (.str 0 0) (.cons .nilptr (.cons .nilptr (.cons .nilslice (.cons .nilslice (.cons .nilslice (.cons .nilslice .nil)))))))))) (.cons 0 1 (.loc 3) (.cons 1 1 (.loc 0) .nil))) none
    (.cons none (.box (.loc 0)) none
    (.cons none (.mov (.loc 0)) (some (.o (.o .h)))
    .nil))))))))
  .ret)
  .skip)))))))))
  (.seq (.block 2 (.seq (.region (.cons none (.load1 (.var (.i .h))) none
    (.cons none (.buildSlice (.cons (.str 0 0) .nil) 1 1 (.cons 0 1 (.lit (.str 1 40)) .nil)) none
    (.cons none (.callF 114 (.cons (.loc 1) (.cons (.loc 0) .nil))) none
    (.cons none (.mov (.loc 0)) (some (.i (.i (.o (.i .h)))))
    .nil)))))
  (.cond (.var (.i (.i (.o (.i .h))))) (.seq (.region (.cons none (.load1 (.var (.i .h))) none
    (.cons none (.callF 169 (.cons (.loc 0) .nil)) none
    (.cons none (.defer (.loc 0) .nil) (some .h)
    .nil))))
  (.seq (.region (.cons none (.load1 (.var (.i .h))) none
    (.cons none (.callF 122 (.cons (.loc 0) .nil)) none
    .nil)))
  (.seq (.region (.cons none (.load1 (.var (.i .h))) none
    (.cons none (.callF 123 (.cons (.loc 0) (.cons (.lit (.int 3 0)) .nil))) none
    (.cons none (.mov (.loc 0)) (some (.i (.i .h)))
    .nil))))
  (.seq (.region (.cons none (.load1 (.var (.i .h))) none
    (.cons none (.callF 121 (.cons (.loc 0) (.cons (.lit (.str 1 41)) .nil))) none
    .nil)))
  (.seq (.region (.cons none (.mov (.var (.i (.i .h)))) none
    (.cons none (.mov (.loc 0)) (some (.o (.o .h)))
    .nil)))
  .ret)))))
  (.seq (.region (.cons none (.load1 (.var (.i .h))) none
    (.cons none (.buildSlice (.cons (.str 0 0) .nil) 1 1 (.cons 0 1 (.lit (.str 8 7957695015192261990)) .nil)) none
    (.cons none (.callF 114 (.cons (.loc 1) (.cons (.loc 0) .nil))) none
    (.cons none (.mov (.loc 0)) (some (.o (.o (.o (.i (.o .h))))))
    .nil)))))
  (.cond (.var (.o (.o (.o (.i (.o .h)))))) (.seq (.region (.cons none (.load1 (.var (.i .h))) none
    (.cons none (.callF 117 (.cons (.loc 0) (.cons (.lit (.func (.func 239) .nil .nil)) .nil))) none
    (.cons none (.mov (.loc 0)) (some (.o (.o .h)))
    .nil))))
  .ret)
  (.seq (.region (.cons none (.load1 (.var (.i .h))) none
    (.cons none (.buildSlice (.cons (.str 0 0) .nil) 1 1 (.cons 0 1 (.lit (.str 1 123)) .nil)) none
    (.cons none (.callF 114 (.cons (.loc 1) (.cons (.loc 0) .nil))) none
    (.cons none (.mov (.loc 0)) (some (.o (.i (.i (.i (.o .h))))))
    .nil)))))
  (.cond (.var (.o (.i (.i (.i (.o .h)))))) (.seq (.region (.cons none (.build (.cons (.int 3 0) (.cons (.int 3 0) (.cons (.int 3 0) (.cons (.str 0 0) (.cons .nilptr (.cons .nilptr (.cons .nilslice (.cons .nilslice (.cons .nilslice (.cons .nilslice .nil)))))))))) (.cons 0 1 (.lit (.int 3 12)) .nil)) none
    (.cons none (.box (.loc 0)) none
    (.cons none (.alloc (.cons .nilptr .nil) 1) (some (.o (.o (.o .h))))
    (.cons none (.store 1 (.loc 0) (.loc 1)) none
    .nil)))))
  (.seq (.draw (.cons none (.load1 (.var (.i .h))) none (.light 0)
    (.cons none (.mkFunc (.func 240) .nil (.cons (.var (.i .h)) (.cons (.var (.o (.o (.o .h)))) .nil))) none (.light 0)
    (.cons none (.callF 170 (.cons (.loc 1) (.cons (.lit (.str 1 123)) (.cons (.lit (.str 1 125)) (.cons (.loc 0) .nil))))) none .heavy
    (.cons none (.load1 (.var (.o (.o (.o .h))))) none (.light 1)
    (.cons none (.nilCheck (.loc 0)) none (.light 0)
    (.cons none (.fieldAddr 1 (.loc 0)) none (.light 0)
    (.cons none (.store 1 (.loc 0) (.loc 3)) none .heavy
    .nil))))))) 0)
  (.seq (.region (.cons none (.load1 (.var (.o (.o (.o .h))))) none
    (.cons none (.mov (.loc 0)) (some (.o (.o .h)))
    .nil)))
  .ret)))
  .skip)))))))
  (.seq (.region (.cons none (.load1 (.var (.i .h))) none
    (.cons none (.callF 44 (.cons (.loc 0) (.cons (.lit (.int 3 4)) .nil))) none
    .nil)))
  (.seq (.region (.cons none (.mov (.lit .nilptr)) (some (.o (.o .h)))
    .nil))
  .ret))))),
  [.tmp (.o (.o .h))], some .dfr⟩

def C227 : Ctx := ⟨fun t => Nat.testBit 17867097505895 t, 59, 11⟩
def D227 : Ctx := ⟨fun t => Nat.testBit 17867097505895 t || t == 4, 59, 11⟩
def nf227 : CFunc := ⟨anyOf 4 cf227.body, cf227.results, some .dfr⟩
set_option maxRecDepth 1000000 in
theorem n227 : FnOk Tryz.prog 11 227 nf227 := by
  refine .ofO (C := C227) Tryz.func227 (by kernel_rfl) rfl ⟨_, _, cf227.results, rfl, .seq (.base (cc := headOf cf227.body) (by kernel_rfl)) (.seq (.piece (any_piece (C1 := D227) (cs := csOf cf227.body) (sz := 4) (tm := 117) (ts := 9) (te := 3) (tp := 116) (tsl := 182) (fis := 114)
    (l1 := 3) (n1 := 7104878) (l2 := 4) (n2 := 1702195828) (l3 := 5) (n3 := 435728179558) (v1 := 1) (v2 := 2) (v3 := 3)
    ⟨rfl, rfl, rfl⟩ ⟨rfl, by kernel_rfl, rfl⟩ ⟨rfl, by kernel_rfl, rfl⟩ ⟨rfl, by kernel_rfl, rfl⟩ ⟨rfl, rfl, rfl⟩ ⟨rfl, rfl, rfl⟩ ⟨rfl, rfl, rfl⟩ ⟨rfl, rfl, rfl⟩ ⟨rfl, rfl, rfl⟩ ⟨rfl, rfl, rfl⟩ ⟨rfl, rfl, rfl⟩ ⟨rfl, rfl, rfl⟩ ⟨rfl, rfl, rfl⟩ ⟨rfl, rfl, rfl⟩ ⟨rfl, rfl, rfl⟩ ⟨rfl, rfl, rfl⟩ ⟨rfl, rfl, rfl⟩
    (by kernel_rfl) (by kernel_rfl) (by decide) (by decide) (by decide) (by decide) (by decide) (by decide) (by kernel_rfl) (by kernel_rfl) (slice_one (by kernel_rfl) (by kernel_rfl)) (load_one (by kernel_rfl)) ⟨_, Tryz.func114, by kernel_rfl, by decide⟩ is_law (by decide) rfl rfl (by kernel_rfl) (by decide) (fun _ => rfl) (by kernel_rfl)))
    (.base (cc := restOf cf227.body) (by kernel_rfl))), by kernel_rfl, by kernel_rfl⟩
end
end Go.Proofs.YtflbicbcphmgoabGreatDoor
