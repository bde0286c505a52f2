/- The walks of the laws of chapter 3: of whole numbers, of texts, of the objects of numbers, of rows, of turns. -/
import Derived.Test.YtiofeehcnegejaaDigL
namespace Go.Proofs.Ytiofeehcnegejaa
open Go.RowKit Go.Proofs.YtiofeehcnegejaaW.PrintWords
set_option linter.unusedVariables false

theorem wholeI_one : wholeI true [1] = -2 := by decide +kernel
theorem textI_a : textI ⟨#[97]⟩ = -5808556873153909620 := by decide +kernel
theorem numI_16 : numI 16 = 1 := by decide +kernel

theorem reads_one (w : World) : ReadsInt (w.alloc (.cells #[.int .u32 1] 39)) .u32 (some ⟨w.heap.size, 0, none⟩) 1 [1] :=
  ⟨rfl, by omega, fun _ => ⟨_, rfl, fun j hj => by
    obtain rfl : j = 0 := by simpa using hj
    simp [Addr.add]⟩⟩

set_option maxHeartbeats 400000 in
set_option maxRecDepth 100000 in
theorem awake_any (w : World) : Calls Try.prog 8 #[] w fun e w' => e = .returned (.bool true) ∧ Below w.heap.size w w' := by
  have h1 := fun (w : World) hr => whole_any true (some ⟨w.heap.size, 0, none⟩) 1 1 [1] (w.alloc (.cells #[.int .u32 1] 39)) (by intro x hx; simp at hx; omega) hr (by omega) (by omega)
  have h2 := fun w => text_any ⟨#[97]⟩ w (by decide)
  have h3 := fun w => number_any 16 w
  simp only [wholeI_one] at h1
  simp only [textI_a] at h2
  simp only [numI_16] at h3
  have H1 := Lib.hid h1; have H2 := Lib.hid h2; have H3 := Lib.hid h3
  clear h1 h2 h3
  go_enter Try.func8, Try.ntmps8
  go_wp2_with (first | (go_at_call 9; refine (H1.out _ (reads_one w)).mono ?_; rintro e w1 ⟨rfl, hb1⟩) | (go_at_call 14; refine (H2.out _).mono ?_; rintro e w2 ⟨rfl, hb2⟩) | (go_at_call 16; refine (H3.out _).mono ?_; rintro e w3 ⟨rfl, hb3⟩))
  go_ret
  have z1 := hb1.size
  rw [World.size_alloc] at z1
  have z2 := hb2.size
  exact ⟨rfl, (((Below.refl _ w).alloc (Nat.le_refl _) _).trans (hb1.mono (by simp))).trans ((hb2.mono (by omega)).trans (hb3.mono (by omega)))⟩
end Go.Proofs.Ytiofeehcnegejaa
