/- OneOp returns true on every byte. -/
import Derived.OpenShut
import Derived.Test.YgvaqwGreatFiA
import Derived.Test.YgvaqwGreatFaB
import Derived.Test.YgvaqwGreatTaE
import Derived.Test.YgvaqwGreatMoC
import Derived.Test.YgvaqwGreatOs
import Derived.Test.YgvaqwGreatOpa
import Derived.Test.YgvaqwGreatOpb
import Derived.Test.YgvaqwGreatOpc
import Derived.Test.YgvaqwGreatOpd
import Derived.Test.YgvaqwGreatOpe
import Derived.Test.YgvaqwGreatOpf
import Derived.Test.YgvaqwGreatOpg
import Derived.Test.YgvaqwGreatOph
import Derived.Test.YgvaqwGreatOpi
import Derived.Test.YgvaqwGreatOpj
import Derived.Test.YgvaqwGreatOpk
set_option maxRecDepth 100000
namespace Go.Proofs.YgvaqwGreat.Ev
open Go Go.Proofs Go.RowKit

theorem orcM_ok (hole g : Nat) (o : Orc) (h : orcM Hvaq.prog g = some o) : OrcOK Hvaq.prog hole g o := by
  unfold orcM at h
  split at h
  · cases h; exact fz_ok (call0_ok hole) 38
  · cases h; exact fz_ok (call0_ok hole) 57
  · cases h; exact memo0_ok (call0_ok hole) ctab33
  · cases h; exact memo0_ok (call0_ok hole) ctab35
  · cases h; exact memo0_ok (call0_ok hole) ctab55
  · cases h; exact memo0_ok (call0_ok hole) ctab59
  · cases h; exact memo0_ok (call0_ok hole) ctab60
  · cases h; exact memo0_ok (call0_ok hole) ctab84
  · cases h; exact memo0_ok (call0_ok hole) ctab86
  · cases h; exact memo0_ok (call0_ok hole) ctab93
  · cases h; exact memo0_ok (call0_ok hole) ctab139
  · cases h; exact memo0_ok (call0_ok hole) ctab146
  · cases h; exact memo0_ok (call0_ok hole) ctab147
  · cases h; exact memo0_ok (call0_ok hole) ctab165
  · cases h; exact tabF_ok hole
  · cases h

def chunks : List (List (Nat × Nat × Nat)) := [chO0, chO1, chO2, chO3, chO4, chO5, chO6, chO7, chO8, chO9, chO10, chO11, chO12, chO13, chO14, chO15, chO16, chO17, chO18, chO19, chO20, chO21, chO22, chO23, chO24, chO25, chO26, chO27, chO28, chO29, chO30, chO31, chO32, chO33, chO34, chO35, chO36, chO37, chO38, chO39, chO40, chO41, chO42, chO43, chO44, chO45, chO46, chO47, chO48, chO49, chO50, chO51, chO52]
theorem okChunks : ∀ c ∈ chunks, lAll Hvaq.prog c = true := by
  intro c hc
  simp only [chunks, List.mem_cons, List.not_mem_nil, or_false] at hc
  rcases hc with rfl | rfl | rfl | rfl | rfl | rfl | rfl | rfl | rfl | rfl | rfl | rfl | rfl | rfl | rfl | rfl | rfl | rfl | rfl | rfl | rfl | rfl | rfl | rfl | rfl | rfl | rfl | rfl | rfl | rfl | rfl | rfl | rfl | rfl | rfl | rfl | rfl | rfl | rfl | rfl | rfl | rfl | rfl | rfl | rfl | rfl | rfl | rfl | rfl | rfl | rfl | rfl | rfl
  · exact okO0
  · exact okO1
  · exact okO2
  · exact okO3
  · exact okO4
  · exact okO5
  · exact okO6
  · exact okO7
  · exact okO8
  · exact okO9
  · exact okO10
  · exact okO11
  · exact okO12
  · exact okO13
  · exact okO14
  · exact okO15
  · exact okO16
  · exact okO17
  · exact okO18
  · exact okO19
  · exact okO20
  · exact okO21
  · exact okO22
  · exact okO23
  · exact okO24
  · exact okO25
  · exact okO26
  · exact okO27
  · exact okO28
  · exact okO29
  · exact okO30
  · exact okO31
  · exact okO32
  · exact okO33
  · exact okO34
  · exact okO35
  · exact okO36
  · exact okO37
  · exact okO38
  · exact okO39
  · exact okO40
  · exact okO41
  · exact okO42
  · exact okO43
  · exact okO44
  · exact okO45
  · exact okO46
  · exact okO47
  · exact okO48
  · exact okO49
  · exact okO50
  · exact okO51
  · exact okO52

def cover (o : Nat) : Bool := Nat.beq o 32 || (Nat.beq o 240 || (Nat.beq o 245 || chunks.any fun c => c.any fun p => Nat.beq p.1 o && (Nat.ble p.2.1 255 && Nat.ble p.2.2 255)))
theorem cover_ok : (List.range 256).all cover = true := by kernel_rfl
theorem shownAll (o : Nat) (ho : o < 256) : ∃ tk gv, Shown o tk gv := by
  have h := List.all_eq_true.1 cover_ok o (by simpa using ho)
  simp only [cover, Bool.or_eq_true] at h
  rcases h with h | h | h | h
  · obtain rfl : o = 32 := beq_t h
    exact ⟨2, 1, ho, by decide, by decide, okS32_3, .inr ⟨eS32, mS32, okS32_1, okS32_2⟩⟩
  · obtain rfl : o = 240 := beq_t h
    exact ⟨3, 1, ho, by decide, by decide, okS240_3, .inr ⟨eS240, mS240, okS240_1, okS240_2⟩⟩
  · obtain rfl : o = 245 := beq_t h
    exact ⟨4, 1, ho, by decide, by decide, okS245_3, .inr ⟨eS245, mS245, okS245_1, okS245_2⟩⟩
  · obtain ⟨c, hc, h⟩ := List.any_eq_true.1 h
    obtain ⟨p, hp, h⟩ := List.any_eq_true.1 h
    simp only [Bool.and_eq_true] at h
    obtain ⟨h1, h2, h3⟩ := h
    have e : p.1 = o := beq_t h1
    have l2 : p.2.1 ≤ 255 := ble_t h2
    have l3 : p.2.2 ≤ 255 := ble_t h3
    obtain ⟨a, b⟩ := lAll_mem (okChunks c hc) p hp
    rw [e] at a b
    exact ⟨p.2.1, p.2.2, ho, by omega, by omega, b, .inl a⟩
theorem walk (a0 : Int) (w0 : (Lit.int .u8 a0).wf = true) (w : World) :
    Calls Hvaq.prog 3 #[.int .u8 a0] w fun e w' => e = .returned (.bool true) ∧ Grown w w' := by
  obtain ⟨h1, h2⟩ := Go.bounds_u8 w0
  obtain ⟨o, rfl⟩ : ∃ o : Nat, a0 = (o : Int) := ⟨a0.toNat, by omega⟩
  obtain ⟨tk, gv, h⟩ := shownAll o (by omega)
  exact shown_ok orcM_ok pieceB h w
end Go.Proofs.YgvaqwGreat.Ev
