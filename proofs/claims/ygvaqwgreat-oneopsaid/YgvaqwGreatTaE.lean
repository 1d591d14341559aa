/- The tables' entries, each run by the kernel. -/
import Derived.Test.YgvaqwGreatFaA
import Derived.Test.YgvaqwGreatTaD
import Derived.KernelRfl
set_option maxRecDepth 100000
namespace Go.Proofs.YgvaqwGreat.Ev
open Go Go.Proofs
theorem ctab33_0 : chkB (call0 Hvaq.prog) 33 2 tab33_0 = true := by kernel_rfl
theorem ctab33_1 : chkB (call0 Hvaq.prog) 33 2 tab33_1 = true := by kernel_rfl
theorem ctab33_2 : chkB (call0 Hvaq.prog) 33 2 tab33_2 = true := by kernel_rfl
theorem ctab33_3 : chkB (call0 Hvaq.prog) 33 2 tab33_3 = true := by kernel_rfl
theorem ctab33_4 : chkB (call0 Hvaq.prog) 33 2 tab33_4 = true := by kernel_rfl
theorem ctab33_5 : chkB (call0 Hvaq.prog) 33 2 tab33_5 = true := by kernel_rfl
theorem ctab33_6 : chkB (call0 Hvaq.prog) 33 2 tab33_6 = true := by kernel_rfl
theorem ctab33_7 : chkB (call0 Hvaq.prog) 33 2 tab33_7 = true := by kernel_rfl
theorem ctab33_8 : chkB (call0 Hvaq.prog) 33 2 tab33_8 = true := by kernel_rfl
theorem ctab33_9 : chkB (call0 Hvaq.prog) 33 2 tab33_9 = true := by kernel_rfl
theorem ctab33_10 : chkB (call0 Hvaq.prog) 33 2 tab33_10 = true := by kernel_rfl
theorem ctab33 : ∀ b ∈ tab33, chkB (call0 Hvaq.prog) 33 2 b = true := by
  intro b hb
  simp only [tab33, List.mem_cons, List.not_mem_nil, or_false] at hb
  rcases hb with rfl | rfl | rfl | rfl | rfl | rfl | rfl | rfl | rfl | rfl | rfl
  · exact ctab33_0
  · exact ctab33_1
  · exact ctab33_2
  · exact ctab33_3
  · exact ctab33_4
  · exact ctab33_5
  · exact ctab33_6
  · exact ctab33_7
  · exact ctab33_8
  · exact ctab33_9
  · exact ctab33_10
theorem ctab35_0 : chkB (call0 Hvaq.prog) 35 2 tab35_0 = true := by kernel_rfl
theorem ctab35_1 : chkB (call0 Hvaq.prog) 35 2 tab35_1 = true := by kernel_rfl
theorem ctab35_2 : chkB (call0 Hvaq.prog) 35 2 tab35_2 = true := by kernel_rfl
theorem ctab35_3 : chkB (call0 Hvaq.prog) 35 2 tab35_3 = true := by kernel_rfl
theorem ctab35_4 : chkB (call0 Hvaq.prog) 35 2 tab35_4 = true := by kernel_rfl
theorem ctab35_5 : chkB (call0 Hvaq.prog) 35 2 tab35_5 = true := by kernel_rfl
theorem ctab35_6 : chkB (call0 Hvaq.prog) 35 2 tab35_6 = true := by kernel_rfl
theorem ctab35_7 : chkB (call0 Hvaq.prog) 35 2 tab35_7 = true := by kernel_rfl
theorem ctab35_8 : chkB (call0 Hvaq.prog) 35 2 tab35_8 = true := by kernel_rfl
theorem ctab35_9 : chkB (call0 Hvaq.prog) 35 2 tab35_9 = true := by kernel_rfl
theorem ctab35_10 : chkB (call0 Hvaq.prog) 35 2 tab35_10 = true := by kernel_rfl
theorem ctab35 : ∀ b ∈ tab35, chkB (call0 Hvaq.prog) 35 2 b = true := by
  intro b hb
  simp only [tab35, List.mem_cons, List.not_mem_nil, or_false] at hb
  rcases hb with rfl | rfl | rfl | rfl | rfl | rfl | rfl | rfl | rfl | rfl | rfl
  · exact ctab35_0
  · exact ctab35_1
  · exact ctab35_2
  · exact ctab35_3
  · exact ctab35_4
  · exact ctab35_5
  · exact ctab35_6
  · exact ctab35_7
  · exact ctab35_8
  · exact ctab35_9
  · exact ctab35_10
theorem ctab55_0 : chkB (call0 Hvaq.prog) 55 2 tab55_0 = true := by kernel_rfl
theorem ctab55_1 : chkB (call0 Hvaq.prog) 55 2 tab55_1 = true := by kernel_rfl
theorem ctab55_2 : chkB (call0 Hvaq.prog) 55 2 tab55_2 = true := by kernel_rfl
theorem ctab55_3 : chkB (call0 Hvaq.prog) 55 2 tab55_3 = true := by kernel_rfl
theorem ctab55_4 : chkB (call0 Hvaq.prog) 55 2 tab55_4 = true := by kernel_rfl
theorem ctab55_5 : chkB (call0 Hvaq.prog) 55 2 tab55_5 = true := by kernel_rfl
theorem ctab55_6 : chkB (call0 Hvaq.prog) 55 2 tab55_6 = true := by kernel_rfl
theorem ctab55_7 : chkB (call0 Hvaq.prog) 55 2 tab55_7 = true := by kernel_rfl
theorem ctab55_8 : chkB (call0 Hvaq.prog) 55 2 tab55_8 = true := by kernel_rfl
theorem ctab55_9 : chkB (call0 Hvaq.prog) 55 2 tab55_9 = true := by kernel_rfl
theorem ctab55_10 : chkB (call0 Hvaq.prog) 55 2 tab55_10 = true := by kernel_rfl
theorem ctab55_11 : chkB (call0 Hvaq.prog) 55 2 tab55_11 = true := by kernel_rfl
theorem ctab55_12 : chkB (call0 Hvaq.prog) 55 2 tab55_12 = true := by kernel_rfl
theorem ctab55_13 : chkB (call0 Hvaq.prog) 55 2 tab55_13 = true := by kernel_rfl
theorem ctab55_14 : chkB (call0 Hvaq.prog) 55 2 tab55_14 = true := by kernel_rfl
theorem ctab55_15 : chkB (call0 Hvaq.prog) 55 2 tab55_15 = true := by kernel_rfl
theorem ctab55_16 : chkB (call0 Hvaq.prog) 55 2 tab55_16 = true := by kernel_rfl
theorem ctab55 : ∀ b ∈ tab55, chkB (call0 Hvaq.prog) 55 2 b = true := by
  intro b hb
  simp only [tab55, List.mem_cons, List.not_mem_nil, or_false] at hb
  rcases hb with rfl | rfl | rfl | rfl | rfl | rfl | rfl | rfl | rfl | rfl | rfl | rfl | rfl | rfl | rfl | rfl | rfl
  · exact ctab55_0
  · exact ctab55_1
  · exact ctab55_2
  · exact ctab55_3
  · exact ctab55_4
  · exact ctab55_5
  · exact ctab55_6
  · exact ctab55_7
  · exact ctab55_8
  · exact ctab55_9
  · exact ctab55_10
  · exact ctab55_11
  · exact ctab55_12
  · exact ctab55_13
  · exact ctab55_14
  · exact ctab55_15
  · exact ctab55_16
theorem ctab59_0 : chkB (call0 Hvaq.prog) 59 1 tab59_0 = true := by kernel_rfl
theorem ctab59_1 : chkB (call0 Hvaq.prog) 59 1 tab59_1 = true := by kernel_rfl
theorem ctab59_2 : chkB (call0 Hvaq.prog) 59 1 tab59_2 = true := by kernel_rfl
theorem ctab59_3 : chkB (call0 Hvaq.prog) 59 1 tab59_3 = true := by kernel_rfl
theorem ctab59_4 : chkB (call0 Hvaq.prog) 59 1 tab59_4 = true := by kernel_rfl
theorem ctab59_5 : chkB (call0 Hvaq.prog) 59 1 tab59_5 = true := by kernel_rfl
theorem ctab59_6 : chkB (call0 Hvaq.prog) 59 1 tab59_6 = true := by kernel_rfl
theorem ctab59 : ∀ b ∈ tab59, chkB (call0 Hvaq.prog) 59 1 b = true := by
  intro b hb
  simp only [tab59, List.mem_cons, List.not_mem_nil, or_false] at hb
  rcases hb with rfl | rfl | rfl | rfl | rfl | rfl | rfl
  · exact ctab59_0
  · exact ctab59_1
  · exact ctab59_2
  · exact ctab59_3
  · exact ctab59_4
  · exact ctab59_5
  · exact ctab59_6
theorem ctab60_0 : chkB (call0 Hvaq.prog) 60 2 tab60_0 = true := by kernel_rfl
theorem ctab60_1 : chkB (call0 Hvaq.prog) 60 2 tab60_1 = true := by kernel_rfl
theorem ctab60_2 : chkB (call0 Hvaq.prog) 60 2 tab60_2 = true := by kernel_rfl
theorem ctab60_3 : chkB (call0 Hvaq.prog) 60 2 tab60_3 = true := by kernel_rfl
theorem ctab60_4 : chkB (call0 Hvaq.prog) 60 2 tab60_4 = true := by kernel_rfl
theorem ctab60_5 : chkB (call0 Hvaq.prog) 60 2 tab60_5 = true := by kernel_rfl
theorem ctab60_6 : chkB (call0 Hvaq.prog) 60 2 tab60_6 = true := by kernel_rfl
theorem ctab60_7 : chkB (call0 Hvaq.prog) 60 2 tab60_7 = true := by kernel_rfl
theorem ctab60_8 : chkB (call0 Hvaq.prog) 60 2 tab60_8 = true := by kernel_rfl
theorem ctab60_9 : chkB (call0 Hvaq.prog) 60 2 tab60_9 = true := by kernel_rfl
theorem ctab60_10 : chkB (call0 Hvaq.prog) 60 2 tab60_10 = true := by kernel_rfl
theorem ctab60_11 : chkB (call0 Hvaq.prog) 60 2 tab60_11 = true := by kernel_rfl
theorem ctab60_12 : chkB (call0 Hvaq.prog) 60 2 tab60_12 = true := by kernel_rfl
theorem ctab60_13 : chkB (call0 Hvaq.prog) 60 2 tab60_13 = true := by kernel_rfl
theorem ctab60_14 : chkB (call0 Hvaq.prog) 60 2 tab60_14 = true := by kernel_rfl
theorem ctab60_15 : chkB (call0 Hvaq.prog) 60 2 tab60_15 = true := by kernel_rfl
theorem ctab60_16 : chkB (call0 Hvaq.prog) 60 2 tab60_16 = true := by kernel_rfl
theorem ctab60 : ∀ b ∈ tab60, chkB (call0 Hvaq.prog) 60 2 b = true := by
  intro b hb
  simp only [tab60, List.mem_cons, List.not_mem_nil, or_false] at hb
  rcases hb with rfl | rfl | rfl | rfl | rfl | rfl | rfl | rfl | rfl | rfl | rfl | rfl | rfl | rfl | rfl | rfl | rfl
  · exact ctab60_0
  · exact ctab60_1
  · exact ctab60_2
  · exact ctab60_3
  · exact ctab60_4
  · exact ctab60_5
  · exact ctab60_6
  · exact ctab60_7
  · exact ctab60_8
  · exact ctab60_9
  · exact ctab60_10
  · exact ctab60_11
  · exact ctab60_12
  · exact ctab60_13
  · exact ctab60_14
  · exact ctab60_15
  · exact ctab60_16
theorem ctab84_0 : chkB (call0 Hvaq.prog) 84 1 tab84_0 = true := by kernel_rfl
theorem ctab84_1 : chkB (call0 Hvaq.prog) 84 1 tab84_1 = true := by kernel_rfl
theorem ctab84_2 : chkB (call0 Hvaq.prog) 84 1 tab84_2 = true := by kernel_rfl
theorem ctab84_3 : chkB (call0 Hvaq.prog) 84 1 tab84_3 = true := by kernel_rfl
theorem ctab84_4 : chkB (call0 Hvaq.prog) 84 1 tab84_4 = true := by kernel_rfl
theorem ctab84_5 : chkB (call0 Hvaq.prog) 84 1 tab84_5 = true := by kernel_rfl
theorem ctab84_6 : chkB (call0 Hvaq.prog) 84 1 tab84_6 = true := by kernel_rfl
theorem ctab84_7 : chkB (call0 Hvaq.prog) 84 1 tab84_7 = true := by kernel_rfl
theorem ctab84_8 : chkB (call0 Hvaq.prog) 84 1 tab84_8 = true := by kernel_rfl
theorem ctab84_9 : chkB (call0 Hvaq.prog) 84 1 tab84_9 = true := by kernel_rfl
theorem ctab84_10 : chkB (call0 Hvaq.prog) 84 1 tab84_10 = true := by kernel_rfl
theorem ctab84_11 : chkB (call0 Hvaq.prog) 84 1 tab84_11 = true := by kernel_rfl
theorem ctab84_12 : chkB (call0 Hvaq.prog) 84 1 tab84_12 = true := by kernel_rfl
theorem ctab84 : ∀ b ∈ tab84, chkB (call0 Hvaq.prog) 84 1 b = true := by
  intro b hb
  simp only [tab84, List.mem_cons, List.not_mem_nil, or_false] at hb
  rcases hb with rfl | rfl | rfl | rfl | rfl | rfl | rfl | rfl | rfl | rfl | rfl | rfl | rfl
  · exact ctab84_0
  · exact ctab84_1
  · exact ctab84_2
  · exact ctab84_3
  · exact ctab84_4
  · exact ctab84_5
  · exact ctab84_6
  · exact ctab84_7
  · exact ctab84_8
  · exact ctab84_9
  · exact ctab84_10
  · exact ctab84_11
  · exact ctab84_12
theorem ctab86_0 : chkB (call0 Hvaq.prog) 86 2 tab86_0 = true := by kernel_rfl
theorem ctab86_1 : chkB (call0 Hvaq.prog) 86 2 tab86_1 = true := by kernel_rfl
theorem ctab86_2 : chkB (call0 Hvaq.prog) 86 2 tab86_2 = true := by kernel_rfl
theorem ctab86_3 : chkB (call0 Hvaq.prog) 86 2 tab86_3 = true := by kernel_rfl
theorem ctab86_4 : chkB (call0 Hvaq.prog) 86 2 tab86_4 = true := by kernel_rfl
theorem ctab86_5 : chkB (call0 Hvaq.prog) 86 2 tab86_5 = true := by kernel_rfl
theorem ctab86_6 : chkB (call0 Hvaq.prog) 86 2 tab86_6 = true := by kernel_rfl
theorem ctab86_7 : chkB (call0 Hvaq.prog) 86 2 tab86_7 = true := by kernel_rfl
theorem ctab86_8 : chkB (call0 Hvaq.prog) 86 2 tab86_8 = true := by kernel_rfl
theorem ctab86_9 : chkB (call0 Hvaq.prog) 86 2 tab86_9 = true := by kernel_rfl
theorem ctab86_10 : chkB (call0 Hvaq.prog) 86 2 tab86_10 = true := by kernel_rfl
theorem ctab86 : ∀ b ∈ tab86, chkB (call0 Hvaq.prog) 86 2 b = true := by
  intro b hb
  simp only [tab86, List.mem_cons, List.not_mem_nil, or_false] at hb
  rcases hb with rfl | rfl | rfl | rfl | rfl | rfl | rfl | rfl | rfl | rfl | rfl
  · exact ctab86_0
  · exact ctab86_1
  · exact ctab86_2
  · exact ctab86_3
  · exact ctab86_4
  · exact ctab86_5
  · exact ctab86_6
  · exact ctab86_7
  · exact ctab86_8
  · exact ctab86_9
  · exact ctab86_10
theorem ctab93_0 : chkB (call0 Hvaq.prog) 93 1 tab93_0 = true := by kernel_rfl
theorem ctab93_1 : chkB (call0 Hvaq.prog) 93 1 tab93_1 = true := by kernel_rfl
theorem ctab93 : ∀ b ∈ tab93, chkB (call0 Hvaq.prog) 93 1 b = true := by
  intro b hb
  simp only [tab93, List.mem_cons, List.not_mem_nil, or_false] at hb
  rcases hb with rfl | rfl
  · exact ctab93_0
  · exact ctab93_1
theorem ctab139_0 : chkB (call0 Hvaq.prog) 139 2 tab139_0 = true := by kernel_rfl
theorem ctab139_1 : chkB (call0 Hvaq.prog) 139 2 tab139_1 = true := by kernel_rfl
theorem ctab139 : ∀ b ∈ tab139, chkB (call0 Hvaq.prog) 139 2 b = true := by
  intro b hb
  simp only [tab139, List.mem_cons, List.not_mem_nil, or_false] at hb
  rcases hb with rfl | rfl
  · exact ctab139_0
  · exact ctab139_1
theorem ctab146_0 : chkB (call0 Hvaq.prog) 146 1 tab146_0 = true := by kernel_rfl
theorem ctab146 : ∀ b ∈ tab146, chkB (call0 Hvaq.prog) 146 1 b = true := by
  intro b hb
  simp only [tab146, List.mem_cons, List.not_mem_nil, or_false] at hb
  rw [hb]; exact ctab146_0
theorem ctab147_0 : chkB (call0 Hvaq.prog) 147 1 tab147_0 = true := by kernel_rfl
theorem ctab147 : ∀ b ∈ tab147, chkB (call0 Hvaq.prog) 147 1 b = true := by
  intro b hb
  simp only [tab147, List.mem_cons, List.not_mem_nil, or_false] at hb
  rw [hb]; exact ctab147_0
theorem ctab165_0 : chkB (call0 Hvaq.prog) 165 1 tab165_0 = true := by kernel_rfl
theorem ctab165_1 : chkB (call0 Hvaq.prog) 165 1 tab165_1 = true := by kernel_rfl
theorem ctab165 : ∀ b ∈ tab165, chkB (call0 Hvaq.prog) 165 1 b = true := by
  intro b hb
  simp only [tab165, List.mem_cons, List.not_mem_nil, or_false] at hb
  rcases hb with rfl | rfl
  · exact ctab165_0
  · exact ctab165_1
end Go.Proofs.YgvaqwGreat.Ev
