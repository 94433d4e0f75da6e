/-
  A closed run, cut: its pieces serve as summaries.
-/
import Derived.Test.YthidnkhhndbidaaGreatDoorCut
import Derived.Test.YthidnkhhndbidaaGreatDoorSumBCOk
import Derived.Test.YthidnkhhndbidaaGreatDoorCutR0
import Derived.Test.YthidnkhhndbidaaGreatDoorCutR1
import Derived.Test.YthidnkhhndbidaaGreatDoorCutR2
import Derived.Test.YthidnkhhndbidaaGreatDoorCutR3
import Derived.Test.YthidnkhhndbidaaGreatDoorCutR4
import Derived.Test.YthidnkhhndbidaaGreatDoorCutR5
import Derived.Test.YthidnkhhndbidaaGreatDoorCutR6
namespace Go.Proofs.YthidnkhhndbidaaGreatDoor
open Abs
theorem smC0_ok : SmOk Tryz.prog SmC0 := smB_ok
theorem smC1_ok : SmOk Tryz.prog SmC1 := cuts_fastM (g := 0) mixed smC0_ok numOk (List.forall_mem_cons.2 ⟨g12_6265, fun _ h => (by cases h)⟩)
theorem smC2_ok : SmOk Tryz.prog SmC2 := cuts_fastM (g := 0) mixed smC1_ok numOk (List.forall_mem_cons.2 ⟨g15_4153, List.forall_mem_cons.2 ⟨g15_14856, fun _ h => (by cases h)⟩⟩)
theorem smC3_ok : SmOk Tryz.prog SmC3 := cuts_fastM (g := 0) mixed smC2_ok numOk (List.forall_mem_cons.2 ⟨g16_6059, fun _ h => (by cases h)⟩)
theorem smC4_ok : SmOk Tryz.prog SmC4 := cuts_fastM (g := 0) mixed smC3_ok numOk (List.forall_mem_cons.2 ⟨g18_6163, List.forall_mem_cons.2 ⟨g18_6425, fun _ h => (by cases h)⟩⟩)
theorem smC5_ok : SmOk Tryz.prog SmC5 := cuts_fastM (g := 0) mixed smC4_ok numOk (List.forall_mem_cons.2 ⟨g30_15343, fun _ h => (by cases h)⟩)
theorem smC6_ok : SmOk Tryz.prog SmC6 := cuts_fastM (g := 0) mixed smC5_ok numOk (List.forall_mem_cons.2 ⟨g35_12002, List.forall_mem_cons.2 ⟨g35_14339, fun _ h => (by cases h)⟩⟩)
theorem smC7_ok : SmOk Tryz.prog SmC7 := cuts_fastM (g := 0) mixed smC6_ok numOk (List.forall_mem_cons.2 ⟨g85_9043, List.forall_mem_cons.2 ⟨g85_13444, fun _ h => (by cases h)⟩⟩)
theorem smC8_ok : SmOk Tryz.prog SmC8 := cuts_fastM (g := 0) mixed smC7_ok numOk (List.forall_mem_cons.2 ⟨g6_11945, fun _ h => (by cases h)⟩)
theorem smC9_ok : SmOk Tryz.prog SmC9 := cuts_fastM (g := 0) mixed smC8_ok numOk (List.forall_mem_cons.2 ⟨g89_7535, List.forall_mem_cons.2 ⟨g89_10910, fun _ h => (by cases h)⟩⟩)
theorem smC10_ok : SmOk Tryz.prog SmC10 := cuts_fastM (g := 0) mixed smC9_ok numOk (List.forall_mem_cons.2 ⟨g97_5553, List.forall_mem_cons.2 ⟨g97_8100, List.forall_mem_cons.2 ⟨g97_11428, fun _ h => (by cases h)⟩⟩⟩)
theorem smC11_ok : SmOk Tryz.prog SmC11 := cuts_fastM (g := 0) mixed smC10_ok numOk (List.forall_mem_cons.2 ⟨g8_4583, fun _ h => (by cases h)⟩)
theorem smC12_ok : SmOk Tryz.prog SmC12 := cuts_fastM (g := 0) mixed smC11_ok numOk (List.forall_mem_cons.2 ⟨g9_10441, fun _ h => (by cases h)⟩)
theorem smC13_ok : SmOk Tryz.prog SmC13 := cuts_fastM (g := 0) mixed smC12_ok numOk (List.forall_mem_cons.2 ⟨g10_6497, fun _ h => (by cases h)⟩)
theorem smC14_ok : SmOk Tryz.prog SmC14 := cuts_fastM (g := 0) mixed smC13_ok numOk (List.forall_mem_cons.2 ⟨g4_4096, fun _ h => (by cases h)⟩)
end Go.Proofs.YthidnkhhndbidaaGreatDoor
