/-
  A closed run, cut: its pieces serve as summaries.
-/
import Derived.Test.YtihplijjkcdcjaaGreatDoorSmA
import Derived.Test.YtihplijjkcdcjaaGreatDoorSumBDOk
import Derived.Test.YtihplijjkcdcjaaGreatDoorCutR0
import Derived.Test.YtihplijjkcdcjaaGreatDoorCutR1
import Derived.Test.YtihplijjkcdcjaaGreatDoorCutR2
import Derived.Test.YtihplijjkcdcjaaGreatDoorCutR3
import Derived.Test.YtihplijjkcdcjaaGreatDoorCutR4
import Derived.Test.YtihplijjkcdcjaaGreatDoorCutR5
import Derived.Test.YtihplijjkcdcjaaGreatDoorCutR6
import Derived.Test.YtihplijjkcdcjaaGreatDoorCutR7
import Derived.Test.YtihplijjkcdcjaaGreatDoorCutR8
namespace Go.Proofs.YtihplijjkcdcjaaGreatDoor
open Abs
theorem smC0_ok : SmOk Tryz.prog SmC0 := smB_ok
theorem smC1_ok : SmOk Tryz.prog SmC1 := cuts_fastM (g := 0) mixed smC0_ok numOk (List.forall_mem_cons.2 ⟨g9_8279, List.forall_mem_cons.2 ⟨g9_8487, List.forall_mem_cons.2 ⟨g9_10847, fun _ h => (by cases h)⟩⟩⟩)
theorem smC2_ok : SmOk Tryz.prog SmC2 := cuts_fastM (g := 0) mixed smC1_ok numOk (List.forall_mem_cons.2 ⟨g14_4234, List.forall_mem_cons.2 ⟨g14_13369, List.forall_mem_cons.2 ⟨g14_14958, fun _ h => (by cases h)⟩⟩⟩)
theorem smC3_ok : SmOk Tryz.prog SmC3 := cuts_fastM (g := 0) mixed smC2_ok numOk (List.forall_mem_cons.2 ⟨g17_5284, List.forall_mem_cons.2 ⟨g17_8557, fun _ h => (by cases h)⟩⟩)
theorem smC4_ok : SmOk Tryz.prog SmC4 := cuts_fastM (g := 0) mixed smC3_ok numOk (List.forall_mem_cons.2 ⟨g32_4853, List.forall_mem_cons.2 ⟨g32_12226, fun _ h => (by cases h)⟩⟩)
theorem smC5_ok : SmOk Tryz.prog SmC5 := cuts_fastM (g := 0) mixed smC4_ok numOk (List.forall_mem_cons.2 ⟨g8_4667, fun _ h => (by cases h)⟩)
theorem smC6_ok : SmOk Tryz.prog SmC6 := cuts_fastM (g := 0) mixed smC5_ok numOk (List.forall_mem_cons.2 ⟨g42_5309, List.forall_mem_cons.2 ⟨g42_8582, fun _ h => (by cases h)⟩⟩)
theorem smC7_ok : SmOk Tryz.prog SmC7 := cuts_fastM (g := 0) mixed smC6_ok numOk (List.forall_mem_cons.2 ⟨g67_14652, fun _ h => (by cases h)⟩)
theorem smC8_ok : SmOk Tryz.prog SmC8 := cuts_fastM (g := 0) mixed smC7_ok numOk (List.forall_mem_cons.2 ⟨g21_14022, fun _ h => (by cases h)⟩)
theorem smC9_ok : SmOk Tryz.prog SmC9 := cuts_fastM (g := 0) mixed smC8_ok numOk (List.forall_mem_cons.2 ⟨g84_12605, fun _ h => (by cases h)⟩)
theorem smC10_ok : SmOk Tryz.prog SmC10 := cuts_fastM (g := 0) mixed smC9_ok numOk (List.forall_mem_cons.2 ⟨g107_5395, List.forall_mem_cons.2 ⟨g107_8668, fun _ h => (by cases h)⟩⟩)
theorem smC11_ok : SmOk Tryz.prog SmC11 := cuts_fastM (g := 0) mixed smC10_ok numOk (List.forall_mem_cons.2 ⟨g202_7755, fun _ h => (by cases h)⟩)
theorem smC12_ok : SmOk Tryz.prog SmC12 := cuts_fastM (g := 0) mixed smC11_ok numOk (List.forall_mem_cons.2 ⟨g204_6204, fun _ h => (by cases h)⟩)
theorem smC13_ok : SmOk Tryz.prog SmC13 := cuts_fastM (g := 0) mixed smC12_ok numOk (List.forall_mem_cons.2 ⟨g268_9990, fun _ h => (by cases h)⟩)
theorem smC14_ok : SmOk Tryz.prog SmC14 := cuts_fastM (g := 0) mixed smC13_ok numOk (List.forall_mem_cons.2 ⟨g28_9573, fun _ h => (by cases h)⟩)
theorem smC15_ok : SmOk Tryz.prog SmC15 := cuts_fastM (g := 0) mixed smC14_ok numOk (List.forall_mem_cons.2 ⟨g10_8356, List.forall_mem_cons.2 ⟨g10_8582, fun _ h => (by cases h)⟩⟩)
theorem smC16_ok : SmOk Tryz.prog SmC16 := cuts_fastM (g := 0) mixed smC15_ok numOk (List.forall_mem_cons.2 ⟨g314_6708, fun _ h => (by cases h)⟩)
theorem smC17_ok : SmOk Tryz.prog SmC17 := cuts_fastM (g := 0) mixed smC16_ok numOk (List.forall_mem_cons.2 ⟨g205_6708, fun _ h => (by cases h)⟩)
theorem smC18_ok : SmOk Tryz.prog SmC18 := cuts_fastM (g := 0) mixed smC17_ok numOk (List.forall_mem_cons.2 ⟨g43_5381, fun _ h => (by cases h)⟩)
theorem smC19_ok : SmOk Tryz.prog SmC19 := cuts_fastM (g := 0) mixed smC18_ok numOk (List.forall_mem_cons.2 ⟨g383_10999, fun _ h => (by cases h)⟩)
theorem smC20_ok : SmOk Tryz.prog SmC20 := cuts_fastM (g := 0) mixed smC19_ok numOk (List.forall_mem_cons.2 ⟨g384_11233, fun _ h => (by cases h)⟩)
theorem smC21_ok : SmOk Tryz.prog SmC21 := cuts_fastM (g := 0) mixed smC20_ok numOk (List.forall_mem_cons.2 ⟨g24_10905, fun _ h => (by cases h)⟩)
theorem smC22_ok : SmOk Tryz.prog SmC22 := cuts_fastM (g := 0) mixed smC21_ok numOk (List.forall_mem_cons.2 ⟨g6_4101, List.forall_mem_cons.2 ⟨g6_10904, fun _ h => (by cases h)⟩⟩)
theorem smC23_ok : SmOk Tryz.prog SmC23 := cuts_fastM (g := 0) mixed smC22_ok numOk (List.forall_mem_cons.2 ⟨g4_4096, fun _ h => (by cases h)⟩)
end Go.Proofs.YtihplijjkcdcjaaGreatDoor
