/-
  Facts on the program's types: cells, bytes, zero values. Printed by program.
-/
import Derived.Test.YtbakhdgiimjnkaaGreatDoorChecked
import Derived.KernelRfl
import Derived.Test.YtbakhdgiimjnkaaGreatDoorAbsA
namespace Go.Proofs.YtbakhdgiimjnkaaGreatDoor.Ty
open Abs
theorem sz0 : szT Tryz.prog 0 = .ok 1 := by kernel_rfl
theorem by0 : bytesT Tryz.prog 0 = .ok 0 := by kernel_rfl
theorem ag0 : aggT Tryz.prog 0 = .ok false := by kernel_rfl
theorem sz1 : szT Tryz.prog 1 = .ok 1 := by kernel_rfl
theorem by1 : bytesT Tryz.prog 1 = .ok 8 := by kernel_rfl
theorem ag1 : aggT Tryz.prog 1 = .ok false := by kernel_rfl
theorem ze1 : zeroT Tryz.prog 1 = .ok (.nilFunc) := by kernel_rfl
theorem sz2 : szT Tryz.prog 2 = .ok 1 := by kernel_rfl
theorem by2 : bytesT Tryz.prog 2 = .ok 8 := by kernel_rfl
theorem ag2 : aggT Tryz.prog 2 = .ok false := by kernel_rfl
theorem ze2 : zeroT Tryz.prog 2 = .ok (.int .i64 0) := by kernel_rfl
theorem sz3 : szT Tryz.prog 3 = .ok 1 := by kernel_rfl
theorem by3 : bytesT Tryz.prog 3 = .ok 8 := by kernel_rfl
theorem ag3 : aggT Tryz.prog 3 = .ok false := by kernel_rfl
theorem ze3 : zeroT Tryz.prog 3 = .ok (.int .i64 0) := by kernel_rfl
theorem sz4 : szT Tryz.prog 4 = .ok 1 := by kernel_rfl
theorem by4 : bytesT Tryz.prog 4 = .ok 1 := by kernel_rfl
theorem ag4 : aggT Tryz.prog 4 = .ok false := by kernel_rfl
theorem ze4 : zeroT Tryz.prog 4 = .ok (.bool false) := by kernel_rfl
theorem sz5 : szT Tryz.prog 5 = .ok 1 := by kernel_rfl
theorem by5 : bytesT Tryz.prog 5 = .ok 1 := by kernel_rfl
theorem ag5 : aggT Tryz.prog 5 = .ok false := by kernel_rfl
theorem ze5 : zeroT Tryz.prog 5 = .ok (.int .u8 0) := by kernel_rfl
theorem sz6 : szT Tryz.prog 6 = .ok 1 := by kernel_rfl
theorem by6 : bytesT Tryz.prog 6 = .ok 1 := by kernel_rfl
theorem ag6 : aggT Tryz.prog 6 = .ok false := by kernel_rfl
theorem ze6 : zeroT Tryz.prog 6 = .ok (.int .u8 0) := by kernel_rfl
theorem sz7 : szT Tryz.prog 7 = .ok 4 := by kernel_rfl
theorem by7 : bytesT Tryz.prog 7 = .ok 24 := by kernel_rfl
theorem ag7 : aggT Tryz.prog 7 = .ok true := by kernel_rfl
theorem ze7 : zeroT Tryz.prog 7 = .ok (.agg #[(.int .i64 0), (.int .i64 0), (.bool false), (.int .u8 0)]) := by kernel_rfl
theorem sz8 : szT Tryz.prog 8 = .ok 4 := by kernel_rfl
theorem by8 : bytesT Tryz.prog 8 = .ok 24 := by kernel_rfl
theorem ag8 : aggT Tryz.prog 8 = .ok true := by kernel_rfl
theorem ze8 : zeroT Tryz.prog 8 = .ok (.agg #[(.int .i64 0), (.int .i64 0), (.bool false), (.int .u8 0)]) := by kernel_rfl
theorem sz9 : szT Tryz.prog 9 = .ok 1 := by kernel_rfl
theorem by9 : bytesT Tryz.prog 9 = .ok 16 := by kernel_rfl
theorem ag9 : aggT Tryz.prog 9 = .ok false := by kernel_rfl
theorem ze9 : zeroT Tryz.prog 9 = .ok (.string ⟨⟨[]⟩⟩) := by kernel_rfl
theorem sz10 : szT Tryz.prog 10 = .ok 1 := by kernel_rfl
theorem by10 : bytesT Tryz.prog 10 = .ok 16 := by kernel_rfl
theorem ag10 : aggT Tryz.prog 10 = .ok false := by kernel_rfl
theorem ze10 : zeroT Tryz.prog 10 = .ok (.string ⟨⟨[]⟩⟩) := by kernel_rfl
theorem sz11 : szT Tryz.prog 11 = .ok 1 := by kernel_rfl
theorem by11 : bytesT Tryz.prog 11 = .ok 16 := by kernel_rfl
theorem ag11 : aggT Tryz.prog 11 = .ok false := by kernel_rfl
theorem ze11 : zeroT Tryz.prog 11 = .ok (.string ⟨⟨[]⟩⟩) := by kernel_rfl
theorem sz12 : szT Tryz.prog 12 = .ok 1 := by kernel_rfl
theorem by12 : bytesT Tryz.prog 12 = .ok 8 := by kernel_rfl
theorem ag12 : aggT Tryz.prog 12 = .ok false := by kernel_rfl
theorem ze12 : zeroT Tryz.prog 12 = .ok (.int .u64 0) := by kernel_rfl
theorem sz13 : szT Tryz.prog 13 = .ok 2 := by kernel_rfl
theorem by13 : bytesT Tryz.prog 13 = .ok 24 := by kernel_rfl
theorem ag13 : aggT Tryz.prog 13 = .ok true := by kernel_rfl
theorem ze13 : zeroT Tryz.prog 13 = .ok (.agg #[(.string ⟨⟨[]⟩⟩), (.int .u64 0)]) := by kernel_rfl
theorem sz14 : szT Tryz.prog 14 = .ok 2 := by kernel_rfl
theorem by14 : bytesT Tryz.prog 14 = .ok 24 := by kernel_rfl
theorem ag14 : aggT Tryz.prog 14 = .ok true := by kernel_rfl
theorem ze14 : zeroT Tryz.prog 14 = .ok (.agg #[(.string ⟨⟨[]⟩⟩), (.int .u64 0)]) := by kernel_rfl
theorem sz15 : szT Tryz.prog 15 = .ok 1 := by kernel_rfl
theorem by15 : bytesT Tryz.prog 15 = .ok 8 := by kernel_rfl
theorem ag15 : aggT Tryz.prog 15 = .ok false := by kernel_rfl
theorem ze15 : zeroT Tryz.prog 15 = .ok (.pointer none) := by kernel_rfl
theorem sz16 : szT Tryz.prog 16 = .ok 1 := by kernel_rfl
theorem by16 : bytesT Tryz.prog 16 = .ok 8 := by kernel_rfl
theorem ag16 : aggT Tryz.prog 16 = .ok false := by kernel_rfl
theorem ze16 : zeroT Tryz.prog 16 = .ok (.pointer none) := by kernel_rfl
theorem sz17 : szT Tryz.prog 17 = .ok 1 := by kernel_rfl
theorem by17 : bytesT Tryz.prog 17 = .ok 8 := by kernel_rfl
theorem ag17 : aggT Tryz.prog 17 = .ok false := by kernel_rfl
theorem ze17 : zeroT Tryz.prog 17 = .ok (.pointer none) := by kernel_rfl
theorem sz18 : szT Tryz.prog 18 = .ok 1 := by kernel_rfl
theorem by18 : bytesT Tryz.prog 18 = .ok 8 := by kernel_rfl
theorem ag18 : aggT Tryz.prog 18 = .ok true := by kernel_rfl
theorem ze18 : zeroT Tryz.prog 18 = .ok (.agg #[(.pointer none)]) := by kernel_rfl
theorem sz19 : szT Tryz.prog 19 = .ok 1 := by kernel_rfl
theorem by19 : bytesT Tryz.prog 19 = .ok 8 := by kernel_rfl
theorem ag19 : aggT Tryz.prog 19 = .ok true := by kernel_rfl
theorem ze19 : zeroT Tryz.prog 19 = .ok (.agg #[(.pointer none)]) := by kernel_rfl
theorem sz20 : szT Tryz.prog 20 = .ok 1 := by kernel_rfl
theorem by20 : bytesT Tryz.prog 20 = .ok 16 := by kernel_rfl
theorem ag20 : aggT Tryz.prog 20 = .ok false := by kernel_rfl
theorem ze20 : zeroT Tryz.prog 20 = .ok (.nilIface) := by kernel_rfl
theorem sz21 : szT Tryz.prog 21 = .ok 1 := by kernel_rfl
theorem by21 : bytesT Tryz.prog 21 = .ok 4 := by kernel_rfl
theorem ag21 : aggT Tryz.prog 21 = .ok false := by kernel_rfl
theorem ze21 : zeroT Tryz.prog 21 = .ok (.int .i32 0) := by kernel_rfl
theorem sz22 : szT Tryz.prog 22 = .ok 1 := by kernel_rfl
theorem by22 : bytesT Tryz.prog 22 = .ok 8 := by kernel_rfl
theorem ag22 : aggT Tryz.prog 22 = .ok false := by kernel_rfl
theorem ze22 : zeroT Tryz.prog 22 = .ok (.nilFunc) := by kernel_rfl
theorem sz23 : szT Tryz.prog 23 = .ok 1 := by kernel_rfl
theorem by23 : bytesT Tryz.prog 23 = .ok 24 := by kernel_rfl
theorem ag23 : aggT Tryz.prog 23 = .ok false := by kernel_rfl
theorem ze23 : zeroT Tryz.prog 23 = .ok (.slice none 0 0) := by kernel_rfl
theorem sz24 : szT Tryz.prog 24 = .ok 1 := by kernel_rfl
theorem by24 : bytesT Tryz.prog 24 = .ok 8 := by kernel_rfl
theorem ag24 : aggT Tryz.prog 24 = .ok false := by kernel_rfl
theorem ze24 : zeroT Tryz.prog 24 = .ok (.int .u64 0) := by kernel_rfl
theorem sz25 : szT Tryz.prog 25 = .ok 4 := by kernel_rfl
theorem by25 : bytesT Tryz.prog 25 = .ok 48 := by kernel_rfl
theorem ag25 : aggT Tryz.prog 25 = .ok true := by kernel_rfl
theorem ze25 : zeroT Tryz.prog 25 = .ok (.agg #[(.slice none 0 0), (.int .i64 0), (.int .u64 0), (.int .i64 0)]) := by kernel_rfl
theorem sz26 : szT Tryz.prog 26 = .ok 4 := by kernel_rfl
theorem by26 : bytesT Tryz.prog 26 = .ok 48 := by kernel_rfl
theorem ag26 : aggT Tryz.prog 26 = .ok true := by kernel_rfl
theorem ze26 : zeroT Tryz.prog 26 = .ok (.agg #[(.slice none 0 0), (.int .i64 0), (.int .u64 0), (.int .i64 0)]) := by kernel_rfl
theorem sz27 : szT Tryz.prog 27 = .ok 1 := by kernel_rfl
theorem by27 : bytesT Tryz.prog 27 = .ok 8 := by kernel_rfl
theorem ag27 : aggT Tryz.prog 27 = .ok false := by kernel_rfl
theorem ze27 : zeroT Tryz.prog 27 = .ok (.nilFunc) := by kernel_rfl
theorem sz28 : szT Tryz.prog 28 = .ok 1 := by kernel_rfl
theorem by28 : bytesT Tryz.prog 28 = .ok 24 := by kernel_rfl
theorem ag28 : aggT Tryz.prog 28 = .ok false := by kernel_rfl
theorem ze28 : zeroT Tryz.prog 28 = .ok (.slice none 0 0) := by kernel_rfl
theorem sz29 : szT Tryz.prog 29 = .ok 1 := by kernel_rfl
theorem by29 : bytesT Tryz.prog 29 = .ok 8 := by kernel_rfl
theorem ag29 : aggT Tryz.prog 29 = .ok false := by kernel_rfl
theorem ze29 : zeroT Tryz.prog 29 = .ok (.int .i64 0) := by kernel_rfl
theorem sz30 : szT Tryz.prog 30 = .ok 1 := by kernel_rfl
theorem by30 : bytesT Tryz.prog 30 = .ok 0 := by kernel_rfl
theorem ag30 : aggT Tryz.prog 30 = .ok false := by kernel_rfl
theorem sz31 : szT Tryz.prog 31 = .ok 1 := by kernel_rfl
theorem by31 : bytesT Tryz.prog 31 = .ok 8 := by kernel_rfl
theorem ag31 : aggT Tryz.prog 31 = .ok false := by kernel_rfl
theorem ze31 : zeroT Tryz.prog 31 = .ok (.nilFunc) := by kernel_rfl
theorem sz32 : szT Tryz.prog 32 = .ok 1 := by kernel_rfl
theorem by32 : bytesT Tryz.prog 32 = .ok 0 := by kernel_rfl
theorem ag32 : aggT Tryz.prog 32 = .ok false := by kernel_rfl
theorem sz33 : szT Tryz.prog 33 = .ok 1 := by kernel_rfl
theorem by33 : bytesT Tryz.prog 33 = .ok 8 := by kernel_rfl
theorem ag33 : aggT Tryz.prog 33 = .ok false := by kernel_rfl
theorem ze33 : zeroT Tryz.prog 33 = .ok (.nilFunc) := by kernel_rfl
theorem sz34 : szT Tryz.prog 34 = .ok 1 := by kernel_rfl
theorem by34 : bytesT Tryz.prog 34 = .ok 8 := by kernel_rfl
theorem ag34 : aggT Tryz.prog 34 = .ok false := by kernel_rfl
theorem ze34 : zeroT Tryz.prog 34 = .ok (.pointer none) := by kernel_rfl
theorem sz35 : szT Tryz.prog 35 = .ok 1 := by kernel_rfl
theorem by35 : bytesT Tryz.prog 35 = .ok 0 := by kernel_rfl
theorem ag35 : aggT Tryz.prog 35 = .ok false := by kernel_rfl
theorem sz36 : szT Tryz.prog 36 = .ok 1 := by kernel_rfl
theorem by36 : bytesT Tryz.prog 36 = .ok 8 := by kernel_rfl
theorem ag36 : aggT Tryz.prog 36 = .ok false := by kernel_rfl
theorem ze36 : zeroT Tryz.prog 36 = .ok (.nilFunc) := by kernel_rfl
theorem sz37 : szT Tryz.prog 37 = .ok 1 := by kernel_rfl
theorem by37 : bytesT Tryz.prog 37 = .ok 8 := by kernel_rfl
theorem ag37 : aggT Tryz.prog 37 = .ok false := by kernel_rfl
theorem ze37 : zeroT Tryz.prog 37 = .ok (.nilFunc) := by kernel_rfl
theorem sz38 : szT Tryz.prog 38 = .ok 1 := by kernel_rfl
theorem by38 : bytesT Tryz.prog 38 = .ok 8 := by kernel_rfl
theorem ag38 : aggT Tryz.prog 38 = .ok false := by kernel_rfl
theorem ze38 : zeroT Tryz.prog 38 = .ok (.nilFunc) := by kernel_rfl
theorem sz39 : szT Tryz.prog 39 = .ok 1 := by kernel_rfl
theorem by39 : bytesT Tryz.prog 39 = .ok 8 := by kernel_rfl
theorem ag39 : aggT Tryz.prog 39 = .ok false := by kernel_rfl
theorem ze39 : zeroT Tryz.prog 39 = .ok (.nilFunc) := by kernel_rfl
theorem sz40 : szT Tryz.prog 40 = .ok 4 := by kernel_rfl
theorem by40 : bytesT Tryz.prog 40 = .ok 48 := by kernel_rfl
theorem ag40 : aggT Tryz.prog 40 = .ok true := by kernel_rfl
theorem ze40 : zeroT Tryz.prog 40 = .ok (.agg #[(.int .i64 0), (.int .i64 0), (.string ⟨⟨[]⟩⟩), (.string ⟨⟨[]⟩⟩)]) := by kernel_rfl
theorem sz41 : szT Tryz.prog 41 = .ok 4 := by kernel_rfl
theorem by41 : bytesT Tryz.prog 41 = .ok 48 := by kernel_rfl
theorem ag41 : aggT Tryz.prog 41 = .ok true := by kernel_rfl
theorem ze41 : zeroT Tryz.prog 41 = .ok (.agg #[(.int .i64 0), (.int .i64 0), (.string ⟨⟨[]⟩⟩), (.string ⟨⟨[]⟩⟩)]) := by kernel_rfl
theorem sz42 : szT Tryz.prog 42 = .ok 1 := by kernel_rfl
theorem by42 : bytesT Tryz.prog 42 = .ok 8 := by kernel_rfl
theorem ag42 : aggT Tryz.prog 42 = .ok false := by kernel_rfl
theorem ze42 : zeroT Tryz.prog 42 = .ok (.nilFunc) := by kernel_rfl
theorem sz43 : szT Tryz.prog 43 = .ok 1 := by kernel_rfl
theorem by43 : bytesT Tryz.prog 43 = .ok 8 := by kernel_rfl
theorem ag43 : aggT Tryz.prog 43 = .ok false := by kernel_rfl
theorem ze43 : zeroT Tryz.prog 43 = .ok (.nilFunc) := by kernel_rfl
theorem sz44 : szT Tryz.prog 44 = .ok 1 := by kernel_rfl
theorem by44 : bytesT Tryz.prog 44 = .ok 8 := by kernel_rfl
theorem ag44 : aggT Tryz.prog 44 = .ok false := by kernel_rfl
theorem ze44 : zeroT Tryz.prog 44 = .ok (.nilFunc) := by kernel_rfl
theorem sz45 : szT Tryz.prog 45 = .ok 1 := by kernel_rfl
theorem by45 : bytesT Tryz.prog 45 = .ok 24 := by kernel_rfl
theorem ag45 : aggT Tryz.prog 45 = .ok false := by kernel_rfl
theorem ze45 : zeroT Tryz.prog 45 = .ok (.slice none 0 0) := by kernel_rfl
theorem sz46 : szT Tryz.prog 46 = .ok 1 := by kernel_rfl
theorem by46 : bytesT Tryz.prog 46 = .ok 24 := by kernel_rfl
theorem ag46 : aggT Tryz.prog 46 = .ok false := by kernel_rfl
theorem ze46 : zeroT Tryz.prog 46 = .ok (.slice none 0 0) := by kernel_rfl
theorem sz47 : szT Tryz.prog 47 = .ok 1 := by kernel_rfl
theorem by47 : bytesT Tryz.prog 47 = .ok 8 := by kernel_rfl
theorem ag47 : aggT Tryz.prog 47 = .ok false := by kernel_rfl
theorem ze47 : zeroT Tryz.prog 47 = .ok (.nilFunc) := by kernel_rfl
theorem sz48 : szT Tryz.prog 48 = .ok 1 := by kernel_rfl
theorem by48 : bytesT Tryz.prog 48 = .ok 8 := by kernel_rfl
theorem ag48 : aggT Tryz.prog 48 = .ok false := by kernel_rfl
theorem ze48 : zeroT Tryz.prog 48 = .ok (.nilFunc) := by kernel_rfl
theorem sz49 : szT Tryz.prog 49 = .ok 1 := by kernel_rfl
theorem by49 : bytesT Tryz.prog 49 = .ok 8 := by kernel_rfl
theorem ag49 : aggT Tryz.prog 49 = .ok false := by kernel_rfl
theorem ze49 : zeroT Tryz.prog 49 = .ok (.nilFunc) := by kernel_rfl
theorem sz50 : szT Tryz.prog 50 = .ok 1 := by kernel_rfl
theorem by50 : bytesT Tryz.prog 50 = .ok 8 := by kernel_rfl
theorem ag50 : aggT Tryz.prog 50 = .ok false := by kernel_rfl
theorem ze50 : zeroT Tryz.prog 50 = .ok (.nilFunc) := by kernel_rfl
theorem sz51 : szT Tryz.prog 51 = .ok 1 := by kernel_rfl
theorem by51 : bytesT Tryz.prog 51 = .ok 24 := by kernel_rfl
theorem ag51 : aggT Tryz.prog 51 = .ok false := by kernel_rfl
theorem ze51 : zeroT Tryz.prog 51 = .ok (.slice none 0 0) := by kernel_rfl
theorem sz52 : szT Tryz.prog 52 = .ok 1 := by kernel_rfl
theorem by52 : bytesT Tryz.prog 52 = .ok 8 := by kernel_rfl
theorem ag52 : aggT Tryz.prog 52 = .ok false := by kernel_rfl
theorem ze52 : zeroT Tryz.prog 52 = .ok (.nilFunc) := by kernel_rfl
theorem sz53 : szT Tryz.prog 53 = .ok 1 := by kernel_rfl
theorem by53 : bytesT Tryz.prog 53 = .ok 8 := by kernel_rfl
theorem ag53 : aggT Tryz.prog 53 = .ok false := by kernel_rfl
theorem ze53 : zeroT Tryz.prog 53 = .ok (.nilFunc) := by kernel_rfl
theorem sz54 : szT Tryz.prog 54 = .ok 4 := by kernel_rfl
theorem by54 : bytesT Tryz.prog 54 = .ok 32 := by kernel_rfl
theorem ag54 : aggT Tryz.prog 54 = .ok true := by kernel_rfl
theorem ze54 : zeroT Tryz.prog 54 = .ok (.agg #[(.int .i64 0), (.int .i64 0), (.int .i64 0), (.int .i64 0)]) := by kernel_rfl
theorem sz55 : szT Tryz.prog 55 = .ok 4 := by kernel_rfl
theorem by55 : bytesT Tryz.prog 55 = .ok 32 := by kernel_rfl
theorem ag55 : aggT Tryz.prog 55 = .ok true := by kernel_rfl
theorem ze55 : zeroT Tryz.prog 55 = .ok (.agg #[(.int .i64 0), (.int .i64 0), (.int .i64 0), (.int .i64 0)]) := by kernel_rfl
theorem sz56 : szT Tryz.prog 56 = .ok 1 := by kernel_rfl
theorem by56 : bytesT Tryz.prog 56 = .ok 8 := by kernel_rfl
theorem ag56 : aggT Tryz.prog 56 = .ok false := by kernel_rfl
theorem ze56 : zeroT Tryz.prog 56 = .ok (.nilFunc) := by kernel_rfl
theorem sz57 : szT Tryz.prog 57 = .ok 1 := by kernel_rfl
theorem by57 : bytesT Tryz.prog 57 = .ok 8 := by kernel_rfl
theorem ag57 : aggT Tryz.prog 57 = .ok false := by kernel_rfl
theorem ze57 : zeroT Tryz.prog 57 = .ok (.nilFunc) := by kernel_rfl
theorem sz58 : szT Tryz.prog 58 = .ok 1 := by kernel_rfl
theorem by58 : bytesT Tryz.prog 58 = .ok 8 := by kernel_rfl
theorem ag58 : aggT Tryz.prog 58 = .ok false := by kernel_rfl
theorem ze58 : zeroT Tryz.prog 58 = .ok (.pointer none) := by kernel_rfl
theorem sz59 : szT Tryz.prog 59 = .ok 1 := by kernel_rfl
theorem by59 : bytesT Tryz.prog 59 = .ok 24 := by kernel_rfl
theorem ag59 : aggT Tryz.prog 59 = .ok false := by kernel_rfl
theorem ze59 : zeroT Tryz.prog 59 = .ok (.slice none 0 0) := by kernel_rfl
theorem sz60 : szT Tryz.prog 60 = .ok 1 := by kernel_rfl
theorem by60 : bytesT Tryz.prog 60 = .ok 0 := by kernel_rfl
theorem ag60 : aggT Tryz.prog 60 = .ok false := by kernel_rfl
theorem sz61 : szT Tryz.prog 61 = .ok 1 := by kernel_rfl
theorem by61 : bytesT Tryz.prog 61 = .ok 8 := by kernel_rfl
theorem ag61 : aggT Tryz.prog 61 = .ok false := by kernel_rfl
theorem ze61 : zeroT Tryz.prog 61 = .ok (.nilFunc) := by kernel_rfl
theorem sz62 : szT Tryz.prog 62 = .ok 1 := by kernel_rfl
theorem by62 : bytesT Tryz.prog 62 = .ok 8 := by kernel_rfl
theorem ag62 : aggT Tryz.prog 62 = .ok false := by kernel_rfl
theorem ze62 : zeroT Tryz.prog 62 = .ok (.nilFunc) := by kernel_rfl
theorem sz63 : szT Tryz.prog 63 = .ok 1 := by kernel_rfl
theorem by63 : bytesT Tryz.prog 63 = .ok 8 := by kernel_rfl
theorem ag63 : aggT Tryz.prog 63 = .ok false := by kernel_rfl
theorem ze63 : zeroT Tryz.prog 63 = .ok (.nilFunc) := by kernel_rfl
theorem sz64 : szT Tryz.prog 64 = .ok 1 := by kernel_rfl
theorem by64 : bytesT Tryz.prog 64 = .ok 8 := by kernel_rfl
theorem ag64 : aggT Tryz.prog 64 = .ok false := by kernel_rfl
theorem ze64 : zeroT Tryz.prog 64 = .ok (.nilFunc) := by kernel_rfl
theorem sz65 : szT Tryz.prog 65 = .ok 1 := by kernel_rfl
theorem by65 : bytesT Tryz.prog 65 = .ok 8 := by kernel_rfl
theorem ag65 : aggT Tryz.prog 65 = .ok false := by kernel_rfl
theorem ze65 : zeroT Tryz.prog 65 = .ok (.nilFunc) := by kernel_rfl
theorem sz66 : szT Tryz.prog 66 = .ok 1 := by kernel_rfl
theorem by66 : bytesT Tryz.prog 66 = .ok 8 := by kernel_rfl
theorem ag66 : aggT Tryz.prog 66 = .ok false := by kernel_rfl
theorem ze66 : zeroT Tryz.prog 66 = .ok (.nilFunc) := by kernel_rfl
theorem sz67 : szT Tryz.prog 67 = .ok 1 := by kernel_rfl
theorem by67 : bytesT Tryz.prog 67 = .ok 8 := by kernel_rfl
theorem ag67 : aggT Tryz.prog 67 = .ok false := by kernel_rfl
theorem ze67 : zeroT Tryz.prog 67 = .ok (.nilFunc) := by kernel_rfl
theorem sz68 : szT Tryz.prog 68 = .ok 1 := by kernel_rfl
theorem by68 : bytesT Tryz.prog 68 = .ok 8 := by kernel_rfl
theorem ag68 : aggT Tryz.prog 68 = .ok false := by kernel_rfl
theorem ze68 : zeroT Tryz.prog 68 = .ok (.nilFunc) := by kernel_rfl
theorem sz69 : szT Tryz.prog 69 = .ok 1 := by kernel_rfl
theorem by69 : bytesT Tryz.prog 69 = .ok 0 := by kernel_rfl
theorem ag69 : aggT Tryz.prog 69 = .ok false := by kernel_rfl
theorem sz70 : szT Tryz.prog 70 = .ok 1 := by kernel_rfl
theorem by70 : bytesT Tryz.prog 70 = .ok 8 := by kernel_rfl
theorem ag70 : aggT Tryz.prog 70 = .ok false := by kernel_rfl
theorem ze70 : zeroT Tryz.prog 70 = .ok (.nilFunc) := by kernel_rfl
theorem sz71 : szT Tryz.prog 71 = .ok 1 := by kernel_rfl
theorem by71 : bytesT Tryz.prog 71 = .ok 8 := by kernel_rfl
theorem ag71 : aggT Tryz.prog 71 = .ok false := by kernel_rfl
theorem ze71 : zeroT Tryz.prog 71 = .ok (.nilFunc) := by kernel_rfl
theorem sz72 : szT Tryz.prog 72 = .ok 1 := by kernel_rfl
theorem by72 : bytesT Tryz.prog 72 = .ok 8 := by kernel_rfl
theorem ag72 : aggT Tryz.prog 72 = .ok false := by kernel_rfl
theorem ze72 : zeroT Tryz.prog 72 = .ok (.nilFunc) := by kernel_rfl
theorem sz73 : szT Tryz.prog 73 = .ok 1 := by kernel_rfl
theorem by73 : bytesT Tryz.prog 73 = .ok 8 := by kernel_rfl
theorem ag73 : aggT Tryz.prog 73 = .ok false := by kernel_rfl
theorem ze73 : zeroT Tryz.prog 73 = .ok (.nilFunc) := by kernel_rfl
theorem sz74 : szT Tryz.prog 74 = .ok 1 := by kernel_rfl
theorem by74 : bytesT Tryz.prog 74 = .ok 8 := by kernel_rfl
theorem ag74 : aggT Tryz.prog 74 = .ok false := by kernel_rfl
theorem ze74 : zeroT Tryz.prog 74 = .ok (.nilFunc) := by kernel_rfl
theorem sz75 : szT Tryz.prog 75 = .ok 1 := by kernel_rfl
theorem by75 : bytesT Tryz.prog 75 = .ok 8 := by kernel_rfl
theorem ag75 : aggT Tryz.prog 75 = .ok false := by kernel_rfl
theorem ze75 : zeroT Tryz.prog 75 = .ok (.nilFunc) := by kernel_rfl
theorem sz76 : szT Tryz.prog 76 = .ok 1 := by kernel_rfl
theorem by76 : bytesT Tryz.prog 76 = .ok 24 := by kernel_rfl
theorem ag76 : aggT Tryz.prog 76 = .ok false := by kernel_rfl
theorem ze76 : zeroT Tryz.prog 76 = .ok (.slice none 0 0) := by kernel_rfl
theorem sz77 : szT Tryz.prog 77 = .ok 4 := by kernel_rfl
theorem by77 : bytesT Tryz.prog 77 = .ok 56 := by kernel_rfl
theorem ag77 : aggT Tryz.prog 77 = .ok true := by kernel_rfl
theorem ze77 : zeroT Tryz.prog 77 = .ok (.agg #[(.int .i64 0), (.int .i64 0), (.string ⟨⟨[]⟩⟩), (.slice none 0 0)]) := by kernel_rfl
theorem sz78 : szT Tryz.prog 78 = .ok 4 := by kernel_rfl
theorem by78 : bytesT Tryz.prog 78 = .ok 56 := by kernel_rfl
theorem ag78 : aggT Tryz.prog 78 = .ok true := by kernel_rfl
theorem ze78 : zeroT Tryz.prog 78 = .ok (.agg #[(.int .i64 0), (.int .i64 0), (.string ⟨⟨[]⟩⟩), (.slice none 0 0)]) := by kernel_rfl
theorem sz79 : szT Tryz.prog 79 = .ok 1 := by kernel_rfl
theorem by79 : bytesT Tryz.prog 79 = .ok 8 := by kernel_rfl
theorem ag79 : aggT Tryz.prog 79 = .ok false := by kernel_rfl
theorem ze79 : zeroT Tryz.prog 79 = .ok (.nilFunc) := by kernel_rfl
theorem sz80 : szT Tryz.prog 80 = .ok 1 := by kernel_rfl
theorem by80 : bytesT Tryz.prog 80 = .ok 8 := by kernel_rfl
theorem ag80 : aggT Tryz.prog 80 = .ok false := by kernel_rfl
theorem ze80 : zeroT Tryz.prog 80 = .ok (.nilFunc) := by kernel_rfl
theorem sz81 : szT Tryz.prog 81 = .ok 1 := by kernel_rfl
theorem by81 : bytesT Tryz.prog 81 = .ok 8 := by kernel_rfl
theorem ag81 : aggT Tryz.prog 81 = .ok false := by kernel_rfl
theorem ze81 : zeroT Tryz.prog 81 = .ok (.nilFunc) := by kernel_rfl
theorem sz82 : szT Tryz.prog 82 = .ok 1 := by kernel_rfl
theorem by82 : bytesT Tryz.prog 82 = .ok 8 := by kernel_rfl
theorem ag82 : aggT Tryz.prog 82 = .ok false := by kernel_rfl
theorem ze82 : zeroT Tryz.prog 82 = .ok (.nilFunc) := by kernel_rfl
theorem sz83 : szT Tryz.prog 83 = .ok 1 := by kernel_rfl
theorem by83 : bytesT Tryz.prog 83 = .ok 8 := by kernel_rfl
theorem ag83 : aggT Tryz.prog 83 = .ok false := by kernel_rfl
theorem ze83 : zeroT Tryz.prog 83 = .ok (.pointer none) := by kernel_rfl
theorem sz84 : szT Tryz.prog 84 = .ok 1 := by kernel_rfl
theorem by84 : bytesT Tryz.prog 84 = .ok 8 := by kernel_rfl
theorem ag84 : aggT Tryz.prog 84 = .ok false := by kernel_rfl
theorem ze84 : zeroT Tryz.prog 84 = .ok (.nilFunc) := by kernel_rfl
theorem sz85 : szT Tryz.prog 85 = .ok 1 := by kernel_rfl
theorem by85 : bytesT Tryz.prog 85 = .ok 8 := by kernel_rfl
theorem ag85 : aggT Tryz.prog 85 = .ok false := by kernel_rfl
theorem ze85 : zeroT Tryz.prog 85 = .ok (.nilFunc) := by kernel_rfl
theorem sz86 : szT Tryz.prog 86 = .ok 1 := by kernel_rfl
theorem by86 : bytesT Tryz.prog 86 = .ok 8 := by kernel_rfl
theorem ag86 : aggT Tryz.prog 86 = .ok false := by kernel_rfl
theorem ze86 : zeroT Tryz.prog 86 = .ok (.nilFunc) := by kernel_rfl
theorem sz87 : szT Tryz.prog 87 = .ok 1 := by kernel_rfl
theorem by87 : bytesT Tryz.prog 87 = .ok 8 := by kernel_rfl
theorem ag87 : aggT Tryz.prog 87 = .ok false := by kernel_rfl
theorem ze87 : zeroT Tryz.prog 87 = .ok (.nilFunc) := by kernel_rfl
theorem sz88 : szT Tryz.prog 88 = .ok 1 := by kernel_rfl
theorem by88 : bytesT Tryz.prog 88 = .ok 8 := by kernel_rfl
theorem ag88 : aggT Tryz.prog 88 = .ok false := by kernel_rfl
theorem ze88 : zeroT Tryz.prog 88 = .ok (.map none) := by kernel_rfl
theorem sz89 : szT Tryz.prog 89 = .ok 1 := by kernel_rfl
theorem by89 : bytesT Tryz.prog 89 = .ok 24 := by kernel_rfl
theorem ag89 : aggT Tryz.prog 89 = .ok false := by kernel_rfl
theorem ze89 : zeroT Tryz.prog 89 = .ok (.slice none 0 0) := by kernel_rfl
theorem sz90 : szT Tryz.prog 90 = .ok 0 := by kernel_rfl
theorem by90 : bytesT Tryz.prog 90 = .ok 0 := by kernel_rfl
theorem ag90 : aggT Tryz.prog 90 = .ok true := by kernel_rfl
theorem ze90 : zeroT Tryz.prog 90 = .ok (.agg #[]) := by kernel_rfl
theorem sz91 : szT Tryz.prog 91 = .ok 0 := by kernel_rfl
theorem by91 : bytesT Tryz.prog 91 = .ok 0 := by kernel_rfl
theorem ag91 : aggT Tryz.prog 91 = .ok true := by kernel_rfl
theorem ze91 : zeroT Tryz.prog 91 = .ok (.agg #[]) := by kernel_rfl
theorem sz92 : szT Tryz.prog 92 = .ok 0 := by kernel_rfl
theorem by92 : bytesT Tryz.prog 92 = .ok 0 := by kernel_rfl
theorem ag92 : aggT Tryz.prog 92 = .ok true := by kernel_rfl
theorem ze92 : zeroT Tryz.prog 92 = .ok (.agg #[]) := by kernel_rfl
theorem sz93 : szT Tryz.prog 93 = .ok 1 := by kernel_rfl
theorem by93 : bytesT Tryz.prog 93 = .ok 8 := by kernel_rfl
theorem ag93 : aggT Tryz.prog 93 = .ok true := by kernel_rfl
theorem ze93 : zeroT Tryz.prog 93 = .ok (.agg #[(.int .i64 0)]) := by kernel_rfl
theorem sz94 : szT Tryz.prog 94 = .ok 1 := by kernel_rfl
theorem by94 : bytesT Tryz.prog 94 = .ok 8 := by kernel_rfl
theorem ag94 : aggT Tryz.prog 94 = .ok true := by kernel_rfl
theorem ze94 : zeroT Tryz.prog 94 = .ok (.agg #[(.int .i64 0)]) := by kernel_rfl
theorem sz95 : szT Tryz.prog 95 = .ok 6 := by kernel_rfl
theorem by95 : bytesT Tryz.prog 95 = .ok 64 := by kernel_rfl
theorem ag95 : aggT Tryz.prog 95 = .ok true := by kernel_rfl
theorem ze95 : zeroT Tryz.prog 95 = .ok (.agg #[(.int .i64 0), (.map none), (.map none), (.slice none 0 0), (.int .i64 0), (.int .i64 0)]) := by kernel_rfl
theorem sz96 : szT Tryz.prog 96 = .ok 6 := by kernel_rfl
theorem by96 : bytesT Tryz.prog 96 = .ok 64 := by kernel_rfl
theorem ag96 : aggT Tryz.prog 96 = .ok true := by kernel_rfl
theorem ze96 : zeroT Tryz.prog 96 = .ok (.agg #[(.int .i64 0), (.map none), (.map none), (.slice none 0 0), (.int .i64 0), (.int .i64 0)]) := by kernel_rfl
theorem sz97 : szT Tryz.prog 97 = .ok 1 := by kernel_rfl
theorem by97 : bytesT Tryz.prog 97 = .ok 8 := by kernel_rfl
theorem ag97 : aggT Tryz.prog 97 = .ok false := by kernel_rfl
theorem ze97 : zeroT Tryz.prog 97 = .ok (.nilFunc) := by kernel_rfl
theorem sz98 : szT Tryz.prog 98 = .ok 1 := by kernel_rfl
theorem by98 : bytesT Tryz.prog 98 = .ok 8 := by kernel_rfl
theorem ag98 : aggT Tryz.prog 98 = .ok false := by kernel_rfl
theorem ze98 : zeroT Tryz.prog 98 = .ok (.pointer none) := by kernel_rfl
theorem sz99 : szT Tryz.prog 99 = .ok 1 := by kernel_rfl
theorem by99 : bytesT Tryz.prog 99 = .ok 8 := by kernel_rfl
theorem ag99 : aggT Tryz.prog 99 = .ok false := by kernel_rfl
theorem ze99 : zeroT Tryz.prog 99 = .ok (.nilFunc) := by kernel_rfl
theorem sz100 : szT Tryz.prog 100 = .ok 2 := by kernel_rfl
theorem by100 : bytesT Tryz.prog 100 = .ok 32 := by kernel_rfl
theorem ag100 : aggT Tryz.prog 100 = .ok true := by kernel_rfl
theorem ze100 : zeroT Tryz.prog 100 = .ok (.agg #[(.slice none 0 0), (.int .i64 0)]) := by kernel_rfl
theorem sz101 : szT Tryz.prog 101 = .ok 2 := by kernel_rfl
theorem by101 : bytesT Tryz.prog 101 = .ok 32 := by kernel_rfl
theorem ag101 : aggT Tryz.prog 101 = .ok true := by kernel_rfl
theorem ze101 : zeroT Tryz.prog 101 = .ok (.agg #[(.slice none 0 0), (.int .i64 0)]) := by kernel_rfl
theorem sz102 : szT Tryz.prog 102 = .ok 3 := by kernel_rfl
theorem by102 : bytesT Tryz.prog 102 = .ok 40 := by kernel_rfl
theorem ag102 : aggT Tryz.prog 102 = .ok true := by kernel_rfl
theorem ze102 : zeroT Tryz.prog 102 = .ok (.agg #[(.string ⟨⟨[]⟩⟩), (.pointer none), (.string ⟨⟨[]⟩⟩)]) := by kernel_rfl
theorem sz103 : szT Tryz.prog 103 = .ok 3 := by kernel_rfl
theorem by103 : bytesT Tryz.prog 103 = .ok 40 := by kernel_rfl
theorem ag103 : aggT Tryz.prog 103 = .ok true := by kernel_rfl
theorem ze103 : zeroT Tryz.prog 103 = .ok (.agg #[(.string ⟨⟨[]⟩⟩), (.pointer none), (.string ⟨⟨[]⟩⟩)]) := by kernel_rfl
theorem sz104 : szT Tryz.prog 104 = .ok 1 := by kernel_rfl
theorem by104 : bytesT Tryz.prog 104 = .ok 8 := by kernel_rfl
theorem ag104 : aggT Tryz.prog 104 = .ok false := by kernel_rfl
theorem ze104 : zeroT Tryz.prog 104 = .ok (.nilFunc) := by kernel_rfl
theorem sz105 : szT Tryz.prog 105 = .ok 1 := by kernel_rfl
theorem by105 : bytesT Tryz.prog 105 = .ok 8 := by kernel_rfl
theorem ag105 : aggT Tryz.prog 105 = .ok false := by kernel_rfl
theorem ze105 : zeroT Tryz.prog 105 = .ok (.map none) := by kernel_rfl
theorem sz106 : szT Tryz.prog 106 = .ok 1 := by kernel_rfl
theorem by106 : bytesT Tryz.prog 106 = .ok 8 := by kernel_rfl
theorem ag106 : aggT Tryz.prog 106 = .ok false := by kernel_rfl
theorem ze106 : zeroT Tryz.prog 106 = .ok (.nilFunc) := by kernel_rfl
theorem sz107 : szT Tryz.prog 107 = .ok 1 := by kernel_rfl
theorem by107 : bytesT Tryz.prog 107 = .ok 8 := by kernel_rfl
theorem ag107 : aggT Tryz.prog 107 = .ok false := by kernel_rfl
theorem ze107 : zeroT Tryz.prog 107 = .ok (.nilFunc) := by kernel_rfl
theorem sz108 : szT Tryz.prog 108 = .ok 1 := by kernel_rfl
theorem by108 : bytesT Tryz.prog 108 = .ok 8 := by kernel_rfl
theorem ag108 : aggT Tryz.prog 108 = .ok false := by kernel_rfl
theorem ze108 : zeroT Tryz.prog 108 = .ok (.nilFunc) := by kernel_rfl
theorem sz109 : szT Tryz.prog 109 = .ok 1 := by kernel_rfl
theorem by109 : bytesT Tryz.prog 109 = .ok 8 := by kernel_rfl
theorem ag109 : aggT Tryz.prog 109 = .ok false := by kernel_rfl
theorem ze109 : zeroT Tryz.prog 109 = .ok (.nilFunc) := by kernel_rfl
theorem sz110 : szT Tryz.prog 110 = .ok 1 := by kernel_rfl
theorem by110 : bytesT Tryz.prog 110 = .ok 8 := by kernel_rfl
theorem ag110 : aggT Tryz.prog 110 = .ok false := by kernel_rfl
theorem ze110 : zeroT Tryz.prog 110 = .ok (.nilFunc) := by kernel_rfl
theorem sz111 : szT Tryz.prog 111 = .ok 1 := by kernel_rfl
theorem by111 : bytesT Tryz.prog 111 = .ok 8 := by kernel_rfl
theorem ag111 : aggT Tryz.prog 111 = .ok false := by kernel_rfl
theorem ze111 : zeroT Tryz.prog 111 = .ok (.nilFunc) := by kernel_rfl
theorem sz112 : szT Tryz.prog 112 = .ok 1 := by kernel_rfl
theorem by112 : bytesT Tryz.prog 112 = .ok 8 := by kernel_rfl
theorem ag112 : aggT Tryz.prog 112 = .ok false := by kernel_rfl
theorem ze112 : zeroT Tryz.prog 112 = .ok (.nilFunc) := by kernel_rfl
theorem sz113 : szT Tryz.prog 113 = .ok 1 := by kernel_rfl
theorem by113 : bytesT Tryz.prog 113 = .ok 8 := by kernel_rfl
theorem ag113 : aggT Tryz.prog 113 = .ok false := by kernel_rfl
theorem ze113 : zeroT Tryz.prog 113 = .ok (.nilFunc) := by kernel_rfl
theorem sz114 : szT Tryz.prog 114 = .ok 1 := by kernel_rfl
theorem by114 : bytesT Tryz.prog 114 = .ok 8 := by kernel_rfl
theorem ag114 : aggT Tryz.prog 114 = .ok false := by kernel_rfl
theorem ze114 : zeroT Tryz.prog 114 = .ok (.nilFunc) := by kernel_rfl
theorem sz115 : szT Tryz.prog 115 = .ok 1 := by kernel_rfl
theorem by115 : bytesT Tryz.prog 115 = .ok 8 := by kernel_rfl
theorem ag115 : aggT Tryz.prog 115 = .ok false := by kernel_rfl
theorem ze115 : zeroT Tryz.prog 115 = .ok (.nilFunc) := by kernel_rfl
theorem sz116 : szT Tryz.prog 116 = .ok 7 := by kernel_rfl
theorem by116 : bytesT Tryz.prog 116 = .ok 64 := by kernel_rfl
theorem ag116 : aggT Tryz.prog 116 = .ok true := by kernel_rfl
theorem ze116 : zeroT Tryz.prog 116 = .ok (.agg #[(.pointer none), (.string ⟨⟨[]⟩⟩), (.int .i64 0), (.int .i64 0), (.int .i64 0), (.int .i64 0), (.int .i64 0)]) := by kernel_rfl
theorem sz117 : szT Tryz.prog 117 = .ok 7 := by kernel_rfl
theorem by117 : bytesT Tryz.prog 117 = .ok 64 := by kernel_rfl
theorem ag117 : aggT Tryz.prog 117 = .ok true := by kernel_rfl
theorem ze117 : zeroT Tryz.prog 117 = .ok (.agg #[(.pointer none), (.string ⟨⟨[]⟩⟩), (.int .i64 0), (.int .i64 0), (.int .i64 0), (.int .i64 0), (.int .i64 0)]) := by kernel_rfl
theorem sz118 : szT Tryz.prog 118 = .ok 1 := by kernel_rfl
theorem by118 : bytesT Tryz.prog 118 = .ok 8 := by kernel_rfl
theorem ag118 : aggT Tryz.prog 118 = .ok false := by kernel_rfl
theorem ze118 : zeroT Tryz.prog 118 = .ok (.nilFunc) := by kernel_rfl
theorem sz119 : szT Tryz.prog 119 = .ok 1 := by kernel_rfl
theorem by119 : bytesT Tryz.prog 119 = .ok 8 := by kernel_rfl
theorem ag119 : aggT Tryz.prog 119 = .ok false := by kernel_rfl
theorem ze119 : zeroT Tryz.prog 119 = .ok (.nilFunc) := by kernel_rfl
theorem sz120 : szT Tryz.prog 120 = .ok 1 := by kernel_rfl
theorem by120 : bytesT Tryz.prog 120 = .ok 8 := by kernel_rfl
theorem ag120 : aggT Tryz.prog 120 = .ok false := by kernel_rfl
theorem ze120 : zeroT Tryz.prog 120 = .ok (.nilFunc) := by kernel_rfl
theorem sz121 : szT Tryz.prog 121 = .ok 1 := by kernel_rfl
theorem by121 : bytesT Tryz.prog 121 = .ok 4 := by kernel_rfl
theorem ag121 : aggT Tryz.prog 121 = .ok false := by kernel_rfl
theorem ze121 : zeroT Tryz.prog 121 = .ok (.int .u32 0) := by kernel_rfl
theorem sz122 : szT Tryz.prog 122 = .ok 1 := by kernel_rfl
theorem by122 : bytesT Tryz.prog 122 = .ok 8 := by kernel_rfl
theorem ag122 : aggT Tryz.prog 122 = .ok false := by kernel_rfl
theorem ze122 : zeroT Tryz.prog 122 = .ok (.nilFunc) := by kernel_rfl
theorem sz123 : szT Tryz.prog 123 = .ok 1 := by kernel_rfl
theorem by123 : bytesT Tryz.prog 123 = .ok 8 := by kernel_rfl
theorem ag123 : aggT Tryz.prog 123 = .ok false := by kernel_rfl
theorem ze123 : zeroT Tryz.prog 123 = .ok (.nilFunc) := by kernel_rfl
theorem sz124 : szT Tryz.prog 124 = .ok 1 := by kernel_rfl
theorem by124 : bytesT Tryz.prog 124 = .ok 8 := by kernel_rfl
theorem ag124 : aggT Tryz.prog 124 = .ok false := by kernel_rfl
theorem ze124 : zeroT Tryz.prog 124 = .ok (.map none) := by kernel_rfl
theorem sz125 : szT Tryz.prog 125 = .ok 1 := by kernel_rfl
theorem by125 : bytesT Tryz.prog 125 = .ok 8 := by kernel_rfl
theorem ag125 : aggT Tryz.prog 125 = .ok false := by kernel_rfl
theorem ze125 : zeroT Tryz.prog 125 = .ok (.int .u64 0) := by kernel_rfl
theorem sz126 : szT Tryz.prog 126 = .ok 2 := by kernel_rfl
theorem by126 : bytesT Tryz.prog 126 = .ok 32 := by kernel_rfl
theorem ag126 : aggT Tryz.prog 126 = .ok true := by kernel_rfl
theorem ze126 : zeroT Tryz.prog 126 = .ok (.agg #[(.slice none 0 0), (.bool false)]) := by kernel_rfl
theorem sz127 : szT Tryz.prog 127 = .ok 2 := by kernel_rfl
theorem by127 : bytesT Tryz.prog 127 = .ok 32 := by kernel_rfl
theorem ag127 : aggT Tryz.prog 127 = .ok true := by kernel_rfl
theorem ze127 : zeroT Tryz.prog 127 = .ok (.agg #[(.slice none 0 0), (.bool false)]) := by kernel_rfl
theorem sz128 : szT Tryz.prog 128 = .ok 1 := by kernel_rfl
theorem by128 : bytesT Tryz.prog 128 = .ok 0 := by kernel_rfl
theorem ag128 : aggT Tryz.prog 128 = .ok false := by kernel_rfl
theorem sz129 : szT Tryz.prog 129 = .ok 1 := by kernel_rfl
theorem by129 : bytesT Tryz.prog 129 = .ok 8 := by kernel_rfl
theorem ag129 : aggT Tryz.prog 129 = .ok false := by kernel_rfl
theorem ze129 : zeroT Tryz.prog 129 = .ok (.nilFunc) := by kernel_rfl
theorem sz130 : szT Tryz.prog 130 = .ok 1 := by kernel_rfl
theorem by130 : bytesT Tryz.prog 130 = .ok 8 := by kernel_rfl
theorem ag130 : aggT Tryz.prog 130 = .ok false := by kernel_rfl
theorem ze130 : zeroT Tryz.prog 130 = .ok (.nilFunc) := by kernel_rfl
theorem sz131 : szT Tryz.prog 131 = .ok 1 := by kernel_rfl
theorem by131 : bytesT Tryz.prog 131 = .ok 8 := by kernel_rfl
theorem ag131 : aggT Tryz.prog 131 = .ok false := by kernel_rfl
theorem ze131 : zeroT Tryz.prog 131 = .ok (.nilFunc) := by kernel_rfl
theorem sz132 : szT Tryz.prog 132 = .ok 1 := by kernel_rfl
theorem by132 : bytesT Tryz.prog 132 = .ok 0 := by kernel_rfl
theorem ag132 : aggT Tryz.prog 132 = .ok false := by kernel_rfl
theorem sz133 : szT Tryz.prog 133 = .ok 1 := by kernel_rfl
theorem by133 : bytesT Tryz.prog 133 = .ok 8 := by kernel_rfl
theorem ag133 : aggT Tryz.prog 133 = .ok false := by kernel_rfl
theorem ze133 : zeroT Tryz.prog 133 = .ok (.nilFunc) := by kernel_rfl
theorem sz134 : szT Tryz.prog 134 = .ok 1 := by kernel_rfl
theorem by134 : bytesT Tryz.prog 134 = .ok 8 := by kernel_rfl
theorem ag134 : aggT Tryz.prog 134 = .ok false := by kernel_rfl
theorem ze134 : zeroT Tryz.prog 134 = .ok (.nilFunc) := by kernel_rfl
theorem sz135 : szT Tryz.prog 135 = .ok 1 := by kernel_rfl
theorem by135 : bytesT Tryz.prog 135 = .ok 8 := by kernel_rfl
theorem ag135 : aggT Tryz.prog 135 = .ok false := by kernel_rfl
theorem ze135 : zeroT Tryz.prog 135 = .ok (.pointer none) := by kernel_rfl
theorem sz136 : szT Tryz.prog 136 = .ok 2 := by kernel_rfl
theorem by136 : bytesT Tryz.prog 136 = .ok 32 := by kernel_rfl
theorem ag136 : aggT Tryz.prog 136 = .ok true := by kernel_rfl
theorem ze136 : zeroT Tryz.prog 136 = .ok (.agg #[(.pointer none), (.slice none 0 0)]) := by kernel_rfl
theorem sz137 : szT Tryz.prog 137 = .ok 2 := by kernel_rfl
theorem by137 : bytesT Tryz.prog 137 = .ok 32 := by kernel_rfl
theorem ag137 : aggT Tryz.prog 137 = .ok true := by kernel_rfl
theorem ze137 : zeroT Tryz.prog 137 = .ok (.agg #[(.pointer none), (.slice none 0 0)]) := by kernel_rfl
theorem sz138 : szT Tryz.prog 138 = .ok 1 := by kernel_rfl
theorem by138 : bytesT Tryz.prog 138 = .ok 16 := by kernel_rfl
theorem ag138 : aggT Tryz.prog 138 = .ok false := by kernel_rfl
theorem ze138 : zeroT Tryz.prog 138 = .ok (.nilIface) := by kernel_rfl
theorem sz139 : szT Tryz.prog 139 = .ok 1 := by kernel_rfl
theorem by139 : bytesT Tryz.prog 139 = .ok 16 := by kernel_rfl
theorem ag139 : aggT Tryz.prog 139 = .ok false := by kernel_rfl
theorem ze139 : zeroT Tryz.prog 139 = .ok (.nilIface) := by kernel_rfl
theorem sz140 : szT Tryz.prog 140 = .ok 1 := by kernel_rfl
theorem by140 : bytesT Tryz.prog 140 = .ok 0 := by kernel_rfl
theorem ag140 : aggT Tryz.prog 140 = .ok false := by kernel_rfl
theorem sz141 : szT Tryz.prog 141 = .ok 1 := by kernel_rfl
theorem by141 : bytesT Tryz.prog 141 = .ok 8 := by kernel_rfl
theorem ag141 : aggT Tryz.prog 141 = .ok false := by kernel_rfl
theorem ze141 : zeroT Tryz.prog 141 = .ok (.nilFunc) := by kernel_rfl
theorem sz142 : szT Tryz.prog 142 = .ok 1 := by kernel_rfl
theorem by142 : bytesT Tryz.prog 142 = .ok 8 := by kernel_rfl
theorem ag142 : aggT Tryz.prog 142 = .ok false := by kernel_rfl
theorem ze142 : zeroT Tryz.prog 142 = .ok (.nilFunc) := by kernel_rfl
theorem sz143 : szT Tryz.prog 143 = .ok 1 := by kernel_rfl
theorem by143 : bytesT Tryz.prog 143 = .ok 0 := by kernel_rfl
theorem ag143 : aggT Tryz.prog 143 = .ok false := by kernel_rfl
theorem sz144 : szT Tryz.prog 144 = .ok 1 := by kernel_rfl
theorem by144 : bytesT Tryz.prog 144 = .ok 8 := by kernel_rfl
theorem ag144 : aggT Tryz.prog 144 = .ok false := by kernel_rfl
theorem ze144 : zeroT Tryz.prog 144 = .ok (.nilFunc) := by kernel_rfl
theorem sz145 : szT Tryz.prog 145 = .ok 1 := by kernel_rfl
theorem by145 : bytesT Tryz.prog 145 = .ok 8 := by kernel_rfl
theorem ag145 : aggT Tryz.prog 145 = .ok false := by kernel_rfl
theorem ze145 : zeroT Tryz.prog 145 = .ok (.nilFunc) := by kernel_rfl
theorem sz146 : szT Tryz.prog 146 = .ok 1 := by kernel_rfl
theorem by146 : bytesT Tryz.prog 146 = .ok 8 := by kernel_rfl
theorem ag146 : aggT Tryz.prog 146 = .ok false := by kernel_rfl
theorem ze146 : zeroT Tryz.prog 146 = .ok (.nilFunc) := by kernel_rfl
theorem sz147 : szT Tryz.prog 147 = .ok 1 := by kernel_rfl
theorem by147 : bytesT Tryz.prog 147 = .ok 8 := by kernel_rfl
theorem ag147 : aggT Tryz.prog 147 = .ok false := by kernel_rfl
theorem ze147 : zeroT Tryz.prog 147 = .ok (.nilFunc) := by kernel_rfl
theorem sz148 : szT Tryz.prog 148 = .ok 1 := by kernel_rfl
theorem by148 : bytesT Tryz.prog 148 = .ok 8 := by kernel_rfl
theorem ag148 : aggT Tryz.prog 148 = .ok false := by kernel_rfl
theorem ze148 : zeroT Tryz.prog 148 = .ok (.pointer none) := by kernel_rfl
theorem sz149 : szT Tryz.prog 149 = .ok 1 := by kernel_rfl
theorem by149 : bytesT Tryz.prog 149 = .ok 8 := by kernel_rfl
theorem ag149 : aggT Tryz.prog 149 = .ok false := by kernel_rfl
theorem ze149 : zeroT Tryz.prog 149 = .ok (.nilFunc) := by kernel_rfl
theorem sz150 : szT Tryz.prog 150 = .ok 1 := by kernel_rfl
theorem by150 : bytesT Tryz.prog 150 = .ok 8 := by kernel_rfl
theorem ag150 : aggT Tryz.prog 150 = .ok false := by kernel_rfl
theorem ze150 : zeroT Tryz.prog 150 = .ok (.pointer none) := by kernel_rfl
theorem sz151 : szT Tryz.prog 151 = .ok 1 := by kernel_rfl
theorem by151 : bytesT Tryz.prog 151 = .ok 8 := by kernel_rfl
theorem ag151 : aggT Tryz.prog 151 = .ok false := by kernel_rfl
theorem ze151 : zeroT Tryz.prog 151 = .ok (.nilFunc) := by kernel_rfl
theorem sz152 : szT Tryz.prog 152 = .ok 1 := by kernel_rfl
theorem by152 : bytesT Tryz.prog 152 = .ok 8 := by kernel_rfl
theorem ag152 : aggT Tryz.prog 152 = .ok false := by kernel_rfl
theorem ze152 : zeroT Tryz.prog 152 = .ok (.nilFunc) := by kernel_rfl
theorem sz153 : szT Tryz.prog 153 = .ok 1 := by kernel_rfl
theorem by153 : bytesT Tryz.prog 153 = .ok 8 := by kernel_rfl
theorem ag153 : aggT Tryz.prog 153 = .ok false := by kernel_rfl
theorem ze153 : zeroT Tryz.prog 153 = .ok (.nilFunc) := by kernel_rfl
theorem sz154 : szT Tryz.prog 154 = .ok 1 := by kernel_rfl
theorem by154 : bytesT Tryz.prog 154 = .ok 8 := by kernel_rfl
theorem ag154 : aggT Tryz.prog 154 = .ok false := by kernel_rfl
theorem ze154 : zeroT Tryz.prog 154 = .ok (.nilFunc) := by kernel_rfl
theorem sz155 : szT Tryz.prog 155 = .ok 256 := by kernel_rfl
theorem by155 : bytesT Tryz.prog 155 = .ok 256 := by kernel_rfl
theorem ag155 : aggT Tryz.prog 155 = .ok true := by kernel_rfl
theorem ze155 : zeroT Tryz.prog 155 = .ok (.agg ⟨List.replicate 256 (.bool false)⟩) := by kernel_rfl
theorem sz156 : szT Tryz.prog 156 = .ok 256 := by kernel_rfl
theorem by156 : bytesT Tryz.prog 156 = .ok 256 := by kernel_rfl
theorem ag156 : aggT Tryz.prog 156 = .ok true := by kernel_rfl
theorem ze156 : zeroT Tryz.prog 156 = .ok (.agg ⟨List.replicate 256 (.bool false)⟩) := by kernel_rfl
theorem sz157 : szT Tryz.prog 157 = .ok 1 := by kernel_rfl
theorem by157 : bytesT Tryz.prog 157 = .ok 0 := by kernel_rfl
theorem ag157 : aggT Tryz.prog 157 = .ok false := by kernel_rfl
theorem sz158 : szT Tryz.prog 158 = .ok 1 := by kernel_rfl
theorem by158 : bytesT Tryz.prog 158 = .ok 8 := by kernel_rfl
theorem ag158 : aggT Tryz.prog 158 = .ok false := by kernel_rfl
theorem ze158 : zeroT Tryz.prog 158 = .ok (.nilFunc) := by kernel_rfl
theorem sz159 : szT Tryz.prog 159 = .ok 1 := by kernel_rfl
theorem by159 : bytesT Tryz.prog 159 = .ok 8 := by kernel_rfl
theorem ag159 : aggT Tryz.prog 159 = .ok false := by kernel_rfl
theorem ze159 : zeroT Tryz.prog 159 = .ok (.nilFunc) := by kernel_rfl
theorem sz160 : szT Tryz.prog 160 = .ok 1 := by kernel_rfl
theorem by160 : bytesT Tryz.prog 160 = .ok 8 := by kernel_rfl
theorem ag160 : aggT Tryz.prog 160 = .ok false := by kernel_rfl
theorem ze160 : zeroT Tryz.prog 160 = .ok (.pointer none) := by kernel_rfl
theorem sz161 : szT Tryz.prog 161 = .ok 1 := by kernel_rfl
theorem by161 : bytesT Tryz.prog 161 = .ok 8 := by kernel_rfl
theorem ag161 : aggT Tryz.prog 161 = .ok false := by kernel_rfl
theorem ze161 : zeroT Tryz.prog 161 = .ok (.nilFunc) := by kernel_rfl
theorem sz162 : szT Tryz.prog 162 = .ok 1 := by kernel_rfl
theorem by162 : bytesT Tryz.prog 162 = .ok 0 := by kernel_rfl
theorem ag162 : aggT Tryz.prog 162 = .ok false := by kernel_rfl
theorem sz163 : szT Tryz.prog 163 = .ok 1 := by kernel_rfl
theorem by163 : bytesT Tryz.prog 163 = .ok 8 := by kernel_rfl
theorem ag163 : aggT Tryz.prog 163 = .ok false := by kernel_rfl
theorem ze163 : zeroT Tryz.prog 163 = .ok (.nilFunc) := by kernel_rfl
theorem sz164 : szT Tryz.prog 164 = .ok 1 := by kernel_rfl
theorem by164 : bytesT Tryz.prog 164 = .ok 0 := by kernel_rfl
theorem ag164 : aggT Tryz.prog 164 = .ok false := by kernel_rfl
theorem sz165 : szT Tryz.prog 165 = .ok 1 := by kernel_rfl
theorem by165 : bytesT Tryz.prog 165 = .ok 8 := by kernel_rfl
theorem ag165 : aggT Tryz.prog 165 = .ok false := by kernel_rfl
theorem ze165 : zeroT Tryz.prog 165 = .ok (.nilFunc) := by kernel_rfl
theorem sz166 : szT Tryz.prog 166 = .ok 1 := by kernel_rfl
theorem by166 : bytesT Tryz.prog 166 = .ok 8 := by kernel_rfl
theorem ag166 : aggT Tryz.prog 166 = .ok false := by kernel_rfl
theorem ze166 : zeroT Tryz.prog 166 = .ok (.pointer none) := by kernel_rfl
theorem sz167 : szT Tryz.prog 167 = .ok 1 := by kernel_rfl
theorem by167 : bytesT Tryz.prog 167 = .ok 8 := by kernel_rfl
theorem ag167 : aggT Tryz.prog 167 = .ok false := by kernel_rfl
theorem ze167 : zeroT Tryz.prog 167 = .ok (.nilFunc) := by kernel_rfl
theorem sz168 : szT Tryz.prog 168 = .ok 1 := by kernel_rfl
theorem by168 : bytesT Tryz.prog 168 = .ok 8 := by kernel_rfl
theorem ag168 : aggT Tryz.prog 168 = .ok false := by kernel_rfl
theorem ze168 : zeroT Tryz.prog 168 = .ok (.nilFunc) := by kernel_rfl
theorem sz169 : szT Tryz.prog 169 = .ok 1 := by kernel_rfl
theorem by169 : bytesT Tryz.prog 169 = .ok 8 := by kernel_rfl
theorem ag169 : aggT Tryz.prog 169 = .ok false := by kernel_rfl
theorem ze169 : zeroT Tryz.prog 169 = .ok (.nilFunc) := by kernel_rfl
theorem sz170 : szT Tryz.prog 170 = .ok 1 := by kernel_rfl
theorem by170 : bytesT Tryz.prog 170 = .ok 8 := by kernel_rfl
theorem ag170 : aggT Tryz.prog 170 = .ok false := by kernel_rfl
theorem ze170 : zeroT Tryz.prog 170 = .ok (.nilFunc) := by kernel_rfl
theorem sz171 : szT Tryz.prog 171 = .ok 1 := by kernel_rfl
theorem by171 : bytesT Tryz.prog 171 = .ok 8 := by kernel_rfl
theorem ag171 : aggT Tryz.prog 171 = .ok false := by kernel_rfl
theorem ze171 : zeroT Tryz.prog 171 = .ok (.nilFunc) := by kernel_rfl
theorem sz172 : szT Tryz.prog 172 = .ok 1 := by kernel_rfl
theorem by172 : bytesT Tryz.prog 172 = .ok 8 := by kernel_rfl
theorem ag172 : aggT Tryz.prog 172 = .ok false := by kernel_rfl
theorem ze172 : zeroT Tryz.prog 172 = .ok (.nilFunc) := by kernel_rfl
theorem sz173 : szT Tryz.prog 173 = .ok 1 := by kernel_rfl
theorem by173 : bytesT Tryz.prog 173 = .ok 0 := by kernel_rfl
theorem ag173 : aggT Tryz.prog 173 = .ok false := by kernel_rfl
theorem sz174 : szT Tryz.prog 174 = .ok 1 := by kernel_rfl
theorem by174 : bytesT Tryz.prog 174 = .ok 8 := by kernel_rfl
theorem ag174 : aggT Tryz.prog 174 = .ok false := by kernel_rfl
theorem ze174 : zeroT Tryz.prog 174 = .ok (.nilFunc) := by kernel_rfl
theorem sz175 : szT Tryz.prog 175 = .ok 1 := by kernel_rfl
theorem by175 : bytesT Tryz.prog 175 = .ok 8 := by kernel_rfl
theorem ag175 : aggT Tryz.prog 175 = .ok false := by kernel_rfl
theorem ze175 : zeroT Tryz.prog 175 = .ok (.nilFunc) := by kernel_rfl
theorem sz176 : szT Tryz.prog 176 = .ok 24 := by kernel_rfl
theorem by176 : bytesT Tryz.prog 176 = .ok 24 := by kernel_rfl
theorem ag176 : aggT Tryz.prog 176 = .ok true := by kernel_rfl
theorem ze176 : zeroT Tryz.prog 176 = .ok (.agg #[(.int .u8 0), (.int .u8 0), (.int .u8 0), (.int .u8 0), (.int .u8 0), (.int .u8 0), (.int .u8 0), (.int .u8 0), (.int .u8 0), (.int .u8 0), (.int .u8 0), (.int .u8 0), (.int .u8 0), (.int .u8 0), (.int .u8 0), (.int .u8 0), (.int .u8 0), (.int .u8 0), (.int .u8 0), (.int .u8 0), (.int .u8 0), (.int .u8 0), (.int .u8 0), (.int .u8 0)]) := by kernel_rfl
theorem sz177 : szT Tryz.prog 177 = .ok 1 := by kernel_rfl
theorem by177 : bytesT Tryz.prog 177 = .ok 8 := by kernel_rfl
theorem ag177 : aggT Tryz.prog 177 = .ok false := by kernel_rfl
theorem ze177 : zeroT Tryz.prog 177 = .ok (.nilFunc) := by kernel_rfl
theorem sz178 : szT Tryz.prog 178 = .ok 1 := by kernel_rfl
theorem by178 : bytesT Tryz.prog 178 = .ok 8 := by kernel_rfl
theorem ag178 : aggT Tryz.prog 178 = .ok false := by kernel_rfl
theorem ze178 : zeroT Tryz.prog 178 = .ok (.nilFunc) := by kernel_rfl
theorem sz179 : szT Tryz.prog 179 = .ok 1 := by kernel_rfl
theorem by179 : bytesT Tryz.prog 179 = .ok 0 := by kernel_rfl
theorem ag179 : aggT Tryz.prog 179 = .ok false := by kernel_rfl
theorem sz180 : szT Tryz.prog 180 = .ok 1 := by kernel_rfl
theorem by180 : bytesT Tryz.prog 180 = .ok 8 := by kernel_rfl
theorem ag180 : aggT Tryz.prog 180 = .ok false := by kernel_rfl
theorem ze180 : zeroT Tryz.prog 180 = .ok (.nilFunc) := by kernel_rfl
theorem sz181 : szT Tryz.prog 181 = .ok 1 := by kernel_rfl
theorem by181 : bytesT Tryz.prog 181 = .ok 8 := by kernel_rfl
theorem ag181 : aggT Tryz.prog 181 = .ok false := by kernel_rfl
theorem ze181 : zeroT Tryz.prog 181 = .ok (.pointer none) := by kernel_rfl
theorem sz182 : szT Tryz.prog 182 = .ok 1 := by kernel_rfl
theorem by182 : bytesT Tryz.prog 182 = .ok 8 := by kernel_rfl
theorem ag182 : aggT Tryz.prog 182 = .ok false := by kernel_rfl
theorem ze182 : zeroT Tryz.prog 182 = .ok (.nilFunc) := by kernel_rfl
theorem sz183 : szT Tryz.prog 183 = .ok 1 := by kernel_rfl
theorem by183 : bytesT Tryz.prog 183 = .ok 8 := by kernel_rfl
theorem ag183 : aggT Tryz.prog 183 = .ok false := by kernel_rfl
theorem ze183 : zeroT Tryz.prog 183 = .ok (.nilFunc) := by kernel_rfl
theorem sz184 : szT Tryz.prog 184 = .ok 1 := by kernel_rfl
theorem by184 : bytesT Tryz.prog 184 = .ok 8 := by kernel_rfl
theorem ag184 : aggT Tryz.prog 184 = .ok false := by kernel_rfl
theorem ze184 : zeroT Tryz.prog 184 = .ok (.nilFunc) := by kernel_rfl
theorem sz185 : szT Tryz.prog 185 = .ok 1 := by kernel_rfl
theorem by185 : bytesT Tryz.prog 185 = .ok 8 := by kernel_rfl
theorem ag185 : aggT Tryz.prog 185 = .ok false := by kernel_rfl
theorem ze185 : zeroT Tryz.prog 185 = .ok (.int .i64 0) := by kernel_rfl
theorem sz186 : szT Tryz.prog 186 = .ok 1 := by kernel_rfl
theorem by186 : bytesT Tryz.prog 186 = .ok 0 := by kernel_rfl
theorem ag186 : aggT Tryz.prog 186 = .ok false := by kernel_rfl
theorem sz187 : szT Tryz.prog 187 = .ok 1 := by kernel_rfl
theorem by187 : bytesT Tryz.prog 187 = .ok 8 := by kernel_rfl
theorem ag187 : aggT Tryz.prog 187 = .ok false := by kernel_rfl
theorem ze187 : zeroT Tryz.prog 187 = .ok (.nilFunc) := by kernel_rfl
theorem sz188 : szT Tryz.prog 188 = .ok 1 := by kernel_rfl
theorem by188 : bytesT Tryz.prog 188 = .ok 8 := by kernel_rfl
theorem ag188 : aggT Tryz.prog 188 = .ok false := by kernel_rfl
theorem ze188 : zeroT Tryz.prog 188 = .ok (.nilFunc) := by kernel_rfl
theorem sz189 : szT Tryz.prog 189 = .ok 1 := by kernel_rfl
theorem by189 : bytesT Tryz.prog 189 = .ok 8 := by kernel_rfl
theorem ag189 : aggT Tryz.prog 189 = .ok false := by kernel_rfl
theorem ze189 : zeroT Tryz.prog 189 = .ok (.nilFunc) := by kernel_rfl
theorem sz190 : szT Tryz.prog 190 = .ok 1 := by kernel_rfl
theorem by190 : bytesT Tryz.prog 190 = .ok 0 := by kernel_rfl
theorem ag190 : aggT Tryz.prog 190 = .ok false := by kernel_rfl
theorem sz191 : szT Tryz.prog 191 = .ok 1 := by kernel_rfl
theorem by191 : bytesT Tryz.prog 191 = .ok 8 := by kernel_rfl
theorem ag191 : aggT Tryz.prog 191 = .ok false := by kernel_rfl
theorem ze191 : zeroT Tryz.prog 191 = .ok (.nilFunc) := by kernel_rfl
theorem sz192 : szT Tryz.prog 192 = .ok 1 := by kernel_rfl
theorem by192 : bytesT Tryz.prog 192 = .ok 8 := by kernel_rfl
theorem ag192 : aggT Tryz.prog 192 = .ok false := by kernel_rfl
theorem ze192 : zeroT Tryz.prog 192 = .ok (.nilFunc) := by kernel_rfl
theorem sz193 : szT Tryz.prog 193 = .ok 1 := by kernel_rfl
theorem by193 : bytesT Tryz.prog 193 = .ok 8 := by kernel_rfl
theorem ag193 : aggT Tryz.prog 193 = .ok false := by kernel_rfl
theorem ze193 : zeroT Tryz.prog 193 = .ok (.nilFunc) := by kernel_rfl
theorem sz194 : szT Tryz.prog 194 = .ok 1 := by kernel_rfl
theorem by194 : bytesT Tryz.prog 194 = .ok 8 := by kernel_rfl
theorem ag194 : aggT Tryz.prog 194 = .ok false := by kernel_rfl
theorem ze194 : zeroT Tryz.prog 194 = .ok (.nilFunc) := by kernel_rfl
theorem sz195 : szT Tryz.prog 195 = .ok 1 := by kernel_rfl
theorem by195 : bytesT Tryz.prog 195 = .ok 8 := by kernel_rfl
theorem ag195 : aggT Tryz.prog 195 = .ok false := by kernel_rfl
theorem ze195 : zeroT Tryz.prog 195 = .ok (.nilFunc) := by kernel_rfl
theorem sz196 : szT Tryz.prog 196 = .ok 20 := by kernel_rfl
theorem by196 : bytesT Tryz.prog 196 = .ok 160 := by kernel_rfl
theorem ag196 : aggT Tryz.prog 196 = .ok true := by kernel_rfl
theorem ze196 : zeroT Tryz.prog 196 = .ok (.agg #[(.int .u64 0), (.int .u64 0), (.int .u64 0), (.int .u64 0), (.int .u64 0), (.int .u64 0), (.int .u64 0), (.int .u64 0), (.int .u64 0), (.int .u64 0), (.int .u64 0), (.int .u64 0), (.int .u64 0), (.int .u64 0), (.int .u64 0), (.int .u64 0), (.int .u64 0), (.int .u64 0), (.int .u64 0), (.int .u64 0)]) := by kernel_rfl
theorem sz197 : szT Tryz.prog 197 = .ok 65 := by kernel_rfl
theorem by197 : bytesT Tryz.prog 197 = .ok 65 := by kernel_rfl
theorem ag197 : aggT Tryz.prog 197 = .ok true := by kernel_rfl
theorem ze197 : zeroT Tryz.prog 197 = .ok (.agg #[(.int .u8 0), (.int .u8 0), (.int .u8 0), (.int .u8 0), (.int .u8 0), (.int .u8 0), (.int .u8 0), (.int .u8 0), (.int .u8 0), (.int .u8 0), (.int .u8 0), (.int .u8 0), (.int .u8 0), (.int .u8 0), (.int .u8 0), (.int .u8 0), (.int .u8 0), (.int .u8 0), (.int .u8 0), (.int .u8 0), (.int .u8 0), (.int .u8 0), (.int .u8 0), (.int .u8 0), (.int .u8 0), (.int .u8 0), (.int .u8 0), (.int .u8 0), (.int .u8 0), (.int .u8 0), (.int .u8 0), (.int .u8 0), (.int .u8 0), (.int .u8 0), (.int .u8 0), (.int .u8 0), (.int .u8 0), (.int .u8 0), (.int .u8 0), (.int .u8 0), (.int .u8 0), (.int .u8 0), (.int .u8 0), (.int .u8 0), (.int .u8 0), (.int .u8 0), (.int .u8 0), (.int .u8 0), (.int .u8 0), (.int .u8 0), (.int .u8 0), (.int .u8 0), (.int .u8 0), (.int .u8 0), (.int .u8 0), (.int .u8 0), (.int .u8 0), (.int .u8 0), (.int .u8 0), (.int .u8 0), (.int .u8 0), (.int .u8 0), (.int .u8 0), (.int .u8 0), (.int .u8 0)]) := by kernel_rfl
theorem sz198 : szT Tryz.prog 198 = .ok 1 := by kernel_rfl
theorem by198 : bytesT Tryz.prog 198 = .ok 8 := by kernel_rfl
theorem ag198 : aggT Tryz.prog 198 = .ok false := by kernel_rfl
theorem ze198 : zeroT Tryz.prog 198 = .ok (.nilFunc) := by kernel_rfl
theorem sz199 : szT Tryz.prog 199 = .ok 1 := by kernel_rfl
theorem by199 : bytesT Tryz.prog 199 = .ok 8 := by kernel_rfl
theorem ag199 : aggT Tryz.prog 199 = .ok false := by kernel_rfl
theorem ze199 : zeroT Tryz.prog 199 = .ok (.int .u64 0) := by kernel_rfl
theorem sz200 : szT Tryz.prog 200 = .ok 1 := by kernel_rfl
theorem by200 : bytesT Tryz.prog 200 = .ok 8 := by kernel_rfl
theorem ag200 : aggT Tryz.prog 200 = .ok false := by kernel_rfl
theorem ze200 : zeroT Tryz.prog 200 = .ok (.nilFunc) := by kernel_rfl
theorem sz201 : szT Tryz.prog 201 = .ok 1 := by kernel_rfl
theorem by201 : bytesT Tryz.prog 201 = .ok 8 := by kernel_rfl
theorem ag201 : aggT Tryz.prog 201 = .ok false := by kernel_rfl
theorem ze201 : zeroT Tryz.prog 201 = .ok (.nilFunc) := by kernel_rfl
theorem sz202 : szT Tryz.prog 202 = .ok 1 := by kernel_rfl
theorem by202 : bytesT Tryz.prog 202 = .ok 8 := by kernel_rfl
theorem ag202 : aggT Tryz.prog 202 = .ok false := by kernel_rfl
theorem ze202 : zeroT Tryz.prog 202 = .ok (.pointer none) := by kernel_rfl
theorem sz203 : szT Tryz.prog 203 = .ok 1 := by kernel_rfl
theorem by203 : bytesT Tryz.prog 203 = .ok 8 := by kernel_rfl
theorem ag203 : aggT Tryz.prog 203 = .ok false := by kernel_rfl
theorem ze203 : zeroT Tryz.prog 203 = .ok (.nilFunc) := by kernel_rfl
theorem sz204 : szT Tryz.prog 204 = .ok 1 := by kernel_rfl
theorem by204 : bytesT Tryz.prog 204 = .ok 8 := by kernel_rfl
theorem ag204 : aggT Tryz.prog 204 = .ok false := by kernel_rfl
theorem ze204 : zeroT Tryz.prog 204 = .ok (.int .i64 0) := by kernel_rfl
theorem sz205 : szT Tryz.prog 205 = .ok 1 := by kernel_rfl
theorem by205 : bytesT Tryz.prog 205 = .ok 0 := by kernel_rfl
theorem ag205 : aggT Tryz.prog 205 = .ok false := by kernel_rfl
theorem sz206 : szT Tryz.prog 206 = .ok 1 := by kernel_rfl
theorem by206 : bytesT Tryz.prog 206 = .ok 8 := by kernel_rfl
theorem ag206 : aggT Tryz.prog 206 = .ok false := by kernel_rfl
theorem ze206 : zeroT Tryz.prog 206 = .ok (.nilFunc) := by kernel_rfl
theorem sz207 : szT Tryz.prog 207 = .ok 1 := by kernel_rfl
theorem by207 : bytesT Tryz.prog 207 = .ok 8 := by kernel_rfl
theorem ag207 : aggT Tryz.prog 207 = .ok false := by kernel_rfl
theorem ze207 : zeroT Tryz.prog 207 = .ok (.pointer none) := by kernel_rfl
theorem sz208 : szT Tryz.prog 208 = .ok 1 := by kernel_rfl
theorem by208 : bytesT Tryz.prog 208 = .ok 8 := by kernel_rfl
theorem ag208 : aggT Tryz.prog 208 = .ok false := by kernel_rfl
theorem ze208 : zeroT Tryz.prog 208 = .ok (.nilFunc) := by kernel_rfl
theorem sz209 : szT Tryz.prog 209 = .ok 1 := by kernel_rfl
theorem by209 : bytesT Tryz.prog 209 = .ok 8 := by kernel_rfl
theorem ag209 : aggT Tryz.prog 209 = .ok false := by kernel_rfl
theorem ze209 : zeroT Tryz.prog 209 = .ok (.nilFunc) := by kernel_rfl
theorem sz210 : szT Tryz.prog 210 = .ok 256 := by kernel_rfl
theorem by210 : bytesT Tryz.prog 210 = .ok 256 := by kernel_rfl
theorem ag210 : aggT Tryz.prog 210 = .ok true := by kernel_rfl
theorem ze210 : zeroT Tryz.prog 210 = .ok (.agg ⟨List.replicate 256 (.int .u8 0)⟩) := by kernel_rfl
theorem sz211 : szT Tryz.prog 211 = .ok 2 := by kernel_rfl
theorem by211 : bytesT Tryz.prog 211 = .ok 2 := by kernel_rfl
theorem ag211 : aggT Tryz.prog 211 = .ok true := by kernel_rfl
theorem ze211 : zeroT Tryz.prog 211 = .ok (.agg #[(.int .u8 0), (.int .u8 0)]) := by kernel_rfl
theorem sz212 : szT Tryz.prog 212 = .ok 2 := by kernel_rfl
theorem by212 : bytesT Tryz.prog 212 = .ok 2 := by kernel_rfl
theorem ag212 : aggT Tryz.prog 212 = .ok true := by kernel_rfl
theorem ze212 : zeroT Tryz.prog 212 = .ok (.agg #[(.int .u8 0), (.int .u8 0)]) := by kernel_rfl
theorem sz213 : szT Tryz.prog 213 = .ok 32 := by kernel_rfl
theorem by213 : bytesT Tryz.prog 213 = .ok 32 := by kernel_rfl
theorem ag213 : aggT Tryz.prog 213 = .ok true := by kernel_rfl
theorem ze213 : zeroT Tryz.prog 213 = .ok (.agg #[(.int .u8 0), (.int .u8 0), (.int .u8 0), (.int .u8 0), (.int .u8 0), (.int .u8 0), (.int .u8 0), (.int .u8 0), (.int .u8 0), (.int .u8 0), (.int .u8 0), (.int .u8 0), (.int .u8 0), (.int .u8 0), (.int .u8 0), (.int .u8 0), (.int .u8 0), (.int .u8 0), (.int .u8 0), (.int .u8 0), (.int .u8 0), (.int .u8 0), (.int .u8 0), (.int .u8 0), (.int .u8 0), (.int .u8 0), (.int .u8 0), (.int .u8 0), (.int .u8 0), (.int .u8 0), (.int .u8 0), (.int .u8 0)]) := by kernel_rfl
theorem sz214 : szT Tryz.prog 214 = .ok 1 := by kernel_rfl
theorem by214 : bytesT Tryz.prog 214 = .ok 8 := by kernel_rfl
theorem ag214 : aggT Tryz.prog 214 = .ok false := by kernel_rfl
theorem ze214 : zeroT Tryz.prog 214 = .ok (.nilFunc) := by kernel_rfl
theorem sz215 : szT Tryz.prog 215 = .ok 1 := by kernel_rfl
theorem by215 : bytesT Tryz.prog 215 = .ok 8 := by kernel_rfl
theorem ag215 : aggT Tryz.prog 215 = .ok false := by kernel_rfl
theorem ze215 : zeroT Tryz.prog 215 = .ok (.nilFunc) := by kernel_rfl
theorem sz216 : szT Tryz.prog 216 = .ok 1 := by kernel_rfl
theorem by216 : bytesT Tryz.prog 216 = .ok 8 := by kernel_rfl
theorem ag216 : aggT Tryz.prog 216 = .ok false := by kernel_rfl
theorem ze216 : zeroT Tryz.prog 216 = .ok (.nilFunc) := by kernel_rfl
theorem sz217 : szT Tryz.prog 217 = .ok 1 := by kernel_rfl
theorem by217 : bytesT Tryz.prog 217 = .ok 8 := by kernel_rfl
theorem ag217 : aggT Tryz.prog 217 = .ok false := by kernel_rfl
theorem ze217 : zeroT Tryz.prog 217 = .ok (.pointer none) := by kernel_rfl
theorem sz218 : szT Tryz.prog 218 = .ok 1 := by kernel_rfl
theorem by218 : bytesT Tryz.prog 218 = .ok 0 := by kernel_rfl
theorem ag218 : aggT Tryz.prog 218 = .ok false := by kernel_rfl
theorem sz219 : szT Tryz.prog 219 = .ok 1 := by kernel_rfl
theorem by219 : bytesT Tryz.prog 219 = .ok 8 := by kernel_rfl
theorem ag219 : aggT Tryz.prog 219 = .ok false := by kernel_rfl
theorem ze219 : zeroT Tryz.prog 219 = .ok (.nilFunc) := by kernel_rfl
theorem sz220 : szT Tryz.prog 220 = .ok 1 := by kernel_rfl
theorem by220 : bytesT Tryz.prog 220 = .ok 0 := by kernel_rfl
theorem ag220 : aggT Tryz.prog 220 = .ok false := by kernel_rfl
theorem sz221 : szT Tryz.prog 221 = .ok 1 := by kernel_rfl
theorem by221 : bytesT Tryz.prog 221 = .ok 8 := by kernel_rfl
theorem ag221 : aggT Tryz.prog 221 = .ok false := by kernel_rfl
theorem ze221 : zeroT Tryz.prog 221 = .ok (.nilFunc) := by kernel_rfl
theorem sz222 : szT Tryz.prog 222 = .ok 1 := by kernel_rfl
theorem by222 : bytesT Tryz.prog 222 = .ok 8 := by kernel_rfl
theorem ag222 : aggT Tryz.prog 222 = .ok false := by kernel_rfl
theorem ze222 : zeroT Tryz.prog 222 = .ok (.nilFunc) := by kernel_rfl
theorem sz223 : szT Tryz.prog 223 = .ok 3 := by kernel_rfl
theorem by223 : bytesT Tryz.prog 223 = .ok 48 := by kernel_rfl
theorem ag223 : aggT Tryz.prog 223 = .ok true := by kernel_rfl
theorem ze223 : zeroT Tryz.prog 223 = .ok (.agg #[(.string ⟨⟨[]⟩⟩), (.string ⟨⟨[]⟩⟩), (.nilIface)]) := by kernel_rfl
theorem sz224 : szT Tryz.prog 224 = .ok 3 := by kernel_rfl
theorem by224 : bytesT Tryz.prog 224 = .ok 48 := by kernel_rfl
theorem ag224 : aggT Tryz.prog 224 = .ok true := by kernel_rfl
theorem ze224 : zeroT Tryz.prog 224 = .ok (.agg #[(.string ⟨⟨[]⟩⟩), (.string ⟨⟨[]⟩⟩), (.nilIface)]) := by kernel_rfl
theorem sz225 : szT Tryz.prog 225 = .ok 1 := by kernel_rfl
theorem by225 : bytesT Tryz.prog 225 = .ok 8 := by kernel_rfl
theorem ag225 : aggT Tryz.prog 225 = .ok false := by kernel_rfl
theorem ze225 : zeroT Tryz.prog 225 = .ok (.nilFunc) := by kernel_rfl
theorem sz226 : szT Tryz.prog 226 = .ok 32 := by kernel_rfl
theorem by226 : bytesT Tryz.prog 226 = .ok 32 := by kernel_rfl
theorem ag226 : aggT Tryz.prog 226 = .ok true := by kernel_rfl
theorem ze226 : zeroT Tryz.prog 226 = .ok (.agg #[(.int .u8 0), (.int .u8 0), (.int .u8 0), (.int .u8 0), (.int .u8 0), (.int .u8 0), (.int .u8 0), (.int .u8 0), (.int .u8 0), (.int .u8 0), (.int .u8 0), (.int .u8 0), (.int .u8 0), (.int .u8 0), (.int .u8 0), (.int .u8 0), (.int .u8 0), (.int .u8 0), (.int .u8 0), (.int .u8 0), (.int .u8 0), (.int .u8 0), (.int .u8 0), (.int .u8 0), (.int .u8 0), (.int .u8 0), (.int .u8 0), (.int .u8 0), (.int .u8 0), (.int .u8 0), (.int .u8 0), (.int .u8 0)]) := by kernel_rfl
theorem sz227 : szT Tryz.prog 227 = .ok 64 := by kernel_rfl
theorem by227 : bytesT Tryz.prog 227 = .ok 64 := by kernel_rfl
theorem ag227 : aggT Tryz.prog 227 = .ok true := by kernel_rfl
theorem ze227 : zeroT Tryz.prog 227 = .ok (.agg #[(.int .u8 0), (.int .u8 0), (.int .u8 0), (.int .u8 0), (.int .u8 0), (.int .u8 0), (.int .u8 0), (.int .u8 0), (.int .u8 0), (.int .u8 0), (.int .u8 0), (.int .u8 0), (.int .u8 0), (.int .u8 0), (.int .u8 0), (.int .u8 0), (.int .u8 0), (.int .u8 0), (.int .u8 0), (.int .u8 0), (.int .u8 0), (.int .u8 0), (.int .u8 0), (.int .u8 0), (.int .u8 0), (.int .u8 0), (.int .u8 0), (.int .u8 0), (.int .u8 0), (.int .u8 0), (.int .u8 0), (.int .u8 0), (.int .u8 0), (.int .u8 0), (.int .u8 0), (.int .u8 0), (.int .u8 0), (.int .u8 0), (.int .u8 0), (.int .u8 0), (.int .u8 0), (.int .u8 0), (.int .u8 0), (.int .u8 0), (.int .u8 0), (.int .u8 0), (.int .u8 0), (.int .u8 0), (.int .u8 0), (.int .u8 0), (.int .u8 0), (.int .u8 0), (.int .u8 0), (.int .u8 0), (.int .u8 0), (.int .u8 0), (.int .u8 0), (.int .u8 0), (.int .u8 0), (.int .u8 0), (.int .u8 0), (.int .u8 0), (.int .u8 0), (.int .u8 0)]) := by kernel_rfl
theorem sz228 : szT Tryz.prog 228 = .ok 1 := by kernel_rfl
theorem by228 : bytesT Tryz.prog 228 = .ok 8 := by kernel_rfl
theorem ag228 : aggT Tryz.prog 228 = .ok false := by kernel_rfl
theorem ze228 : zeroT Tryz.prog 228 = .ok (.nilFunc) := by kernel_rfl
theorem sz229 : szT Tryz.prog 229 = .ok 1 := by kernel_rfl
theorem by229 : bytesT Tryz.prog 229 = .ok 8 := by kernel_rfl
theorem ag229 : aggT Tryz.prog 229 = .ok false := by kernel_rfl
theorem ze229 : zeroT Tryz.prog 229 = .ok (.pointer none) := by kernel_rfl
theorem sz230 : szT Tryz.prog 230 = .ok 1 := by kernel_rfl
theorem by230 : bytesT Tryz.prog 230 = .ok 16 := by kernel_rfl
theorem ag230 : aggT Tryz.prog 230 = .ok true := by kernel_rfl
theorem ze230 : zeroT Tryz.prog 230 = .ok (.agg #[(.string ⟨⟨[]⟩⟩)]) := by kernel_rfl
theorem sz231 : szT Tryz.prog 231 = .ok 1 := by kernel_rfl
theorem by231 : bytesT Tryz.prog 231 = .ok 16 := by kernel_rfl
theorem ag231 : aggT Tryz.prog 231 = .ok true := by kernel_rfl
theorem ze231 : zeroT Tryz.prog 231 = .ok (.agg #[(.string ⟨⟨[]⟩⟩)]) := by kernel_rfl
theorem sz232 : szT Tryz.prog 232 = .ok 4 := by kernel_rfl
theorem by232 : bytesT Tryz.prog 232 = .ok 40 := by kernel_rfl
theorem ag232 : aggT Tryz.prog 232 = .ok true := by kernel_rfl
theorem ze232 : zeroT Tryz.prog 232 = .ok (.agg #[(.pointer none), (.pointer none), (.pointer none), (.string ⟨⟨[]⟩⟩)]) := by kernel_rfl
theorem sz233 : szT Tryz.prog 233 = .ok 4 := by kernel_rfl
theorem by233 : bytesT Tryz.prog 233 = .ok 40 := by kernel_rfl
theorem ag233 : aggT Tryz.prog 233 = .ok true := by kernel_rfl
theorem ze233 : zeroT Tryz.prog 233 = .ok (.agg #[(.pointer none), (.pointer none), (.pointer none), (.string ⟨⟨[]⟩⟩)]) := by kernel_rfl
theorem sz234 : szT Tryz.prog 234 = .ok 0 := by kernel_rfl
theorem by234 : bytesT Tryz.prog 234 = .ok 0 := by kernel_rfl
theorem ag234 : aggT Tryz.prog 234 = .ok true := by kernel_rfl
theorem ze234 : zeroT Tryz.prog 234 = .ok (.agg #[]) := by kernel_rfl
theorem sz235 : szT Tryz.prog 235 = .ok 0 := by kernel_rfl
theorem by235 : bytesT Tryz.prog 235 = .ok 0 := by kernel_rfl
theorem ag235 : aggT Tryz.prog 235 = .ok true := by kernel_rfl
theorem ze235 : zeroT Tryz.prog 235 = .ok (.agg #[]) := by kernel_rfl
theorem sz236 : szT Tryz.prog 236 = .ok 0 := by kernel_rfl
theorem by236 : bytesT Tryz.prog 236 = .ok 0 := by kernel_rfl
theorem ag236 : aggT Tryz.prog 236 = .ok true := by kernel_rfl
theorem ze236 : zeroT Tryz.prog 236 = .ok (.agg #[]) := by kernel_rfl
theorem sz237 : szT Tryz.prog 237 = .ok 1 := by kernel_rfl
theorem by237 : bytesT Tryz.prog 237 = .ok 1 := by kernel_rfl
theorem ag237 : aggT Tryz.prog 237 = .ok false := by kernel_rfl
theorem ze237 : zeroT Tryz.prog 237 = .ok (.int .u8 0) := by kernel_rfl
theorem sz238 : szT Tryz.prog 238 = .ok 1 := by kernel_rfl
theorem by238 : bytesT Tryz.prog 238 = .ok 1 := by kernel_rfl
theorem ag238 : aggT Tryz.prog 238 = .ok false := by kernel_rfl
theorem ze238 : zeroT Tryz.prog 238 = .ok (.int .u8 0) := by kernel_rfl
theorem sz239 : szT Tryz.prog 239 = .ok 1 := by kernel_rfl
theorem by239 : bytesT Tryz.prog 239 = .ok 8 := by kernel_rfl
theorem ag239 : aggT Tryz.prog 239 = .ok false := by kernel_rfl
theorem ze239 : zeroT Tryz.prog 239 = .ok (.nilFunc) := by kernel_rfl
theorem sz240 : szT Tryz.prog 240 = .ok 1 := by kernel_rfl
theorem by240 : bytesT Tryz.prog 240 = .ok 4 := by kernel_rfl
theorem ag240 : aggT Tryz.prog 240 = .ok false := by kernel_rfl
theorem ze240 : zeroT Tryz.prog 240 = .ok (.int .i32 0) := by kernel_rfl
theorem sz241 : szT Tryz.prog 241 = .ok 1 := by kernel_rfl
theorem by241 : bytesT Tryz.prog 241 = .ok 4 := by kernel_rfl
theorem ag241 : aggT Tryz.prog 241 = .ok false := by kernel_rfl
theorem ze241 : zeroT Tryz.prog 241 = .ok (.int .i32 0) := by kernel_rfl
theorem sz242 : szT Tryz.prog 242 = .ok 11 := by kernel_rfl
theorem by242 : bytesT Tryz.prog 242 = .ok 48 := by kernel_rfl
theorem ag242 : aggT Tryz.prog 242 = .ok true := by kernel_rfl
theorem ze242 : zeroT Tryz.prog 242 = .ok (.agg #[(.int .u64 0), (.int .u64 0), (.int .u32 0), (.int .u8 0), (.int .u8 0), (.int .u8 0), (.int .u8 0), (.nilFunc), (.pointer none), (.int .i32 0), (.int .i32 0)]) := by kernel_rfl
theorem sz243 : szT Tryz.prog 243 = .ok 11 := by kernel_rfl
theorem by243 : bytesT Tryz.prog 243 = .ok 48 := by kernel_rfl
theorem ag243 : aggT Tryz.prog 243 = .ok true := by kernel_rfl
theorem ze243 : zeroT Tryz.prog 243 = .ok (.agg #[(.int .u64 0), (.int .u64 0), (.int .u32 0), (.int .u8 0), (.int .u8 0), (.int .u8 0), (.int .u8 0), (.nilFunc), (.pointer none), (.int .i32 0), (.int .i32 0)]) := by kernel_rfl
theorem sz244 : szT Tryz.prog 244 = .ok 1 := by kernel_rfl
theorem by244 : bytesT Tryz.prog 244 = .ok 8 := by kernel_rfl
theorem ag244 : aggT Tryz.prog 244 = .ok false := by kernel_rfl
theorem ze244 : zeroT Tryz.prog 244 = .ok (.nilFunc) := by kernel_rfl
end Go.Proofs.YtbakhdgiimjnkaaGreatDoor.Ty
