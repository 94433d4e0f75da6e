/-
  Facts on the program's types: cells, bytes, zero values. Printed by program.
-/
import Derived.Test.YtdcnkgonfchkmaaGreatDoorChecked
import Derived.KernelRfl
import Derived.Test.YtdcnkgonfchkmaaGreatDoorAbsA
namespace Go.Proofs.YtdcnkgonfchkmaaGreatDoor.Ty
open Abs
theorem sz0 : szT Tryz.prog 0 = .ok 1 := by kernel_rfl
theorem by0 : bytesT Tryz.prog 0 = .ok 0 := by kernel_rfl
theorem ag0 : aggT Tryz.prog 0 = .ok false := by kernel_rfl
theorem sz1 : szT Tryz.prog 1 = .ok 1 := by kernel_rfl
theorem by1 : bytesT Tryz.prog 1 = .ok 8 := by kernel_rfl
theorem ag1 : aggT Tryz.prog 1 = .ok false := by kernel_rfl
theorem ze1 : zeroT Tryz.prog 1 = .ok (.nilFunc) := by kernel_rfl
theorem sz2 : szT Tryz.prog 2 = .ok 1 := by kernel_rfl
theorem by2 : bytesT Tryz.prog 2 = .ok 8 := by kernel_rfl
theorem ag2 : aggT Tryz.prog 2 = .ok false := by kernel_rfl
theorem ze2 : zeroT Tryz.prog 2 = .ok (.int .i64 0) := by kernel_rfl
theorem sz3 : szT Tryz.prog 3 = .ok 1 := by kernel_rfl
theorem by3 : bytesT Tryz.prog 3 = .ok 8 := by kernel_rfl
theorem ag3 : aggT Tryz.prog 3 = .ok false := by kernel_rfl
theorem ze3 : zeroT Tryz.prog 3 = .ok (.int .i64 0) := by kernel_rfl
theorem sz4 : szT Tryz.prog 4 = .ok 1 := by kernel_rfl
theorem by4 : bytesT Tryz.prog 4 = .ok 1 := by kernel_rfl
theorem ag4 : aggT Tryz.prog 4 = .ok false := by kernel_rfl
theorem ze4 : zeroT Tryz.prog 4 = .ok (.bool false) := by kernel_rfl
theorem sz5 : szT Tryz.prog 5 = .ok 1 := by kernel_rfl
theorem by5 : bytesT Tryz.prog 5 = .ok 1 := by kernel_rfl
theorem ag5 : aggT Tryz.prog 5 = .ok false := by kernel_rfl
theorem ze5 : zeroT Tryz.prog 5 = .ok (.int .u8 0) := by kernel_rfl
theorem sz6 : szT Tryz.prog 6 = .ok 1 := by kernel_rfl
theorem by6 : bytesT Tryz.prog 6 = .ok 1 := by kernel_rfl
theorem ag6 : aggT Tryz.prog 6 = .ok false := by kernel_rfl
theorem ze6 : zeroT Tryz.prog 6 = .ok (.int .u8 0) := by kernel_rfl
theorem sz7 : szT Tryz.prog 7 = .ok 4 := by kernel_rfl
theorem by7 : bytesT Tryz.prog 7 = .ok 24 := by kernel_rfl
theorem ag7 : aggT Tryz.prog 7 = .ok true := by kernel_rfl
theorem ze7 : zeroT Tryz.prog 7 = .ok (.agg #[(.int .i64 0), (.int .i64 0), (.bool false), (.int .u8 0)]) := by kernel_rfl
theorem sz8 : szT Tryz.prog 8 = .ok 4 := by kernel_rfl
theorem by8 : bytesT Tryz.prog 8 = .ok 24 := by kernel_rfl
theorem ag8 : aggT Tryz.prog 8 = .ok true := by kernel_rfl
theorem ze8 : zeroT Tryz.prog 8 = .ok (.agg #[(.int .i64 0), (.int .i64 0), (.bool false), (.int .u8 0)]) := by kernel_rfl
theorem sz9 : szT Tryz.prog 9 = .ok 1 := by kernel_rfl
theorem by9 : bytesT Tryz.prog 9 = .ok 16 := by kernel_rfl
theorem ag9 : aggT Tryz.prog 9 = .ok false := by kernel_rfl
theorem ze9 : zeroT Tryz.prog 9 = .ok (.string ⟨⟨[]⟩⟩) := by kernel_rfl
theorem sz10 : szT Tryz.prog 10 = .ok 1 := by kernel_rfl
theorem by10 : bytesT Tryz.prog 10 = .ok 16 := by kernel_rfl
theorem ag10 : aggT Tryz.prog 10 = .ok false := by kernel_rfl
theorem ze10 : zeroT Tryz.prog 10 = .ok (.string ⟨⟨[]⟩⟩) := by kernel_rfl
theorem sz11 : szT Tryz.prog 11 = .ok 1 := by kernel_rfl
theorem by11 : bytesT Tryz.prog 11 = .ok 16 := by kernel_rfl
theorem ag11 : aggT Tryz.prog 11 = .ok false := by kernel_rfl
theorem ze11 : zeroT Tryz.prog 11 = .ok (.string ⟨⟨[]⟩⟩) := by kernel_rfl
theorem sz12 : szT Tryz.prog 12 = .ok 1 := by kernel_rfl
theorem by12 : bytesT Tryz.prog 12 = .ok 8 := by kernel_rfl
theorem ag12 : aggT Tryz.prog 12 = .ok false := by kernel_rfl
theorem ze12 : zeroT Tryz.prog 12 = .ok (.int .u64 0) := by kernel_rfl
theorem sz13 : szT Tryz.prog 13 = .ok 2 := by kernel_rfl
theorem by13 : bytesT Tryz.prog 13 = .ok 24 := by kernel_rfl
theorem ag13 : aggT Tryz.prog 13 = .ok true := by kernel_rfl
theorem ze13 : zeroT Tryz.prog 13 = .ok (.agg #[(.string ⟨⟨[]⟩⟩), (.int .u64 0)]) := by kernel_rfl
theorem sz14 : szT Tryz.prog 14 = .ok 2 := by kernel_rfl
theorem by14 : bytesT Tryz.prog 14 = .ok 24 := by kernel_rfl
theorem ag14 : aggT Tryz.prog 14 = .ok true := by kernel_rfl
theorem ze14 : zeroT Tryz.prog 14 = .ok (.agg #[(.string ⟨⟨[]⟩⟩), (.int .u64 0)]) := by kernel_rfl
theorem sz15 : szT Tryz.prog 15 = .ok 1 := by kernel_rfl
theorem by15 : bytesT Tryz.prog 15 = .ok 8 := by kernel_rfl
theorem ag15 : aggT Tryz.prog 15 = .ok false := by kernel_rfl
theorem ze15 : zeroT Tryz.prog 15 = .ok (.pointer none) := by kernel_rfl
theorem sz16 : szT Tryz.prog 16 = .ok 1 := by kernel_rfl
theorem by16 : bytesT Tryz.prog 16 = .ok 8 := by kernel_rfl
theorem ag16 : aggT Tryz.prog 16 = .ok false := by kernel_rfl
theorem ze16 : zeroT Tryz.prog 16 = .ok (.pointer none) := by kernel_rfl
theorem sz17 : szT Tryz.prog 17 = .ok 1 := by kernel_rfl
theorem by17 : bytesT Tryz.prog 17 = .ok 8 := by kernel_rfl
theorem ag17 : aggT Tryz.prog 17 = .ok false := by kernel_rfl
theorem ze17 : zeroT Tryz.prog 17 = .ok (.pointer none) := by kernel_rfl
theorem sz18 : szT Tryz.prog 18 = .ok 1 := by kernel_rfl
theorem by18 : bytesT Tryz.prog 18 = .ok 8 := by kernel_rfl
theorem ag18 : aggT Tryz.prog 18 = .ok true := by kernel_rfl
theorem ze18 : zeroT Tryz.prog 18 = .ok (.agg #[(.pointer none)]) := by kernel_rfl
theorem sz19 : szT Tryz.prog 19 = .ok 1 := by kernel_rfl
theorem by19 : bytesT Tryz.prog 19 = .ok 8 := by kernel_rfl
theorem ag19 : aggT Tryz.prog 19 = .ok true := by kernel_rfl
theorem ze19 : zeroT Tryz.prog 19 = .ok (.agg #[(.pointer none)]) := by kernel_rfl
theorem sz20 : szT Tryz.prog 20 = .ok 1 := by kernel_rfl
theorem by20 : bytesT Tryz.prog 20 = .ok 16 := by kernel_rfl
theorem ag20 : aggT Tryz.prog 20 = .ok false := by kernel_rfl
theorem ze20 : zeroT Tryz.prog 20 = .ok (.nilIface) := by kernel_rfl
theorem sz21 : szT Tryz.prog 21 = .ok 1 := by kernel_rfl
theorem by21 : bytesT Tryz.prog 21 = .ok 4 := by kernel_rfl
theorem ag21 : aggT Tryz.prog 21 = .ok false := by kernel_rfl
theorem ze21 : zeroT Tryz.prog 21 = .ok (.int .i32 0) := by kernel_rfl
theorem sz22 : szT Tryz.prog 22 = .ok 1 := by kernel_rfl
theorem by22 : bytesT Tryz.prog 22 = .ok 8 := by kernel_rfl
theorem ag22 : aggT Tryz.prog 22 = .ok false := by kernel_rfl
theorem ze22 : zeroT Tryz.prog 22 = .ok (.nilFunc) := by kernel_rfl
theorem sz23 : szT Tryz.prog 23 = .ok 1 := by kernel_rfl
theorem by23 : bytesT Tryz.prog 23 = .ok 8 := by kernel_rfl
theorem ag23 : aggT Tryz.prog 23 = .ok false := by kernel_rfl
theorem ze23 : zeroT Tryz.prog 23 = .ok (.pointer none) := by kernel_rfl
theorem sz24 : szT Tryz.prog 24 = .ok 1 := by kernel_rfl
theorem by24 : bytesT Tryz.prog 24 = .ok 8 := by kernel_rfl
theorem ag24 : aggT Tryz.prog 24 = .ok false := by kernel_rfl
theorem ze24 : zeroT Tryz.prog 24 = .ok (.int .i64 0) := by kernel_rfl
theorem sz25 : szT Tryz.prog 25 = .ok 1 := by kernel_rfl
theorem by25 : bytesT Tryz.prog 25 = .ok 0 := by kernel_rfl
theorem ag25 : aggT Tryz.prog 25 = .ok false := by kernel_rfl
theorem sz26 : szT Tryz.prog 26 = .ok 1 := by kernel_rfl
theorem by26 : bytesT Tryz.prog 26 = .ok 8 := by kernel_rfl
theorem ag26 : aggT Tryz.prog 26 = .ok false := by kernel_rfl
theorem ze26 : zeroT Tryz.prog 26 = .ok (.nilFunc) := by kernel_rfl
theorem sz27 : szT Tryz.prog 27 = .ok 1 := by kernel_rfl
theorem by27 : bytesT Tryz.prog 27 = .ok 8 := by kernel_rfl
theorem ag27 : aggT Tryz.prog 27 = .ok false := by kernel_rfl
theorem ze27 : zeroT Tryz.prog 27 = .ok (.pointer none) := by kernel_rfl
theorem sz28 : szT Tryz.prog 28 = .ok 1 := by kernel_rfl
theorem by28 : bytesT Tryz.prog 28 = .ok 0 := by kernel_rfl
theorem ag28 : aggT Tryz.prog 28 = .ok false := by kernel_rfl
theorem sz29 : szT Tryz.prog 29 = .ok 1 := by kernel_rfl
theorem by29 : bytesT Tryz.prog 29 = .ok 8 := by kernel_rfl
theorem ag29 : aggT Tryz.prog 29 = .ok false := by kernel_rfl
theorem ze29 : zeroT Tryz.prog 29 = .ok (.nilFunc) := by kernel_rfl
theorem sz30 : szT Tryz.prog 30 = .ok 3 := by kernel_rfl
theorem by30 : bytesT Tryz.prog 30 = .ok 24 := by kernel_rfl
theorem ag30 : aggT Tryz.prog 30 = .ok true := by kernel_rfl
theorem ze30 : zeroT Tryz.prog 30 = .ok (.agg #[(.int .i64 0), (.int .i64 0), (.int .i64 0)]) := by kernel_rfl
theorem sz31 : szT Tryz.prog 31 = .ok 3 := by kernel_rfl
theorem by31 : bytesT Tryz.prog 31 = .ok 24 := by kernel_rfl
theorem ag31 : aggT Tryz.prog 31 = .ok true := by kernel_rfl
theorem ze31 : zeroT Tryz.prog 31 = .ok (.agg #[(.int .i64 0), (.int .i64 0), (.int .i64 0)]) := by kernel_rfl
theorem sz32 : szT Tryz.prog 32 = .ok 1 := by kernel_rfl
theorem by32 : bytesT Tryz.prog 32 = .ok 8 := by kernel_rfl
theorem ag32 : aggT Tryz.prog 32 = .ok false := by kernel_rfl
theorem ze32 : zeroT Tryz.prog 32 = .ok (.nilFunc) := by kernel_rfl
theorem sz33 : szT Tryz.prog 33 = .ok 1 := by kernel_rfl
theorem by33 : bytesT Tryz.prog 33 = .ok 0 := by kernel_rfl
theorem ag33 : aggT Tryz.prog 33 = .ok false := by kernel_rfl
theorem sz34 : szT Tryz.prog 34 = .ok 1 := by kernel_rfl
theorem by34 : bytesT Tryz.prog 34 = .ok 8 := by kernel_rfl
theorem ag34 : aggT Tryz.prog 34 = .ok false := by kernel_rfl
theorem ze34 : zeroT Tryz.prog 34 = .ok (.nilFunc) := by kernel_rfl
theorem sz35 : szT Tryz.prog 35 = .ok 1 := by kernel_rfl
theorem by35 : bytesT Tryz.prog 35 = .ok 8 := by kernel_rfl
theorem ag35 : aggT Tryz.prog 35 = .ok false := by kernel_rfl
theorem ze35 : zeroT Tryz.prog 35 = .ok (.int .u64 0) := by kernel_rfl
theorem sz36 : szT Tryz.prog 36 = .ok 1 := by kernel_rfl
theorem by36 : bytesT Tryz.prog 36 = .ok 8 := by kernel_rfl
theorem ag36 : aggT Tryz.prog 36 = .ok false := by kernel_rfl
theorem ze36 : zeroT Tryz.prog 36 = .ok (.nilFunc) := by kernel_rfl
theorem sz37 : szT Tryz.prog 37 = .ok 1 := by kernel_rfl
theorem by37 : bytesT Tryz.prog 37 = .ok 8 := by kernel_rfl
theorem ag37 : aggT Tryz.prog 37 = .ok false := by kernel_rfl
theorem ze37 : zeroT Tryz.prog 37 = .ok (.nilFunc) := by kernel_rfl
theorem sz38 : szT Tryz.prog 38 = .ok 3 := by kernel_rfl
theorem by38 : bytesT Tryz.prog 38 = .ok 40 := by kernel_rfl
theorem ag38 : aggT Tryz.prog 38 = .ok true := by kernel_rfl
theorem ze38 : zeroT Tryz.prog 38 = .ok (.agg #[(.string ⟨⟨[]⟩⟩), (.string ⟨⟨[]⟩⟩), (.bool false)]) := by kernel_rfl
theorem sz39 : szT Tryz.prog 39 = .ok 3 := by kernel_rfl
theorem by39 : bytesT Tryz.prog 39 = .ok 40 := by kernel_rfl
theorem ag39 : aggT Tryz.prog 39 = .ok true := by kernel_rfl
theorem ze39 : zeroT Tryz.prog 39 = .ok (.agg #[(.string ⟨⟨[]⟩⟩), (.string ⟨⟨[]⟩⟩), (.bool false)]) := by kernel_rfl
theorem sz40 : szT Tryz.prog 40 = .ok 1 := by kernel_rfl
theorem by40 : bytesT Tryz.prog 40 = .ok 24 := by kernel_rfl
theorem ag40 : aggT Tryz.prog 40 = .ok false := by kernel_rfl
theorem ze40 : zeroT Tryz.prog 40 = .ok (.slice none 0 0) := by kernel_rfl
theorem sz41 : szT Tryz.prog 41 = .ok 1 := by kernel_rfl
theorem by41 : bytesT Tryz.prog 41 = .ok 8 := by kernel_rfl
theorem ag41 : aggT Tryz.prog 41 = .ok false := by kernel_rfl
theorem ze41 : zeroT Tryz.prog 41 = .ok (.nilFunc) := by kernel_rfl
theorem sz42 : szT Tryz.prog 42 = .ok 1 := by kernel_rfl
theorem by42 : bytesT Tryz.prog 42 = .ok 8 := by kernel_rfl
theorem ag42 : aggT Tryz.prog 42 = .ok false := by kernel_rfl
theorem ze42 : zeroT Tryz.prog 42 = .ok (.nilFunc) := by kernel_rfl
theorem sz43 : szT Tryz.prog 43 = .ok 1 := by kernel_rfl
theorem by43 : bytesT Tryz.prog 43 = .ok 0 := by kernel_rfl
theorem ag43 : aggT Tryz.prog 43 = .ok false := by kernel_rfl
theorem sz44 : szT Tryz.prog 44 = .ok 1 := by kernel_rfl
theorem by44 : bytesT Tryz.prog 44 = .ok 8 := by kernel_rfl
theorem ag44 : aggT Tryz.prog 44 = .ok false := by kernel_rfl
theorem ze44 : zeroT Tryz.prog 44 = .ok (.nilFunc) := by kernel_rfl
theorem sz45 : szT Tryz.prog 45 = .ok 1 := by kernel_rfl
theorem by45 : bytesT Tryz.prog 45 = .ok 8 := by kernel_rfl
theorem ag45 : aggT Tryz.prog 45 = .ok false := by kernel_rfl
theorem ze45 : zeroT Tryz.prog 45 = .ok (.nilFunc) := by kernel_rfl
theorem sz46 : szT Tryz.prog 46 = .ok 1 := by kernel_rfl
theorem by46 : bytesT Tryz.prog 46 = .ok 0 := by kernel_rfl
theorem ag46 : aggT Tryz.prog 46 = .ok false := by kernel_rfl
theorem sz47 : szT Tryz.prog 47 = .ok 1 := by kernel_rfl
theorem by47 : bytesT Tryz.prog 47 = .ok 8 := by kernel_rfl
theorem ag47 : aggT Tryz.prog 47 = .ok false := by kernel_rfl
theorem ze47 : zeroT Tryz.prog 47 = .ok (.nilFunc) := by kernel_rfl
theorem sz48 : szT Tryz.prog 48 = .ok 1 := by kernel_rfl
theorem by48 : bytesT Tryz.prog 48 = .ok 8 := by kernel_rfl
theorem ag48 : aggT Tryz.prog 48 = .ok false := by kernel_rfl
theorem ze48 : zeroT Tryz.prog 48 = .ok (.nilFunc) := by kernel_rfl
theorem sz49 : szT Tryz.prog 49 = .ok 4 := by kernel_rfl
theorem by49 : bytesT Tryz.prog 49 = .ok 32 := by kernel_rfl
theorem ag49 : aggT Tryz.prog 49 = .ok true := by kernel_rfl
theorem ze49 : zeroT Tryz.prog 49 = .ok (.agg #[(.int .i64 0), (.int .i64 0), (.int .i64 0), (.int .i64 0)]) := by kernel_rfl
theorem sz50 : szT Tryz.prog 50 = .ok 4 := by kernel_rfl
theorem by50 : bytesT Tryz.prog 50 = .ok 32 := by kernel_rfl
theorem ag50 : aggT Tryz.prog 50 = .ok true := by kernel_rfl
theorem ze50 : zeroT Tryz.prog 50 = .ok (.agg #[(.int .i64 0), (.int .i64 0), (.int .i64 0), (.int .i64 0)]) := by kernel_rfl
theorem sz51 : szT Tryz.prog 51 = .ok 1 := by kernel_rfl
theorem by51 : bytesT Tryz.prog 51 = .ok 8 := by kernel_rfl
theorem ag51 : aggT Tryz.prog 51 = .ok false := by kernel_rfl
theorem ze51 : zeroT Tryz.prog 51 = .ok (.nilFunc) := by kernel_rfl
theorem sz52 : szT Tryz.prog 52 = .ok 1 := by kernel_rfl
theorem by52 : bytesT Tryz.prog 52 = .ok 8 := by kernel_rfl
theorem ag52 : aggT Tryz.prog 52 = .ok false := by kernel_rfl
theorem ze52 : zeroT Tryz.prog 52 = .ok (.map none) := by kernel_rfl
theorem sz53 : szT Tryz.prog 53 = .ok 1 := by kernel_rfl
theorem by53 : bytesT Tryz.prog 53 = .ok 24 := by kernel_rfl
theorem ag53 : aggT Tryz.prog 53 = .ok false := by kernel_rfl
theorem ze53 : zeroT Tryz.prog 53 = .ok (.slice none 0 0) := by kernel_rfl
theorem sz54 : szT Tryz.prog 54 = .ok 0 := by kernel_rfl
theorem by54 : bytesT Tryz.prog 54 = .ok 0 := by kernel_rfl
theorem ag54 : aggT Tryz.prog 54 = .ok true := by kernel_rfl
theorem ze54 : zeroT Tryz.prog 54 = .ok (.agg #[]) := by kernel_rfl
theorem sz55 : szT Tryz.prog 55 = .ok 0 := by kernel_rfl
theorem by55 : bytesT Tryz.prog 55 = .ok 0 := by kernel_rfl
theorem ag55 : aggT Tryz.prog 55 = .ok true := by kernel_rfl
theorem ze55 : zeroT Tryz.prog 55 = .ok (.agg #[]) := by kernel_rfl
theorem sz56 : szT Tryz.prog 56 = .ok 0 := by kernel_rfl
theorem by56 : bytesT Tryz.prog 56 = .ok 0 := by kernel_rfl
theorem ag56 : aggT Tryz.prog 56 = .ok true := by kernel_rfl
theorem ze56 : zeroT Tryz.prog 56 = .ok (.agg #[]) := by kernel_rfl
theorem sz57 : szT Tryz.prog 57 = .ok 1 := by kernel_rfl
theorem by57 : bytesT Tryz.prog 57 = .ok 8 := by kernel_rfl
theorem ag57 : aggT Tryz.prog 57 = .ok true := by kernel_rfl
theorem ze57 : zeroT Tryz.prog 57 = .ok (.agg #[(.int .i64 0)]) := by kernel_rfl
theorem sz58 : szT Tryz.prog 58 = .ok 1 := by kernel_rfl
theorem by58 : bytesT Tryz.prog 58 = .ok 8 := by kernel_rfl
theorem ag58 : aggT Tryz.prog 58 = .ok true := by kernel_rfl
theorem ze58 : zeroT Tryz.prog 58 = .ok (.agg #[(.int .i64 0)]) := by kernel_rfl
theorem sz59 : szT Tryz.prog 59 = .ok 6 := by kernel_rfl
theorem by59 : bytesT Tryz.prog 59 = .ok 64 := by kernel_rfl
theorem ag59 : aggT Tryz.prog 59 = .ok true := by kernel_rfl
theorem ze59 : zeroT Tryz.prog 59 = .ok (.agg #[(.int .i64 0), (.map none), (.map none), (.slice none 0 0), (.int .i64 0), (.int .i64 0)]) := by kernel_rfl
theorem sz60 : szT Tryz.prog 60 = .ok 6 := by kernel_rfl
theorem by60 : bytesT Tryz.prog 60 = .ok 64 := by kernel_rfl
theorem ag60 : aggT Tryz.prog 60 = .ok true := by kernel_rfl
theorem ze60 : zeroT Tryz.prog 60 = .ok (.agg #[(.int .i64 0), (.map none), (.map none), (.slice none 0 0), (.int .i64 0), (.int .i64 0)]) := by kernel_rfl
theorem sz61 : szT Tryz.prog 61 = .ok 1 := by kernel_rfl
theorem by61 : bytesT Tryz.prog 61 = .ok 8 := by kernel_rfl
theorem ag61 : aggT Tryz.prog 61 = .ok false := by kernel_rfl
theorem ze61 : zeroT Tryz.prog 61 = .ok (.nilFunc) := by kernel_rfl
theorem sz62 : szT Tryz.prog 62 = .ok 1 := by kernel_rfl
theorem by62 : bytesT Tryz.prog 62 = .ok 8 := by kernel_rfl
theorem ag62 : aggT Tryz.prog 62 = .ok false := by kernel_rfl
theorem ze62 : zeroT Tryz.prog 62 = .ok (.pointer none) := by kernel_rfl
theorem sz63 : szT Tryz.prog 63 = .ok 1 := by kernel_rfl
theorem by63 : bytesT Tryz.prog 63 = .ok 8 := by kernel_rfl
theorem ag63 : aggT Tryz.prog 63 = .ok false := by kernel_rfl
theorem ze63 : zeroT Tryz.prog 63 = .ok (.nilFunc) := by kernel_rfl
theorem sz64 : szT Tryz.prog 64 = .ok 1 := by kernel_rfl
theorem by64 : bytesT Tryz.prog 64 = .ok 8 := by kernel_rfl
theorem ag64 : aggT Tryz.prog 64 = .ok false := by kernel_rfl
theorem ze64 : zeroT Tryz.prog 64 = .ok (.map none) := by kernel_rfl
theorem sz65 : szT Tryz.prog 65 = .ok 1 := by kernel_rfl
theorem by65 : bytesT Tryz.prog 65 = .ok 8 := by kernel_rfl
theorem ag65 : aggT Tryz.prog 65 = .ok false := by kernel_rfl
theorem ze65 : zeroT Tryz.prog 65 = .ok (.pointer none) := by kernel_rfl
theorem sz66 : szT Tryz.prog 66 = .ok 1 := by kernel_rfl
theorem by66 : bytesT Tryz.prog 66 = .ok 24 := by kernel_rfl
theorem ag66 : aggT Tryz.prog 66 = .ok false := by kernel_rfl
theorem ze66 : zeroT Tryz.prog 66 = .ok (.slice none 0 0) := by kernel_rfl
theorem sz67 : szT Tryz.prog 67 = .ok 14 := by kernel_rfl
theorem by67 : bytesT Tryz.prog 67 = .ok 128 := by kernel_rfl
theorem ag67 : aggT Tryz.prog 67 = .ok true := by kernel_rfl
theorem ze67 : zeroT Tryz.prog 67 = .ok (.agg #[(.pointer none), (.int .i64 0), (.int .i64 0), (.int .i64 0), (.pointer none), (.pointer none), (.slice none 0 0), (.int .i64 0), (.int .u64 0), (.map none), (.bool false), (.int .i64 0), (.int .i64 0), (.int .i64 0)]) := by kernel_rfl
theorem sz68 : szT Tryz.prog 68 = .ok 14 := by kernel_rfl
theorem by68 : bytesT Tryz.prog 68 = .ok 128 := by kernel_rfl
theorem ag68 : aggT Tryz.prog 68 = .ok true := by kernel_rfl
theorem ze68 : zeroT Tryz.prog 68 = .ok (.agg #[(.pointer none), (.int .i64 0), (.int .i64 0), (.int .i64 0), (.pointer none), (.pointer none), (.slice none 0 0), (.int .i64 0), (.int .u64 0), (.map none), (.bool false), (.int .i64 0), (.int .i64 0), (.int .i64 0)]) := by kernel_rfl
theorem sz69 : szT Tryz.prog 69 = .ok 1 := by kernel_rfl
theorem by69 : bytesT Tryz.prog 69 = .ok 24 := by kernel_rfl
theorem ag69 : aggT Tryz.prog 69 = .ok false := by kernel_rfl
theorem ze69 : zeroT Tryz.prog 69 = .ok (.slice none 0 0) := by kernel_rfl
theorem sz70 : szT Tryz.prog 70 = .ok 4 := by kernel_rfl
theorem by70 : bytesT Tryz.prog 70 = .ok 48 := by kernel_rfl
theorem ag70 : aggT Tryz.prog 70 = .ok true := by kernel_rfl
theorem ze70 : zeroT Tryz.prog 70 = .ok (.agg #[(.slice none 0 0), (.int .i64 0), (.int .u64 0), (.int .i64 0)]) := by kernel_rfl
theorem sz71 : szT Tryz.prog 71 = .ok 4 := by kernel_rfl
theorem by71 : bytesT Tryz.prog 71 = .ok 48 := by kernel_rfl
theorem ag71 : aggT Tryz.prog 71 = .ok true := by kernel_rfl
theorem ze71 : zeroT Tryz.prog 71 = .ok (.agg #[(.slice none 0 0), (.int .i64 0), (.int .u64 0), (.int .i64 0)]) := by kernel_rfl
theorem sz72 : szT Tryz.prog 72 = .ok 1 := by kernel_rfl
theorem by72 : bytesT Tryz.prog 72 = .ok 0 := by kernel_rfl
theorem ag72 : aggT Tryz.prog 72 = .ok false := by kernel_rfl
theorem sz73 : szT Tryz.prog 73 = .ok 1 := by kernel_rfl
theorem by73 : bytesT Tryz.prog 73 = .ok 8 := by kernel_rfl
theorem ag73 : aggT Tryz.prog 73 = .ok false := by kernel_rfl
theorem ze73 : zeroT Tryz.prog 73 = .ok (.nilFunc) := by kernel_rfl
theorem sz74 : szT Tryz.prog 74 = .ok 1 := by kernel_rfl
theorem by74 : bytesT Tryz.prog 74 = .ok 8 := by kernel_rfl
theorem ag74 : aggT Tryz.prog 74 = .ok false := by kernel_rfl
theorem ze74 : zeroT Tryz.prog 74 = .ok (.nilFunc) := by kernel_rfl
theorem sz75 : szT Tryz.prog 75 = .ok 1 := by kernel_rfl
theorem by75 : bytesT Tryz.prog 75 = .ok 8 := by kernel_rfl
theorem ag75 : aggT Tryz.prog 75 = .ok false := by kernel_rfl
theorem ze75 : zeroT Tryz.prog 75 = .ok (.nilFunc) := by kernel_rfl
theorem sz76 : szT Tryz.prog 76 = .ok 1 := by kernel_rfl
theorem by76 : bytesT Tryz.prog 76 = .ok 8 := by kernel_rfl
theorem ag76 : aggT Tryz.prog 76 = .ok false := by kernel_rfl
theorem ze76 : zeroT Tryz.prog 76 = .ok (.nilFunc) := by kernel_rfl
theorem sz77 : szT Tryz.prog 77 = .ok 1 := by kernel_rfl
theorem by77 : bytesT Tryz.prog 77 = .ok 24 := by kernel_rfl
theorem ag77 : aggT Tryz.prog 77 = .ok false := by kernel_rfl
theorem ze77 : zeroT Tryz.prog 77 = .ok (.slice none 0 0) := by kernel_rfl
theorem sz78 : szT Tryz.prog 78 = .ok 1 := by kernel_rfl
theorem by78 : bytesT Tryz.prog 78 = .ok 0 := by kernel_rfl
theorem ag78 : aggT Tryz.prog 78 = .ok false := by kernel_rfl
theorem sz79 : szT Tryz.prog 79 = .ok 1 := by kernel_rfl
theorem by79 : bytesT Tryz.prog 79 = .ok 8 := by kernel_rfl
theorem ag79 : aggT Tryz.prog 79 = .ok false := by kernel_rfl
theorem ze79 : zeroT Tryz.prog 79 = .ok (.nilFunc) := by kernel_rfl
theorem sz80 : szT Tryz.prog 80 = .ok 1 := by kernel_rfl
theorem by80 : bytesT Tryz.prog 80 = .ok 24 := by kernel_rfl
theorem ag80 : aggT Tryz.prog 80 = .ok false := by kernel_rfl
theorem ze80 : zeroT Tryz.prog 80 = .ok (.slice none 0 0) := by kernel_rfl
theorem sz81 : szT Tryz.prog 81 = .ok 1 := by kernel_rfl
theorem by81 : bytesT Tryz.prog 81 = .ok 8 := by kernel_rfl
theorem ag81 : aggT Tryz.prog 81 = .ok false := by kernel_rfl
theorem ze81 : zeroT Tryz.prog 81 = .ok (.nilFunc) := by kernel_rfl
theorem sz82 : szT Tryz.prog 82 = .ok 1 := by kernel_rfl
theorem by82 : bytesT Tryz.prog 82 = .ok 8 := by kernel_rfl
theorem ag82 : aggT Tryz.prog 82 = .ok false := by kernel_rfl
theorem ze82 : zeroT Tryz.prog 82 = .ok (.nilFunc) := by kernel_rfl
theorem sz83 : szT Tryz.prog 83 = .ok 1 := by kernel_rfl
theorem by83 : bytesT Tryz.prog 83 = .ok 8 := by kernel_rfl
theorem ag83 : aggT Tryz.prog 83 = .ok false := by kernel_rfl
theorem ze83 : zeroT Tryz.prog 83 = .ok (.nilFunc) := by kernel_rfl
theorem sz84 : szT Tryz.prog 84 = .ok 1 := by kernel_rfl
theorem by84 : bytesT Tryz.prog 84 = .ok 8 := by kernel_rfl
theorem ag84 : aggT Tryz.prog 84 = .ok false := by kernel_rfl
theorem ze84 : zeroT Tryz.prog 84 = .ok (.nilFunc) := by kernel_rfl
theorem sz85 : szT Tryz.prog 85 = .ok 1 := by kernel_rfl
theorem by85 : bytesT Tryz.prog 85 = .ok 8 := by kernel_rfl
theorem ag85 : aggT Tryz.prog 85 = .ok false := by kernel_rfl
theorem ze85 : zeroT Tryz.prog 85 = .ok (.nilFunc) := by kernel_rfl
theorem sz86 : szT Tryz.prog 86 = .ok 1 := by kernel_rfl
theorem by86 : bytesT Tryz.prog 86 = .ok 8 := by kernel_rfl
theorem ag86 : aggT Tryz.prog 86 = .ok false := by kernel_rfl
theorem ze86 : zeroT Tryz.prog 86 = .ok (.nilFunc) := by kernel_rfl
theorem sz87 : szT Tryz.prog 87 = .ok 1 := by kernel_rfl
theorem by87 : bytesT Tryz.prog 87 = .ok 8 := by kernel_rfl
theorem ag87 : aggT Tryz.prog 87 = .ok false := by kernel_rfl
theorem ze87 : zeroT Tryz.prog 87 = .ok (.nilFunc) := by kernel_rfl
theorem sz88 : szT Tryz.prog 88 = .ok 1 := by kernel_rfl
theorem by88 : bytesT Tryz.prog 88 = .ok 8 := by kernel_rfl
theorem ag88 : aggT Tryz.prog 88 = .ok false := by kernel_rfl
theorem ze88 : zeroT Tryz.prog 88 = .ok (.nilFunc) := by kernel_rfl
theorem sz89 : szT Tryz.prog 89 = .ok 1 := by kernel_rfl
theorem by89 : bytesT Tryz.prog 89 = .ok 8 := by kernel_rfl
theorem ag89 : aggT Tryz.prog 89 = .ok false := by kernel_rfl
theorem ze89 : zeroT Tryz.prog 89 = .ok (.nilFunc) := by kernel_rfl
theorem sz90 : szT Tryz.prog 90 = .ok 1 := by kernel_rfl
theorem by90 : bytesT Tryz.prog 90 = .ok 8 := by kernel_rfl
theorem ag90 : aggT Tryz.prog 90 = .ok false := by kernel_rfl
theorem ze90 : zeroT Tryz.prog 90 = .ok (.nilFunc) := by kernel_rfl
theorem sz91 : szT Tryz.prog 91 = .ok 1 := by kernel_rfl
theorem by91 : bytesT Tryz.prog 91 = .ok 24 := by kernel_rfl
theorem ag91 : aggT Tryz.prog 91 = .ok false := by kernel_rfl
theorem ze91 : zeroT Tryz.prog 91 = .ok (.slice none 0 0) := by kernel_rfl
theorem sz92 : szT Tryz.prog 92 = .ok 1 := by kernel_rfl
theorem by92 : bytesT Tryz.prog 92 = .ok 8 := by kernel_rfl
theorem ag92 : aggT Tryz.prog 92 = .ok false := by kernel_rfl
theorem ze92 : zeroT Tryz.prog 92 = .ok (.nilFunc) := by kernel_rfl
theorem sz93 : szT Tryz.prog 93 = .ok 1 := by kernel_rfl
theorem by93 : bytesT Tryz.prog 93 = .ok 8 := by kernel_rfl
theorem ag93 : aggT Tryz.prog 93 = .ok false := by kernel_rfl
theorem ze93 : zeroT Tryz.prog 93 = .ok (.pointer none) := by kernel_rfl
theorem sz94 : szT Tryz.prog 94 = .ok 3 := by kernel_rfl
theorem by94 : bytesT Tryz.prog 94 = .ok 40 := by kernel_rfl
theorem ag94 : aggT Tryz.prog 94 = .ok true := by kernel_rfl
theorem ze94 : zeroT Tryz.prog 94 = .ok (.agg #[(.string ⟨⟨[]⟩⟩), (.pointer none), (.string ⟨⟨[]⟩⟩)]) := by kernel_rfl
theorem sz95 : szT Tryz.prog 95 = .ok 3 := by kernel_rfl
theorem by95 : bytesT Tryz.prog 95 = .ok 40 := by kernel_rfl
theorem ag95 : aggT Tryz.prog 95 = .ok true := by kernel_rfl
theorem ze95 : zeroT Tryz.prog 95 = .ok (.agg #[(.string ⟨⟨[]⟩⟩), (.pointer none), (.string ⟨⟨[]⟩⟩)]) := by kernel_rfl
theorem sz96 : szT Tryz.prog 96 = .ok 1 := by kernel_rfl
theorem by96 : bytesT Tryz.prog 96 = .ok 8 := by kernel_rfl
theorem ag96 : aggT Tryz.prog 96 = .ok false := by kernel_rfl
theorem ze96 : zeroT Tryz.prog 96 = .ok (.nilFunc) := by kernel_rfl
theorem sz97 : szT Tryz.prog 97 = .ok 1 := by kernel_rfl
theorem by97 : bytesT Tryz.prog 97 = .ok 8 := by kernel_rfl
theorem ag97 : aggT Tryz.prog 97 = .ok false := by kernel_rfl
theorem ze97 : zeroT Tryz.prog 97 = .ok (.nilFunc) := by kernel_rfl
theorem sz98 : szT Tryz.prog 98 = .ok 1 := by kernel_rfl
theorem by98 : bytesT Tryz.prog 98 = .ok 24 := by kernel_rfl
theorem ag98 : aggT Tryz.prog 98 = .ok false := by kernel_rfl
theorem ze98 : zeroT Tryz.prog 98 = .ok (.slice none 0 0) := by kernel_rfl
theorem sz99 : szT Tryz.prog 99 = .ok 1 := by kernel_rfl
theorem by99 : bytesT Tryz.prog 99 = .ok 8 := by kernel_rfl
theorem ag99 : aggT Tryz.prog 99 = .ok false := by kernel_rfl
theorem ze99 : zeroT Tryz.prog 99 = .ok (.nilFunc) := by kernel_rfl
theorem sz100 : szT Tryz.prog 100 = .ok 2 := by kernel_rfl
theorem by100 : bytesT Tryz.prog 100 = .ok 32 := by kernel_rfl
theorem ag100 : aggT Tryz.prog 100 = .ok true := by kernel_rfl
theorem ze100 : zeroT Tryz.prog 100 = .ok (.agg #[(.slice none 0 0), (.int .i64 0)]) := by kernel_rfl
theorem sz101 : szT Tryz.prog 101 = .ok 2 := by kernel_rfl
theorem by101 : bytesT Tryz.prog 101 = .ok 32 := by kernel_rfl
theorem ag101 : aggT Tryz.prog 101 = .ok true := by kernel_rfl
theorem ze101 : zeroT Tryz.prog 101 = .ok (.agg #[(.slice none 0 0), (.int .i64 0)]) := by kernel_rfl
theorem sz102 : szT Tryz.prog 102 = .ok 1 := by kernel_rfl
theorem by102 : bytesT Tryz.prog 102 = .ok 8 := by kernel_rfl
theorem ag102 : aggT Tryz.prog 102 = .ok false := by kernel_rfl
theorem ze102 : zeroT Tryz.prog 102 = .ok (.nilFunc) := by kernel_rfl
theorem sz103 : szT Tryz.prog 103 = .ok 1 := by kernel_rfl
theorem by103 : bytesT Tryz.prog 103 = .ok 24 := by kernel_rfl
theorem ag103 : aggT Tryz.prog 103 = .ok false := by kernel_rfl
theorem ze103 : zeroT Tryz.prog 103 = .ok (.slice none 0 0) := by kernel_rfl
theorem sz104 : szT Tryz.prog 104 = .ok 4 := by kernel_rfl
theorem by104 : bytesT Tryz.prog 104 = .ok 48 := by kernel_rfl
theorem ag104 : aggT Tryz.prog 104 = .ok true := by kernel_rfl
theorem ze104 : zeroT Tryz.prog 104 = .ok (.agg #[(.string ⟨⟨[]⟩⟩), (.int .u64 0), (.bool false), (.string ⟨⟨[]⟩⟩)]) := by kernel_rfl
theorem sz105 : szT Tryz.prog 105 = .ok 4 := by kernel_rfl
theorem by105 : bytesT Tryz.prog 105 = .ok 48 := by kernel_rfl
theorem ag105 : aggT Tryz.prog 105 = .ok true := by kernel_rfl
theorem ze105 : zeroT Tryz.prog 105 = .ok (.agg #[(.string ⟨⟨[]⟩⟩), (.int .u64 0), (.bool false), (.string ⟨⟨[]⟩⟩)]) := by kernel_rfl
theorem sz106 : szT Tryz.prog 106 = .ok 5 := by kernel_rfl
theorem by106 : bytesT Tryz.prog 106 = .ok 72 := by kernel_rfl
theorem ag106 : aggT Tryz.prog 106 = .ok true := by kernel_rfl
theorem ze106 : zeroT Tryz.prog 106 = .ok (.agg #[(.string ⟨⟨[]⟩⟩), (.int .u64 0), (.bool false), (.string ⟨⟨[]⟩⟩), (.slice none 0 0)]) := by kernel_rfl
theorem sz107 : szT Tryz.prog 107 = .ok 5 := by kernel_rfl
theorem by107 : bytesT Tryz.prog 107 = .ok 72 := by kernel_rfl
theorem ag107 : aggT Tryz.prog 107 = .ok true := by kernel_rfl
theorem ze107 : zeroT Tryz.prog 107 = .ok (.agg #[(.string ⟨⟨[]⟩⟩), (.int .u64 0), (.bool false), (.string ⟨⟨[]⟩⟩), (.slice none 0 0)]) := by kernel_rfl
theorem sz108 : szT Tryz.prog 108 = .ok 7 := by kernel_rfl
theorem by108 : bytesT Tryz.prog 108 = .ok 88 := by kernel_rfl
theorem ag108 : aggT Tryz.prog 108 = .ok true := by kernel_rfl
theorem ze108 : zeroT Tryz.prog 108 = .ok (.agg #[(.string ⟨⟨[]⟩⟩), (.int .u64 0), (.bool false), (.string ⟨⟨[]⟩⟩), (.slice none 0 0), (.int .i64 0), (.int .i64 0)]) := by kernel_rfl
theorem sz109 : szT Tryz.prog 109 = .ok 7 := by kernel_rfl
theorem by109 : bytesT Tryz.prog 109 = .ok 88 := by kernel_rfl
theorem ag109 : aggT Tryz.prog 109 = .ok true := by kernel_rfl
theorem ze109 : zeroT Tryz.prog 109 = .ok (.agg #[(.string ⟨⟨[]⟩⟩), (.int .u64 0), (.bool false), (.string ⟨⟨[]⟩⟩), (.slice none 0 0), (.int .i64 0), (.int .i64 0)]) := by kernel_rfl
theorem sz110 : szT Tryz.prog 110 = .ok 1 := by kernel_rfl
theorem by110 : bytesT Tryz.prog 110 = .ok 0 := by kernel_rfl
theorem ag110 : aggT Tryz.prog 110 = .ok false := by kernel_rfl
theorem sz111 : szT Tryz.prog 111 = .ok 1 := by kernel_rfl
theorem by111 : bytesT Tryz.prog 111 = .ok 8 := by kernel_rfl
theorem ag111 : aggT Tryz.prog 111 = .ok false := by kernel_rfl
theorem ze111 : zeroT Tryz.prog 111 = .ok (.nilFunc) := by kernel_rfl
theorem sz112 : szT Tryz.prog 112 = .ok 1 := by kernel_rfl
theorem by112 : bytesT Tryz.prog 112 = .ok 0 := by kernel_rfl
theorem ag112 : aggT Tryz.prog 112 = .ok false := by kernel_rfl
theorem sz113 : szT Tryz.prog 113 = .ok 1 := by kernel_rfl
theorem by113 : bytesT Tryz.prog 113 = .ok 8 := by kernel_rfl
theorem ag113 : aggT Tryz.prog 113 = .ok false := by kernel_rfl
theorem ze113 : zeroT Tryz.prog 113 = .ok (.nilFunc) := by kernel_rfl
theorem sz114 : szT Tryz.prog 114 = .ok 1 := by kernel_rfl
theorem by114 : bytesT Tryz.prog 114 = .ok 8 := by kernel_rfl
theorem ag114 : aggT Tryz.prog 114 = .ok false := by kernel_rfl
theorem ze114 : zeroT Tryz.prog 114 = .ok (.nilFunc) := by kernel_rfl
theorem sz115 : szT Tryz.prog 115 = .ok 4 := by kernel_rfl
theorem by115 : bytesT Tryz.prog 115 = .ok 48 := by kernel_rfl
theorem ag115 : aggT Tryz.prog 115 = .ok true := by kernel_rfl
theorem ze115 : zeroT Tryz.prog 115 = .ok (.agg #[(.int .i64 0), (.int .i64 0), (.string ⟨⟨[]⟩⟩), (.string ⟨⟨[]⟩⟩)]) := by kernel_rfl
theorem sz116 : szT Tryz.prog 116 = .ok 4 := by kernel_rfl
theorem by116 : bytesT Tryz.prog 116 = .ok 48 := by kernel_rfl
theorem ag116 : aggT Tryz.prog 116 = .ok true := by kernel_rfl
theorem ze116 : zeroT Tryz.prog 116 = .ok (.agg #[(.int .i64 0), (.int .i64 0), (.string ⟨⟨[]⟩⟩), (.string ⟨⟨[]⟩⟩)]) := by kernel_rfl
theorem sz117 : szT Tryz.prog 117 = .ok 1 := by kernel_rfl
theorem by117 : bytesT Tryz.prog 117 = .ok 8 := by kernel_rfl
theorem ag117 : aggT Tryz.prog 117 = .ok false := by kernel_rfl
theorem ze117 : zeroT Tryz.prog 117 = .ok (.pointer none) := by kernel_rfl
theorem sz118 : szT Tryz.prog 118 = .ok 0 := by kernel_rfl
theorem by118 : bytesT Tryz.prog 118 = .ok 0 := by kernel_rfl
theorem ag118 : aggT Tryz.prog 118 = .ok true := by kernel_rfl
theorem ze118 : zeroT Tryz.prog 118 = .ok (.agg #[]) := by kernel_rfl
theorem sz119 : szT Tryz.prog 119 = .ok 1 := by kernel_rfl
theorem by119 : bytesT Tryz.prog 119 = .ok 4 := by kernel_rfl
theorem ag119 : aggT Tryz.prog 119 = .ok false := by kernel_rfl
theorem ze119 : zeroT Tryz.prog 119 = .ok (.int .u32 0) := by kernel_rfl
theorem sz120 : szT Tryz.prog 120 = .ok 1 := by kernel_rfl
theorem by120 : bytesT Tryz.prog 120 = .ok 4 := by kernel_rfl
theorem ag120 : aggT Tryz.prog 120 = .ok true := by kernel_rfl
theorem ze120 : zeroT Tryz.prog 120 = .ok (.agg #[(.int .u32 0)]) := by kernel_rfl
theorem sz121 : szT Tryz.prog 121 = .ok 1 := by kernel_rfl
theorem by121 : bytesT Tryz.prog 121 = .ok 4 := by kernel_rfl
theorem ag121 : aggT Tryz.prog 121 = .ok true := by kernel_rfl
theorem ze121 : zeroT Tryz.prog 121 = .ok (.agg #[(.int .u32 0)]) := by kernel_rfl
theorem sz122 : szT Tryz.prog 122 = .ok 2 := by kernel_rfl
theorem by122 : bytesT Tryz.prog 122 = .ok 8 := by kernel_rfl
theorem ag122 : aggT Tryz.prog 122 = .ok true := by kernel_rfl
theorem ze122 : zeroT Tryz.prog 122 = .ok (.agg #[(.int .i32 0), (.int .u32 0)]) := by kernel_rfl
theorem sz123 : szT Tryz.prog 123 = .ok 2 := by kernel_rfl
theorem by123 : bytesT Tryz.prog 123 = .ok 8 := by kernel_rfl
theorem ag123 : aggT Tryz.prog 123 = .ok true := by kernel_rfl
theorem ze123 : zeroT Tryz.prog 123 = .ok (.agg #[(.int .i32 0), (.int .u32 0)]) := by kernel_rfl
theorem sz124 : szT Tryz.prog 124 = .ok 2 := by kernel_rfl
theorem by124 : bytesT Tryz.prog 124 = .ok 8 := by kernel_rfl
theorem ag124 : aggT Tryz.prog 124 = .ok true := by kernel_rfl
theorem ze124 : zeroT Tryz.prog 124 = .ok (.agg #[(.int .i32 0), (.int .u32 0)]) := by kernel_rfl
theorem sz125 : szT Tryz.prog 125 = .ok 2 := by kernel_rfl
theorem by125 : bytesT Tryz.prog 125 = .ok 8 := by kernel_rfl
theorem ag125 : aggT Tryz.prog 125 = .ok true := by kernel_rfl
theorem ze125 : zeroT Tryz.prog 125 = .ok (.agg #[(.int .i32 0), (.int .u32 0)]) := by kernel_rfl
theorem sz126 : szT Tryz.prog 126 = .ok 3 := by kernel_rfl
theorem by126 : bytesT Tryz.prog 126 = .ok 12 := by kernel_rfl
theorem ag126 : aggT Tryz.prog 126 = .ok true := by kernel_rfl
theorem ze126 : zeroT Tryz.prog 126 = .ok (.agg #[(.int .u32 0), (.int .i32 0), (.int .u32 0)]) := by kernel_rfl
theorem sz127 : szT Tryz.prog 127 = .ok 3 := by kernel_rfl
theorem by127 : bytesT Tryz.prog 127 = .ok 12 := by kernel_rfl
theorem ag127 : aggT Tryz.prog 127 = .ok true := by kernel_rfl
theorem ze127 : zeroT Tryz.prog 127 = .ok (.agg #[(.int .u32 0), (.int .i32 0), (.int .u32 0)]) := by kernel_rfl
theorem sz128 : szT Tryz.prog 128 = .ok 1 := by kernel_rfl
theorem by128 : bytesT Tryz.prog 128 = .ok 8 := by kernel_rfl
theorem ag128 : aggT Tryz.prog 128 = .ok false := by kernel_rfl
theorem ze128 : zeroT Tryz.prog 128 = .ok (.pointer none) := by kernel_rfl
theorem sz129 : szT Tryz.prog 129 = .ok 10 := by kernel_rfl
theorem by129 : bytesT Tryz.prog 129 = .ok 88 := by kernel_rfl
theorem ag129 : aggT Tryz.prog 129 = .ok true := by kernel_rfl
theorem ze129 : zeroT Tryz.prog 129 = .ok (.agg #[(.int .i64 0), (.int .i64 0), (.string ⟨⟨[]⟩⟩), (.string ⟨⟨[]⟩⟩), (.pointer none), (.int .u32 0), (.int .i32 0), (.int .u32 0), (.pointer none), (.int .i64 0)]) := by kernel_rfl
theorem sz130 : szT Tryz.prog 130 = .ok 10 := by kernel_rfl
theorem by130 : bytesT Tryz.prog 130 = .ok 88 := by kernel_rfl
theorem ag130 : aggT Tryz.prog 130 = .ok true := by kernel_rfl
theorem ze130 : zeroT Tryz.prog 130 = .ok (.agg #[(.int .i64 0), (.int .i64 0), (.string ⟨⟨[]⟩⟩), (.string ⟨⟨[]⟩⟩), (.pointer none), (.int .u32 0), (.int .i32 0), (.int .u32 0), (.pointer none), (.int .i64 0)]) := by kernel_rfl
theorem sz131 : szT Tryz.prog 131 = .ok 1 := by kernel_rfl
theorem by131 : bytesT Tryz.prog 131 = .ok 0 := by kernel_rfl
theorem ag131 : aggT Tryz.prog 131 = .ok false := by kernel_rfl
theorem sz132 : szT Tryz.prog 132 = .ok 1 := by kernel_rfl
theorem by132 : bytesT Tryz.prog 132 = .ok 8 := by kernel_rfl
theorem ag132 : aggT Tryz.prog 132 = .ok false := by kernel_rfl
theorem ze132 : zeroT Tryz.prog 132 = .ok (.nilFunc) := by kernel_rfl
theorem sz133 : szT Tryz.prog 133 = .ok 1 := by kernel_rfl
theorem by133 : bytesT Tryz.prog 133 = .ok 8 := by kernel_rfl
theorem ag133 : aggT Tryz.prog 133 = .ok false := by kernel_rfl
theorem ze133 : zeroT Tryz.prog 133 = .ok (.map none) := by kernel_rfl
theorem sz134 : szT Tryz.prog 134 = .ok 1 := by kernel_rfl
theorem by134 : bytesT Tryz.prog 134 = .ok 8 := by kernel_rfl
theorem ag134 : aggT Tryz.prog 134 = .ok false := by kernel_rfl
theorem ze134 : zeroT Tryz.prog 134 = .ok (.nilFunc) := by kernel_rfl
theorem sz135 : szT Tryz.prog 135 = .ok 1 := by kernel_rfl
theorem by135 : bytesT Tryz.prog 135 = .ok 8 := by kernel_rfl
theorem ag135 : aggT Tryz.prog 135 = .ok false := by kernel_rfl
theorem ze135 : zeroT Tryz.prog 135 = .ok (.nilFunc) := by kernel_rfl
theorem sz136 : szT Tryz.prog 136 = .ok 1 := by kernel_rfl
theorem by136 : bytesT Tryz.prog 136 = .ok 8 := by kernel_rfl
theorem ag136 : aggT Tryz.prog 136 = .ok false := by kernel_rfl
theorem ze136 : zeroT Tryz.prog 136 = .ok (.nilFunc) := by kernel_rfl
theorem sz137 : szT Tryz.prog 137 = .ok 7 := by kernel_rfl
theorem by137 : bytesT Tryz.prog 137 = .ok 64 := by kernel_rfl
theorem ag137 : aggT Tryz.prog 137 = .ok true := by kernel_rfl
theorem ze137 : zeroT Tryz.prog 137 = .ok (.agg #[(.pointer none), (.string ⟨⟨[]⟩⟩), (.int .i64 0), (.int .i64 0), (.int .i64 0), (.int .i64 0), (.int .i64 0)]) := by kernel_rfl
theorem sz138 : szT Tryz.prog 138 = .ok 7 := by kernel_rfl
theorem by138 : bytesT Tryz.prog 138 = .ok 64 := by kernel_rfl
theorem ag138 : aggT Tryz.prog 138 = .ok true := by kernel_rfl
theorem ze138 : zeroT Tryz.prog 138 = .ok (.agg #[(.pointer none), (.string ⟨⟨[]⟩⟩), (.int .i64 0), (.int .i64 0), (.int .i64 0), (.int .i64 0), (.int .i64 0)]) := by kernel_rfl
theorem sz139 : szT Tryz.prog 139 = .ok 1 := by kernel_rfl
theorem by139 : bytesT Tryz.prog 139 = .ok 8 := by kernel_rfl
theorem ag139 : aggT Tryz.prog 139 = .ok false := by kernel_rfl
theorem ze139 : zeroT Tryz.prog 139 = .ok (.nilFunc) := by kernel_rfl
theorem sz140 : szT Tryz.prog 140 = .ok 1 := by kernel_rfl
theorem by140 : bytesT Tryz.prog 140 = .ok 8 := by kernel_rfl
theorem ag140 : aggT Tryz.prog 140 = .ok false := by kernel_rfl
theorem ze140 : zeroT Tryz.prog 140 = .ok (.nilFunc) := by kernel_rfl
theorem sz141 : szT Tryz.prog 141 = .ok 1 := by kernel_rfl
theorem by141 : bytesT Tryz.prog 141 = .ok 0 := by kernel_rfl
theorem ag141 : aggT Tryz.prog 141 = .ok false := by kernel_rfl
theorem sz142 : szT Tryz.prog 142 = .ok 1 := by kernel_rfl
theorem by142 : bytesT Tryz.prog 142 = .ok 8 := by kernel_rfl
theorem ag142 : aggT Tryz.prog 142 = .ok false := by kernel_rfl
theorem ze142 : zeroT Tryz.prog 142 = .ok (.nilFunc) := by kernel_rfl
theorem sz143 : szT Tryz.prog 143 = .ok 1 := by kernel_rfl
theorem by143 : bytesT Tryz.prog 143 = .ok 0 := by kernel_rfl
theorem ag143 : aggT Tryz.prog 143 = .ok false := by kernel_rfl
theorem sz144 : szT Tryz.prog 144 = .ok 1 := by kernel_rfl
theorem by144 : bytesT Tryz.prog 144 = .ok 8 := by kernel_rfl
theorem ag144 : aggT Tryz.prog 144 = .ok false := by kernel_rfl
theorem ze144 : zeroT Tryz.prog 144 = .ok (.nilFunc) := by kernel_rfl
theorem sz145 : szT Tryz.prog 145 = .ok 1 := by kernel_rfl
theorem by145 : bytesT Tryz.prog 145 = .ok 8 := by kernel_rfl
theorem ag145 : aggT Tryz.prog 145 = .ok false := by kernel_rfl
theorem ze145 : zeroT Tryz.prog 145 = .ok (.nilFunc) := by kernel_rfl
theorem sz146 : szT Tryz.prog 146 = .ok 1 := by kernel_rfl
theorem by146 : bytesT Tryz.prog 146 = .ok 8 := by kernel_rfl
theorem ag146 : aggT Tryz.prog 146 = .ok false := by kernel_rfl
theorem ze146 : zeroT Tryz.prog 146 = .ok (.nilFunc) := by kernel_rfl
theorem sz147 : szT Tryz.prog 147 = .ok 1 := by kernel_rfl
theorem by147 : bytesT Tryz.prog 147 = .ok 8 := by kernel_rfl
theorem ag147 : aggT Tryz.prog 147 = .ok false := by kernel_rfl
theorem ze147 : zeroT Tryz.prog 147 = .ok (.nilFunc) := by kernel_rfl
theorem sz148 : szT Tryz.prog 148 = .ok 1 := by kernel_rfl
theorem by148 : bytesT Tryz.prog 148 = .ok 8 := by kernel_rfl
theorem ag148 : aggT Tryz.prog 148 = .ok false := by kernel_rfl
theorem ze148 : zeroT Tryz.prog 148 = .ok (.nilFunc) := by kernel_rfl
theorem sz149 : szT Tryz.prog 149 = .ok 1 := by kernel_rfl
theorem by149 : bytesT Tryz.prog 149 = .ok 8 := by kernel_rfl
theorem ag149 : aggT Tryz.prog 149 = .ok false := by kernel_rfl
theorem ze149 : zeroT Tryz.prog 149 = .ok (.nilFunc) := by kernel_rfl
theorem sz150 : szT Tryz.prog 150 = .ok 1 := by kernel_rfl
theorem by150 : bytesT Tryz.prog 150 = .ok 8 := by kernel_rfl
theorem ag150 : aggT Tryz.prog 150 = .ok false := by kernel_rfl
theorem ze150 : zeroT Tryz.prog 150 = .ok (.pointer none) := by kernel_rfl
theorem sz151 : szT Tryz.prog 151 = .ok 1 := by kernel_rfl
theorem by151 : bytesT Tryz.prog 151 = .ok 8 := by kernel_rfl
theorem ag151 : aggT Tryz.prog 151 = .ok false := by kernel_rfl
theorem ze151 : zeroT Tryz.prog 151 = .ok (.nilFunc) := by kernel_rfl
theorem sz152 : szT Tryz.prog 152 = .ok 1 := by kernel_rfl
theorem by152 : bytesT Tryz.prog 152 = .ok 8 := by kernel_rfl
theorem ag152 : aggT Tryz.prog 152 = .ok false := by kernel_rfl
theorem ze152 : zeroT Tryz.prog 152 = .ok (.pointer none) := by kernel_rfl
theorem sz153 : szT Tryz.prog 153 = .ok 1 := by kernel_rfl
theorem by153 : bytesT Tryz.prog 153 = .ok 0 := by kernel_rfl
theorem ag153 : aggT Tryz.prog 153 = .ok false := by kernel_rfl
theorem sz154 : szT Tryz.prog 154 = .ok 1 := by kernel_rfl
theorem by154 : bytesT Tryz.prog 154 = .ok 8 := by kernel_rfl
theorem ag154 : aggT Tryz.prog 154 = .ok false := by kernel_rfl
theorem ze154 : zeroT Tryz.prog 154 = .ok (.nilFunc) := by kernel_rfl
theorem sz155 : szT Tryz.prog 155 = .ok 1 := by kernel_rfl
theorem by155 : bytesT Tryz.prog 155 = .ok 24 := by kernel_rfl
theorem ag155 : aggT Tryz.prog 155 = .ok false := by kernel_rfl
theorem ze155 : zeroT Tryz.prog 155 = .ok (.slice none 0 0) := by kernel_rfl
theorem sz156 : szT Tryz.prog 156 = .ok 1 := by kernel_rfl
theorem by156 : bytesT Tryz.prog 156 = .ok 8 := by kernel_rfl
theorem ag156 : aggT Tryz.prog 156 = .ok false := by kernel_rfl
theorem ze156 : zeroT Tryz.prog 156 = .ok (.nilFunc) := by kernel_rfl
theorem sz157 : szT Tryz.prog 157 = .ok 1 := by kernel_rfl
theorem by157 : bytesT Tryz.prog 157 = .ok 8 := by kernel_rfl
theorem ag157 : aggT Tryz.prog 157 = .ok false := by kernel_rfl
theorem ze157 : zeroT Tryz.prog 157 = .ok (.nilFunc) := by kernel_rfl
theorem sz158 : szT Tryz.prog 158 = .ok 1 := by kernel_rfl
theorem by158 : bytesT Tryz.prog 158 = .ok 8 := by kernel_rfl
theorem ag158 : aggT Tryz.prog 158 = .ok false := by kernel_rfl
theorem ze158 : zeroT Tryz.prog 158 = .ok (.nilFunc) := by kernel_rfl
theorem sz159 : szT Tryz.prog 159 = .ok 1 := by kernel_rfl
theorem by159 : bytesT Tryz.prog 159 = .ok 8 := by kernel_rfl
theorem ag159 : aggT Tryz.prog 159 = .ok false := by kernel_rfl
theorem ze159 : zeroT Tryz.prog 159 = .ok (.nilFunc) := by kernel_rfl
theorem sz160 : szT Tryz.prog 160 = .ok 1 := by kernel_rfl
theorem by160 : bytesT Tryz.prog 160 = .ok 24 := by kernel_rfl
theorem ag160 : aggT Tryz.prog 160 = .ok false := by kernel_rfl
theorem ze160 : zeroT Tryz.prog 160 = .ok (.slice none 0 0) := by kernel_rfl
theorem sz161 : szT Tryz.prog 161 = .ok 1 := by kernel_rfl
theorem by161 : bytesT Tryz.prog 161 = .ok 8 := by kernel_rfl
theorem ag161 : aggT Tryz.prog 161 = .ok false := by kernel_rfl
theorem ze161 : zeroT Tryz.prog 161 = .ok (.nilFunc) := by kernel_rfl
theorem sz162 : szT Tryz.prog 162 = .ok 1 := by kernel_rfl
theorem by162 : bytesT Tryz.prog 162 = .ok 8 := by kernel_rfl
theorem ag162 : aggT Tryz.prog 162 = .ok false := by kernel_rfl
theorem ze162 : zeroT Tryz.prog 162 = .ok (.nilFunc) := by kernel_rfl
theorem sz163 : szT Tryz.prog 163 = .ok 1 := by kernel_rfl
theorem by163 : bytesT Tryz.prog 163 = .ok 8 := by kernel_rfl
theorem ag163 : aggT Tryz.prog 163 = .ok false := by kernel_rfl
theorem ze163 : zeroT Tryz.prog 163 = .ok (.nilFunc) := by kernel_rfl
theorem sz164 : szT Tryz.prog 164 = .ok 1 := by kernel_rfl
theorem by164 : bytesT Tryz.prog 164 = .ok 8 := by kernel_rfl
theorem ag164 : aggT Tryz.prog 164 = .ok false := by kernel_rfl
theorem ze164 : zeroT Tryz.prog 164 = .ok (.nilFunc) := by kernel_rfl
theorem sz165 : szT Tryz.prog 165 = .ok 1 := by kernel_rfl
theorem by165 : bytesT Tryz.prog 165 = .ok 0 := by kernel_rfl
theorem ag165 : aggT Tryz.prog 165 = .ok false := by kernel_rfl
theorem sz166 : szT Tryz.prog 166 = .ok 1 := by kernel_rfl
theorem by166 : bytesT Tryz.prog 166 = .ok 8 := by kernel_rfl
theorem ag166 : aggT Tryz.prog 166 = .ok false := by kernel_rfl
theorem ze166 : zeroT Tryz.prog 166 = .ok (.nilFunc) := by kernel_rfl
theorem sz167 : szT Tryz.prog 167 = .ok 1 := by kernel_rfl
theorem by167 : bytesT Tryz.prog 167 = .ok 8 := by kernel_rfl
theorem ag167 : aggT Tryz.prog 167 = .ok false := by kernel_rfl
theorem ze167 : zeroT Tryz.prog 167 = .ok (.nilFunc) := by kernel_rfl
theorem sz168 : szT Tryz.prog 168 = .ok 1 := by kernel_rfl
theorem by168 : bytesT Tryz.prog 168 = .ok 24 := by kernel_rfl
theorem ag168 : aggT Tryz.prog 168 = .ok false := by kernel_rfl
theorem ze168 : zeroT Tryz.prog 168 = .ok (.slice none 0 0) := by kernel_rfl
theorem sz169 : szT Tryz.prog 169 = .ok 1 := by kernel_rfl
theorem by169 : bytesT Tryz.prog 169 = .ok 8 := by kernel_rfl
theorem ag169 : aggT Tryz.prog 169 = .ok false := by kernel_rfl
theorem ze169 : zeroT Tryz.prog 169 = .ok (.nilFunc) := by kernel_rfl
theorem sz170 : szT Tryz.prog 170 = .ok 1 := by kernel_rfl
theorem by170 : bytesT Tryz.prog 170 = .ok 8 := by kernel_rfl
theorem ag170 : aggT Tryz.prog 170 = .ok false := by kernel_rfl
theorem ze170 : zeroT Tryz.prog 170 = .ok (.nilFunc) := by kernel_rfl
theorem sz171 : szT Tryz.prog 171 = .ok 1 := by kernel_rfl
theorem by171 : bytesT Tryz.prog 171 = .ok 8 := by kernel_rfl
theorem ag171 : aggT Tryz.prog 171 = .ok false := by kernel_rfl
theorem ze171 : zeroT Tryz.prog 171 = .ok (.nilFunc) := by kernel_rfl
theorem sz172 : szT Tryz.prog 172 = .ok 1 := by kernel_rfl
theorem by172 : bytesT Tryz.prog 172 = .ok 8 := by kernel_rfl
theorem ag172 : aggT Tryz.prog 172 = .ok false := by kernel_rfl
theorem ze172 : zeroT Tryz.prog 172 = .ok (.nilFunc) := by kernel_rfl
theorem sz173 : szT Tryz.prog 173 = .ok 1 := by kernel_rfl
theorem by173 : bytesT Tryz.prog 173 = .ok 8 := by kernel_rfl
theorem ag173 : aggT Tryz.prog 173 = .ok false := by kernel_rfl
theorem ze173 : zeroT Tryz.prog 173 = .ok (.nilFunc) := by kernel_rfl
theorem sz174 : szT Tryz.prog 174 = .ok 1 := by kernel_rfl
theorem by174 : bytesT Tryz.prog 174 = .ok 8 := by kernel_rfl
theorem ag174 : aggT Tryz.prog 174 = .ok false := by kernel_rfl
theorem ze174 : zeroT Tryz.prog 174 = .ok (.nilFunc) := by kernel_rfl
theorem sz175 : szT Tryz.prog 175 = .ok 1 := by kernel_rfl
theorem by175 : bytesT Tryz.prog 175 = .ok 8 := by kernel_rfl
theorem ag175 : aggT Tryz.prog 175 = .ok false := by kernel_rfl
theorem ze175 : zeroT Tryz.prog 175 = .ok (.nilFunc) := by kernel_rfl
theorem sz176 : szT Tryz.prog 176 = .ok 1 := by kernel_rfl
theorem by176 : bytesT Tryz.prog 176 = .ok 8 := by kernel_rfl
theorem ag176 : aggT Tryz.prog 176 = .ok false := by kernel_rfl
theorem ze176 : zeroT Tryz.prog 176 = .ok (.nilFunc) := by kernel_rfl
theorem sz177 : szT Tryz.prog 177 = .ok 1 := by kernel_rfl
theorem by177 : bytesT Tryz.prog 177 = .ok 8 := by kernel_rfl
theorem ag177 : aggT Tryz.prog 177 = .ok false := by kernel_rfl
theorem ze177 : zeroT Tryz.prog 177 = .ok (.nilFunc) := by kernel_rfl
theorem sz178 : szT Tryz.prog 178 = .ok 1 := by kernel_rfl
theorem by178 : bytesT Tryz.prog 178 = .ok 8 := by kernel_rfl
theorem ag178 : aggT Tryz.prog 178 = .ok false := by kernel_rfl
theorem ze178 : zeroT Tryz.prog 178 = .ok (.nilFunc) := by kernel_rfl
theorem sz179 : szT Tryz.prog 179 = .ok 1 := by kernel_rfl
theorem by179 : bytesT Tryz.prog 179 = .ok 8 := by kernel_rfl
theorem ag179 : aggT Tryz.prog 179 = .ok false := by kernel_rfl
theorem ze179 : zeroT Tryz.prog 179 = .ok (.nilFunc) := by kernel_rfl
theorem sz180 : szT Tryz.prog 180 = .ok 1 := by kernel_rfl
theorem by180 : bytesT Tryz.prog 180 = .ok 8 := by kernel_rfl
theorem ag180 : aggT Tryz.prog 180 = .ok false := by kernel_rfl
theorem ze180 : zeroT Tryz.prog 180 = .ok (.pointer none) := by kernel_rfl
theorem sz181 : szT Tryz.prog 181 = .ok 1 := by kernel_rfl
theorem by181 : bytesT Tryz.prog 181 = .ok 8 := by kernel_rfl
theorem ag181 : aggT Tryz.prog 181 = .ok false := by kernel_rfl
theorem ze181 : zeroT Tryz.prog 181 = .ok (.nilFunc) := by kernel_rfl
theorem sz182 : szT Tryz.prog 182 = .ok 1 := by kernel_rfl
theorem by182 : bytesT Tryz.prog 182 = .ok 8 := by kernel_rfl
theorem ag182 : aggT Tryz.prog 182 = .ok false := by kernel_rfl
theorem ze182 : zeroT Tryz.prog 182 = .ok (.nilFunc) := by kernel_rfl
theorem sz183 : szT Tryz.prog 183 = .ok 1 := by kernel_rfl
theorem by183 : bytesT Tryz.prog 183 = .ok 8 := by kernel_rfl
theorem ag183 : aggT Tryz.prog 183 = .ok false := by kernel_rfl
theorem ze183 : zeroT Tryz.prog 183 = .ok (.nilFunc) := by kernel_rfl
theorem sz184 : szT Tryz.prog 184 = .ok 1 := by kernel_rfl
theorem by184 : bytesT Tryz.prog 184 = .ok 8 := by kernel_rfl
theorem ag184 : aggT Tryz.prog 184 = .ok false := by kernel_rfl
theorem ze184 : zeroT Tryz.prog 184 = .ok (.nilFunc) := by kernel_rfl
theorem sz185 : szT Tryz.prog 185 = .ok 1 := by kernel_rfl
theorem by185 : bytesT Tryz.prog 185 = .ok 8 := by kernel_rfl
theorem ag185 : aggT Tryz.prog 185 = .ok false := by kernel_rfl
theorem ze185 : zeroT Tryz.prog 185 = .ok (.nilFunc) := by kernel_rfl
theorem sz186 : szT Tryz.prog 186 = .ok 1 := by kernel_rfl
theorem by186 : bytesT Tryz.prog 186 = .ok 8 := by kernel_rfl
theorem ag186 : aggT Tryz.prog 186 = .ok false := by kernel_rfl
theorem ze186 : zeroT Tryz.prog 186 = .ok (.nilFunc) := by kernel_rfl
theorem sz187 : szT Tryz.prog 187 = .ok 1 := by kernel_rfl
theorem by187 : bytesT Tryz.prog 187 = .ok 8 := by kernel_rfl
theorem ag187 : aggT Tryz.prog 187 = .ok false := by kernel_rfl
theorem ze187 : zeroT Tryz.prog 187 = .ok (.nilFunc) := by kernel_rfl
theorem sz188 : szT Tryz.prog 188 = .ok 1 := by kernel_rfl
theorem by188 : bytesT Tryz.prog 188 = .ok 8 := by kernel_rfl
theorem ag188 : aggT Tryz.prog 188 = .ok false := by kernel_rfl
theorem ze188 : zeroT Tryz.prog 188 = .ok (.nilFunc) := by kernel_rfl
theorem sz189 : szT Tryz.prog 189 = .ok 1 := by kernel_rfl
theorem by189 : bytesT Tryz.prog 189 = .ok 8 := by kernel_rfl
theorem ag189 : aggT Tryz.prog 189 = .ok false := by kernel_rfl
theorem ze189 : zeroT Tryz.prog 189 = .ok (.nilFunc) := by kernel_rfl
theorem sz190 : szT Tryz.prog 190 = .ok 1 := by kernel_rfl
theorem by190 : bytesT Tryz.prog 190 = .ok 8 := by kernel_rfl
theorem ag190 : aggT Tryz.prog 190 = .ok false := by kernel_rfl
theorem ze190 : zeroT Tryz.prog 190 = .ok (.nilFunc) := by kernel_rfl
theorem sz191 : szT Tryz.prog 191 = .ok 1 := by kernel_rfl
theorem by191 : bytesT Tryz.prog 191 = .ok 8 := by kernel_rfl
theorem ag191 : aggT Tryz.prog 191 = .ok false := by kernel_rfl
theorem ze191 : zeroT Tryz.prog 191 = .ok (.nilFunc) := by kernel_rfl
theorem sz192 : szT Tryz.prog 192 = .ok 1 := by kernel_rfl
theorem by192 : bytesT Tryz.prog 192 = .ok 8 := by kernel_rfl
theorem ag192 : aggT Tryz.prog 192 = .ok false := by kernel_rfl
theorem ze192 : zeroT Tryz.prog 192 = .ok (.nilFunc) := by kernel_rfl
theorem sz193 : szT Tryz.prog 193 = .ok 1 := by kernel_rfl
theorem by193 : bytesT Tryz.prog 193 = .ok 8 := by kernel_rfl
theorem ag193 : aggT Tryz.prog 193 = .ok false := by kernel_rfl
theorem ze193 : zeroT Tryz.prog 193 = .ok (.nilFunc) := by kernel_rfl
theorem sz194 : szT Tryz.prog 194 = .ok 1 := by kernel_rfl
theorem by194 : bytesT Tryz.prog 194 = .ok 8 := by kernel_rfl
theorem ag194 : aggT Tryz.prog 194 = .ok false := by kernel_rfl
theorem ze194 : zeroT Tryz.prog 194 = .ok (.nilFunc) := by kernel_rfl
theorem sz195 : szT Tryz.prog 195 = .ok 1 := by kernel_rfl
theorem by195 : bytesT Tryz.prog 195 = .ok 8 := by kernel_rfl
theorem ag195 : aggT Tryz.prog 195 = .ok false := by kernel_rfl
theorem ze195 : zeroT Tryz.prog 195 = .ok (.nilFunc) := by kernel_rfl
theorem sz196 : szT Tryz.prog 196 = .ok 1 := by kernel_rfl
theorem by196 : bytesT Tryz.prog 196 = .ok 8 := by kernel_rfl
theorem ag196 : aggT Tryz.prog 196 = .ok false := by kernel_rfl
theorem ze196 : zeroT Tryz.prog 196 = .ok (.int .u64 0) := by kernel_rfl
theorem sz197 : szT Tryz.prog 197 = .ok 1 := by kernel_rfl
theorem by197 : bytesT Tryz.prog 197 = .ok 8 := by kernel_rfl
theorem ag197 : aggT Tryz.prog 197 = .ok false := by kernel_rfl
theorem ze197 : zeroT Tryz.prog 197 = .ok (.nilFunc) := by kernel_rfl
theorem sz198 : szT Tryz.prog 198 = .ok 1 := by kernel_rfl
theorem by198 : bytesT Tryz.prog 198 = .ok 8 := by kernel_rfl
theorem ag198 : aggT Tryz.prog 198 = .ok false := by kernel_rfl
theorem ze198 : zeroT Tryz.prog 198 = .ok (.pointer none) := by kernel_rfl
theorem sz199 : szT Tryz.prog 199 = .ok 12 := by kernel_rfl
theorem by199 : bytesT Tryz.prog 199 = .ok 96 := by kernel_rfl
theorem ag199 : aggT Tryz.prog 199 = .ok true := by kernel_rfl
theorem ze199 : zeroT Tryz.prog 199 = .ok (.agg #[(.pointer none), (.pointer none), (.pointer none), (.pointer none), (.pointer none), (.pointer none), (.pointer none), (.pointer none), (.pointer none), (.pointer none), (.pointer none), (.pointer none)]) := by kernel_rfl
theorem sz200 : szT Tryz.prog 200 = .ok 1 := by kernel_rfl
theorem by200 : bytesT Tryz.prog 200 = .ok 8 := by kernel_rfl
theorem ag200 : aggT Tryz.prog 200 = .ok false := by kernel_rfl
theorem ze200 : zeroT Tryz.prog 200 = .ok (.nilFunc) := by kernel_rfl
theorem sz201 : szT Tryz.prog 201 = .ok 1 := by kernel_rfl
theorem by201 : bytesT Tryz.prog 201 = .ok 8 := by kernel_rfl
theorem ag201 : aggT Tryz.prog 201 = .ok false := by kernel_rfl
theorem ze201 : zeroT Tryz.prog 201 = .ok (.nilFunc) := by kernel_rfl
theorem sz202 : szT Tryz.prog 202 = .ok 1 := by kernel_rfl
theorem by202 : bytesT Tryz.prog 202 = .ok 8 := by kernel_rfl
theorem ag202 : aggT Tryz.prog 202 = .ok false := by kernel_rfl
theorem ze202 : zeroT Tryz.prog 202 = .ok (.nilFunc) := by kernel_rfl
theorem sz203 : szT Tryz.prog 203 = .ok 1 := by kernel_rfl
theorem by203 : bytesT Tryz.prog 203 = .ok 8 := by kernel_rfl
theorem ag203 : aggT Tryz.prog 203 = .ok false := by kernel_rfl
theorem ze203 : zeroT Tryz.prog 203 = .ok (.nilFunc) := by kernel_rfl
theorem sz204 : szT Tryz.prog 204 = .ok 1 := by kernel_rfl
theorem by204 : bytesT Tryz.prog 204 = .ok 8 := by kernel_rfl
theorem ag204 : aggT Tryz.prog 204 = .ok false := by kernel_rfl
theorem ze204 : zeroT Tryz.prog 204 = .ok (.nilFunc) := by kernel_rfl
theorem sz205 : szT Tryz.prog 205 = .ok 1 := by kernel_rfl
theorem by205 : bytesT Tryz.prog 205 = .ok 8 := by kernel_rfl
theorem ag205 : aggT Tryz.prog 205 = .ok false := by kernel_rfl
theorem ze205 : zeroT Tryz.prog 205 = .ok (.nilFunc) := by kernel_rfl
theorem sz206 : szT Tryz.prog 206 = .ok 1 := by kernel_rfl
theorem by206 : bytesT Tryz.prog 206 = .ok 8 := by kernel_rfl
theorem ag206 : aggT Tryz.prog 206 = .ok false := by kernel_rfl
theorem ze206 : zeroT Tryz.prog 206 = .ok (.nilFunc) := by kernel_rfl
theorem sz207 : szT Tryz.prog 207 = .ok 1 := by kernel_rfl
theorem by207 : bytesT Tryz.prog 207 = .ok 24 := by kernel_rfl
theorem ag207 : aggT Tryz.prog 207 = .ok false := by kernel_rfl
theorem ze207 : zeroT Tryz.prog 207 = .ok (.slice none 0 0) := by kernel_rfl
theorem sz208 : szT Tryz.prog 208 = .ok 1 := by kernel_rfl
theorem by208 : bytesT Tryz.prog 208 = .ok 8 := by kernel_rfl
theorem ag208 : aggT Tryz.prog 208 = .ok false := by kernel_rfl
theorem ze208 : zeroT Tryz.prog 208 = .ok (.nilFunc) := by kernel_rfl
theorem sz209 : szT Tryz.prog 209 = .ok 1 := by kernel_rfl
theorem by209 : bytesT Tryz.prog 209 = .ok 8 := by kernel_rfl
theorem ag209 : aggT Tryz.prog 209 = .ok false := by kernel_rfl
theorem ze209 : zeroT Tryz.prog 209 = .ok (.nilFunc) := by kernel_rfl
theorem sz210 : szT Tryz.prog 210 = .ok 1 := by kernel_rfl
theorem by210 : bytesT Tryz.prog 210 = .ok 8 := by kernel_rfl
theorem ag210 : aggT Tryz.prog 210 = .ok false := by kernel_rfl
theorem ze210 : zeroT Tryz.prog 210 = .ok (.nilFunc) := by kernel_rfl
theorem sz211 : szT Tryz.prog 211 = .ok 3 := by kernel_rfl
theorem by211 : bytesT Tryz.prog 211 = .ok 56 := by kernel_rfl
theorem ag211 : aggT Tryz.prog 211 = .ok true := by kernel_rfl
theorem ze211 : zeroT Tryz.prog 211 = .ok (.agg #[(.slice none 0 0), (.int .i64 0), (.slice none 0 0)]) := by kernel_rfl
theorem sz212 : szT Tryz.prog 212 = .ok 3 := by kernel_rfl
theorem by212 : bytesT Tryz.prog 212 = .ok 56 := by kernel_rfl
theorem ag212 : aggT Tryz.prog 212 = .ok true := by kernel_rfl
theorem ze212 : zeroT Tryz.prog 212 = .ok (.agg #[(.slice none 0 0), (.int .i64 0), (.slice none 0 0)]) := by kernel_rfl
theorem sz213 : szT Tryz.prog 213 = .ok 1 := by kernel_rfl
theorem by213 : bytesT Tryz.prog 213 = .ok 8 := by kernel_rfl
theorem ag213 : aggT Tryz.prog 213 = .ok false := by kernel_rfl
theorem ze213 : zeroT Tryz.prog 213 = .ok (.nilFunc) := by kernel_rfl
theorem sz214 : szT Tryz.prog 214 = .ok 1 := by kernel_rfl
theorem by214 : bytesT Tryz.prog 214 = .ok 8 := by kernel_rfl
theorem ag214 : aggT Tryz.prog 214 = .ok false := by kernel_rfl
theorem ze214 : zeroT Tryz.prog 214 = .ok (.nilFunc) := by kernel_rfl
theorem sz215 : szT Tryz.prog 215 = .ok 1 := by kernel_rfl
theorem by215 : bytesT Tryz.prog 215 = .ok 8 := by kernel_rfl
theorem ag215 : aggT Tryz.prog 215 = .ok false := by kernel_rfl
theorem ze215 : zeroT Tryz.prog 215 = .ok (.nilFunc) := by kernel_rfl
theorem sz216 : szT Tryz.prog 216 = .ok 1 := by kernel_rfl
theorem by216 : bytesT Tryz.prog 216 = .ok 8 := by kernel_rfl
theorem ag216 : aggT Tryz.prog 216 = .ok false := by kernel_rfl
theorem ze216 : zeroT Tryz.prog 216 = .ok (.nilFunc) := by kernel_rfl
theorem sz217 : szT Tryz.prog 217 = .ok 1 := by kernel_rfl
theorem by217 : bytesT Tryz.prog 217 = .ok 8 := by kernel_rfl
theorem ag217 : aggT Tryz.prog 217 = .ok false := by kernel_rfl
theorem ze217 : zeroT Tryz.prog 217 = .ok (.nilFunc) := by kernel_rfl
theorem sz218 : szT Tryz.prog 218 = .ok 1 := by kernel_rfl
theorem by218 : bytesT Tryz.prog 218 = .ok 8 := by kernel_rfl
theorem ag218 : aggT Tryz.prog 218 = .ok false := by kernel_rfl
theorem ze218 : zeroT Tryz.prog 218 = .ok (.nilFunc) := by kernel_rfl
theorem sz219 : szT Tryz.prog 219 = .ok 1 := by kernel_rfl
theorem by219 : bytesT Tryz.prog 219 = .ok 8 := by kernel_rfl
theorem ag219 : aggT Tryz.prog 219 = .ok false := by kernel_rfl
theorem ze219 : zeroT Tryz.prog 219 = .ok (.nilFunc) := by kernel_rfl
theorem sz220 : szT Tryz.prog 220 = .ok 1 := by kernel_rfl
theorem by220 : bytesT Tryz.prog 220 = .ok 8 := by kernel_rfl
theorem ag220 : aggT Tryz.prog 220 = .ok false := by kernel_rfl
theorem ze220 : zeroT Tryz.prog 220 = .ok (.nilFunc) := by kernel_rfl
theorem sz221 : szT Tryz.prog 221 = .ok 1 := by kernel_rfl
theorem by221 : bytesT Tryz.prog 221 = .ok 8 := by kernel_rfl
theorem ag221 : aggT Tryz.prog 221 = .ok false := by kernel_rfl
theorem ze221 : zeroT Tryz.prog 221 = .ok (.nilFunc) := by kernel_rfl
theorem sz222 : szT Tryz.prog 222 = .ok 1 := by kernel_rfl
theorem by222 : bytesT Tryz.prog 222 = .ok 8 := by kernel_rfl
theorem ag222 : aggT Tryz.prog 222 = .ok false := by kernel_rfl
theorem ze222 : zeroT Tryz.prog 222 = .ok (.nilFunc) := by kernel_rfl
theorem sz223 : szT Tryz.prog 223 = .ok 1 := by kernel_rfl
theorem by223 : bytesT Tryz.prog 223 = .ok 8 := by kernel_rfl
theorem ag223 : aggT Tryz.prog 223 = .ok false := by kernel_rfl
theorem ze223 : zeroT Tryz.prog 223 = .ok (.nilFunc) := by kernel_rfl
theorem sz224 : szT Tryz.prog 224 = .ok 1 := by kernel_rfl
theorem by224 : bytesT Tryz.prog 224 = .ok 8 := by kernel_rfl
theorem ag224 : aggT Tryz.prog 224 = .ok false := by kernel_rfl
theorem ze224 : zeroT Tryz.prog 224 = .ok (.nilFunc) := by kernel_rfl
theorem sz225 : szT Tryz.prog 225 = .ok 1 := by kernel_rfl
theorem by225 : bytesT Tryz.prog 225 = .ok 8 := by kernel_rfl
theorem ag225 : aggT Tryz.prog 225 = .ok false := by kernel_rfl
theorem ze225 : zeroT Tryz.prog 225 = .ok (.nilFunc) := by kernel_rfl
theorem sz226 : szT Tryz.prog 226 = .ok 1 := by kernel_rfl
theorem by226 : bytesT Tryz.prog 226 = .ok 8 := by kernel_rfl
theorem ag226 : aggT Tryz.prog 226 = .ok false := by kernel_rfl
theorem ze226 : zeroT Tryz.prog 226 = .ok (.nilFunc) := by kernel_rfl
theorem sz227 : szT Tryz.prog 227 = .ok 1 := by kernel_rfl
theorem by227 : bytesT Tryz.prog 227 = .ok 8 := by kernel_rfl
theorem ag227 : aggT Tryz.prog 227 = .ok false := by kernel_rfl
theorem ze227 : zeroT Tryz.prog 227 = .ok (.nilFunc) := by kernel_rfl
theorem sz228 : szT Tryz.prog 228 = .ok 1 := by kernel_rfl
theorem by228 : bytesT Tryz.prog 228 = .ok 8 := by kernel_rfl
theorem ag228 : aggT Tryz.prog 228 = .ok false := by kernel_rfl
theorem ze228 : zeroT Tryz.prog 228 = .ok (.nilFunc) := by kernel_rfl
theorem sz229 : szT Tryz.prog 229 = .ok 1 := by kernel_rfl
theorem by229 : bytesT Tryz.prog 229 = .ok 8 := by kernel_rfl
theorem ag229 : aggT Tryz.prog 229 = .ok false := by kernel_rfl
theorem ze229 : zeroT Tryz.prog 229 = .ok (.nilFunc) := by kernel_rfl
theorem sz230 : szT Tryz.prog 230 = .ok 2 := by kernel_rfl
theorem by230 : bytesT Tryz.prog 230 = .ok 32 := by kernel_rfl
theorem ag230 : aggT Tryz.prog 230 = .ok true := by kernel_rfl
theorem ze230 : zeroT Tryz.prog 230 = .ok (.agg #[(.slice none 0 0), (.bool false)]) := by kernel_rfl
theorem sz231 : szT Tryz.prog 231 = .ok 2 := by kernel_rfl
theorem by231 : bytesT Tryz.prog 231 = .ok 32 := by kernel_rfl
theorem ag231 : aggT Tryz.prog 231 = .ok true := by kernel_rfl
theorem ze231 : zeroT Tryz.prog 231 = .ok (.agg #[(.slice none 0 0), (.bool false)]) := by kernel_rfl
theorem sz232 : szT Tryz.prog 232 = .ok 1 := by kernel_rfl
theorem by232 : bytesT Tryz.prog 232 = .ok 0 := by kernel_rfl
theorem ag232 : aggT Tryz.prog 232 = .ok false := by kernel_rfl
theorem sz233 : szT Tryz.prog 233 = .ok 1 := by kernel_rfl
theorem by233 : bytesT Tryz.prog 233 = .ok 8 := by kernel_rfl
theorem ag233 : aggT Tryz.prog 233 = .ok false := by kernel_rfl
theorem ze233 : zeroT Tryz.prog 233 = .ok (.nilFunc) := by kernel_rfl
theorem sz234 : szT Tryz.prog 234 = .ok 1 := by kernel_rfl
theorem by234 : bytesT Tryz.prog 234 = .ok 8 := by kernel_rfl
theorem ag234 : aggT Tryz.prog 234 = .ok false := by kernel_rfl
theorem ze234 : zeroT Tryz.prog 234 = .ok (.nilFunc) := by kernel_rfl
theorem sz235 : szT Tryz.prog 235 = .ok 1 := by kernel_rfl
theorem by235 : bytesT Tryz.prog 235 = .ok 8 := by kernel_rfl
theorem ag235 : aggT Tryz.prog 235 = .ok false := by kernel_rfl
theorem ze235 : zeroT Tryz.prog 235 = .ok (.pointer none) := by kernel_rfl
theorem sz236 : szT Tryz.prog 236 = .ok 1 := by kernel_rfl
theorem by236 : bytesT Tryz.prog 236 = .ok 8 := by kernel_rfl
theorem ag236 : aggT Tryz.prog 236 = .ok false := by kernel_rfl
theorem ze236 : zeroT Tryz.prog 236 = .ok (.nilFunc) := by kernel_rfl
theorem sz237 : szT Tryz.prog 237 = .ok 1 := by kernel_rfl
theorem by237 : bytesT Tryz.prog 237 = .ok 8 := by kernel_rfl
theorem ag237 : aggT Tryz.prog 237 = .ok false := by kernel_rfl
theorem ze237 : zeroT Tryz.prog 237 = .ok (.nilFunc) := by kernel_rfl
theorem sz238 : szT Tryz.prog 238 = .ok 1 := by kernel_rfl
theorem by238 : bytesT Tryz.prog 238 = .ok 0 := by kernel_rfl
theorem ag238 : aggT Tryz.prog 238 = .ok false := by kernel_rfl
theorem sz239 : szT Tryz.prog 239 = .ok 1 := by kernel_rfl
theorem by239 : bytesT Tryz.prog 239 = .ok 8 := by kernel_rfl
theorem ag239 : aggT Tryz.prog 239 = .ok false := by kernel_rfl
theorem ze239 : zeroT Tryz.prog 239 = .ok (.nilFunc) := by kernel_rfl
theorem sz240 : szT Tryz.prog 240 = .ok 1 := by kernel_rfl
theorem by240 : bytesT Tryz.prog 240 = .ok 8 := by kernel_rfl
theorem ag240 : aggT Tryz.prog 240 = .ok false := by kernel_rfl
theorem ze240 : zeroT Tryz.prog 240 = .ok (.nilFunc) := by kernel_rfl
theorem sz241 : szT Tryz.prog 241 = .ok 1 := by kernel_rfl
theorem by241 : bytesT Tryz.prog 241 = .ok 8 := by kernel_rfl
theorem ag241 : aggT Tryz.prog 241 = .ok false := by kernel_rfl
theorem ze241 : zeroT Tryz.prog 241 = .ok (.pointer none) := by kernel_rfl
theorem sz242 : szT Tryz.prog 242 = .ok 2 := by kernel_rfl
theorem by242 : bytesT Tryz.prog 242 = .ok 32 := by kernel_rfl
theorem ag242 : aggT Tryz.prog 242 = .ok true := by kernel_rfl
theorem ze242 : zeroT Tryz.prog 242 = .ok (.agg #[(.pointer none), (.slice none 0 0)]) := by kernel_rfl
theorem sz243 : szT Tryz.prog 243 = .ok 2 := by kernel_rfl
theorem by243 : bytesT Tryz.prog 243 = .ok 32 := by kernel_rfl
theorem ag243 : aggT Tryz.prog 243 = .ok true := by kernel_rfl
theorem ze243 : zeroT Tryz.prog 243 = .ok (.agg #[(.pointer none), (.slice none 0 0)]) := by kernel_rfl
theorem sz244 : szT Tryz.prog 244 = .ok 1 := by kernel_rfl
theorem by244 : bytesT Tryz.prog 244 = .ok 8 := by kernel_rfl
theorem ag244 : aggT Tryz.prog 244 = .ok false := by kernel_rfl
theorem ze244 : zeroT Tryz.prog 244 = .ok (.nilFunc) := by kernel_rfl
theorem sz245 : szT Tryz.prog 245 = .ok 1 := by kernel_rfl
theorem by245 : bytesT Tryz.prog 245 = .ok 16 := by kernel_rfl
theorem ag245 : aggT Tryz.prog 245 = .ok false := by kernel_rfl
theorem ze245 : zeroT Tryz.prog 245 = .ok (.nilIface) := by kernel_rfl
theorem sz246 : szT Tryz.prog 246 = .ok 1 := by kernel_rfl
theorem by246 : bytesT Tryz.prog 246 = .ok 16 := by kernel_rfl
theorem ag246 : aggT Tryz.prog 246 = .ok false := by kernel_rfl
theorem ze246 : zeroT Tryz.prog 246 = .ok (.nilIface) := by kernel_rfl
theorem sz247 : szT Tryz.prog 247 = .ok 1 := by kernel_rfl
theorem by247 : bytesT Tryz.prog 247 = .ok 0 := by kernel_rfl
theorem ag247 : aggT Tryz.prog 247 = .ok false := by kernel_rfl
theorem sz248 : szT Tryz.prog 248 = .ok 1 := by kernel_rfl
theorem by248 : bytesT Tryz.prog 248 = .ok 8 := by kernel_rfl
theorem ag248 : aggT Tryz.prog 248 = .ok false := by kernel_rfl
theorem ze248 : zeroT Tryz.prog 248 = .ok (.nilFunc) := by kernel_rfl
theorem sz249 : szT Tryz.prog 249 = .ok 1 := by kernel_rfl
theorem by249 : bytesT Tryz.prog 249 = .ok 8 := by kernel_rfl
theorem ag249 : aggT Tryz.prog 249 = .ok false := by kernel_rfl
theorem ze249 : zeroT Tryz.prog 249 = .ok (.nilFunc) := by kernel_rfl
theorem sz250 : szT Tryz.prog 250 = .ok 1 := by kernel_rfl
theorem by250 : bytesT Tryz.prog 250 = .ok 8 := by kernel_rfl
theorem ag250 : aggT Tryz.prog 250 = .ok false := by kernel_rfl
theorem ze250 : zeroT Tryz.prog 250 = .ok (.nilFunc) := by kernel_rfl
theorem sz251 : szT Tryz.prog 251 = .ok 256 := by kernel_rfl
theorem by251 : bytesT Tryz.prog 251 = .ok 256 := by kernel_rfl
theorem ag251 : aggT Tryz.prog 251 = .ok true := by kernel_rfl
theorem ze251 : zeroT Tryz.prog 251 = .ok (.agg ⟨List.replicate 256 (.bool false)⟩) := by kernel_rfl
theorem sz252 : szT Tryz.prog 252 = .ok 256 := by kernel_rfl
theorem by252 : bytesT Tryz.prog 252 = .ok 256 := by kernel_rfl
theorem ag252 : aggT Tryz.prog 252 = .ok true := by kernel_rfl
theorem ze252 : zeroT Tryz.prog 252 = .ok (.agg ⟨List.replicate 256 (.bool false)⟩) := by kernel_rfl
theorem sz253 : szT Tryz.prog 253 = .ok 1 := by kernel_rfl
theorem by253 : bytesT Tryz.prog 253 = .ok 0 := by kernel_rfl
theorem ag253 : aggT Tryz.prog 253 = .ok false := by kernel_rfl
theorem sz254 : szT Tryz.prog 254 = .ok 1 := by kernel_rfl
theorem by254 : bytesT Tryz.prog 254 = .ok 8 := by kernel_rfl
theorem ag254 : aggT Tryz.prog 254 = .ok false := by kernel_rfl
theorem ze254 : zeroT Tryz.prog 254 = .ok (.nilFunc) := by kernel_rfl
theorem sz255 : szT Tryz.prog 255 = .ok 1 := by kernel_rfl
theorem by255 : bytesT Tryz.prog 255 = .ok 8 := by kernel_rfl
theorem ag255 : aggT Tryz.prog 255 = .ok false := by kernel_rfl
theorem ze255 : zeroT Tryz.prog 255 = .ok (.nilFunc) := by kernel_rfl
theorem sz256 : szT Tryz.prog 256 = .ok 1 := by kernel_rfl
theorem by256 : bytesT Tryz.prog 256 = .ok 8 := by kernel_rfl
theorem ag256 : aggT Tryz.prog 256 = .ok false := by kernel_rfl
theorem ze256 : zeroT Tryz.prog 256 = .ok (.pointer none) := by kernel_rfl
theorem sz257 : szT Tryz.prog 257 = .ok 1 := by kernel_rfl
theorem by257 : bytesT Tryz.prog 257 = .ok 8 := by kernel_rfl
theorem ag257 : aggT Tryz.prog 257 = .ok false := by kernel_rfl
theorem ze257 : zeroT Tryz.prog 257 = .ok (.nilFunc) := by kernel_rfl
theorem sz258 : szT Tryz.prog 258 = .ok 1 := by kernel_rfl
theorem by258 : bytesT Tryz.prog 258 = .ok 8 := by kernel_rfl
theorem ag258 : aggT Tryz.prog 258 = .ok false := by kernel_rfl
theorem ze258 : zeroT Tryz.prog 258 = .ok (.nilFunc) := by kernel_rfl
theorem sz259 : szT Tryz.prog 259 = .ok 1 := by kernel_rfl
theorem by259 : bytesT Tryz.prog 259 = .ok 8 := by kernel_rfl
theorem ag259 : aggT Tryz.prog 259 = .ok false := by kernel_rfl
theorem ze259 : zeroT Tryz.prog 259 = .ok (.nilFunc) := by kernel_rfl
theorem sz260 : szT Tryz.prog 260 = .ok 1 := by kernel_rfl
theorem by260 : bytesT Tryz.prog 260 = .ok 8 := by kernel_rfl
theorem ag260 : aggT Tryz.prog 260 = .ok false := by kernel_rfl
theorem ze260 : zeroT Tryz.prog 260 = .ok (.nilFunc) := by kernel_rfl
theorem sz261 : szT Tryz.prog 261 = .ok 1 := by kernel_rfl
theorem by261 : bytesT Tryz.prog 261 = .ok 8 := by kernel_rfl
theorem ag261 : aggT Tryz.prog 261 = .ok false := by kernel_rfl
theorem ze261 : zeroT Tryz.prog 261 = .ok (.nilFunc) := by kernel_rfl
theorem sz262 : szT Tryz.prog 262 = .ok 1 := by kernel_rfl
theorem by262 : bytesT Tryz.prog 262 = .ok 8 := by kernel_rfl
theorem ag262 : aggT Tryz.prog 262 = .ok false := by kernel_rfl
theorem ze262 : zeroT Tryz.prog 262 = .ok (.nilFunc) := by kernel_rfl
theorem sz263 : szT Tryz.prog 263 = .ok 1 := by kernel_rfl
theorem by263 : bytesT Tryz.prog 263 = .ok 8 := by kernel_rfl
theorem ag263 : aggT Tryz.prog 263 = .ok false := by kernel_rfl
theorem ze263 : zeroT Tryz.prog 263 = .ok (.nilFunc) := by kernel_rfl
theorem sz264 : szT Tryz.prog 264 = .ok 1 := by kernel_rfl
theorem by264 : bytesT Tryz.prog 264 = .ok 0 := by kernel_rfl
theorem ag264 : aggT Tryz.prog 264 = .ok false := by kernel_rfl
theorem sz265 : szT Tryz.prog 265 = .ok 1 := by kernel_rfl
theorem by265 : bytesT Tryz.prog 265 = .ok 8 := by kernel_rfl
theorem ag265 : aggT Tryz.prog 265 = .ok false := by kernel_rfl
theorem ze265 : zeroT Tryz.prog 265 = .ok (.nilFunc) := by kernel_rfl
theorem sz266 : szT Tryz.prog 266 = .ok 1 := by kernel_rfl
theorem by266 : bytesT Tryz.prog 266 = .ok 8 := by kernel_rfl
theorem ag266 : aggT Tryz.prog 266 = .ok false := by kernel_rfl
theorem ze266 : zeroT Tryz.prog 266 = .ok (.nilFunc) := by kernel_rfl
theorem sz267 : szT Tryz.prog 267 = .ok 1 := by kernel_rfl
theorem by267 : bytesT Tryz.prog 267 = .ok 8 := by kernel_rfl
theorem ag267 : aggT Tryz.prog 267 = .ok false := by kernel_rfl
theorem ze267 : zeroT Tryz.prog 267 = .ok (.nilFunc) := by kernel_rfl
theorem sz268 : szT Tryz.prog 268 = .ok 1 := by kernel_rfl
theorem by268 : bytesT Tryz.prog 268 = .ok 8 := by kernel_rfl
theorem ag268 : aggT Tryz.prog 268 = .ok false := by kernel_rfl
theorem ze268 : zeroT Tryz.prog 268 = .ok (.nilFunc) := by kernel_rfl
theorem sz269 : szT Tryz.prog 269 = .ok 1 := by kernel_rfl
theorem by269 : bytesT Tryz.prog 269 = .ok 8 := by kernel_rfl
theorem ag269 : aggT Tryz.prog 269 = .ok false := by kernel_rfl
theorem ze269 : zeroT Tryz.prog 269 = .ok (.nilFunc) := by kernel_rfl
theorem sz270 : szT Tryz.prog 270 = .ok 1 := by kernel_rfl
theorem by270 : bytesT Tryz.prog 270 = .ok 8 := by kernel_rfl
theorem ag270 : aggT Tryz.prog 270 = .ok false := by kernel_rfl
theorem ze270 : zeroT Tryz.prog 270 = .ok (.nilFunc) := by kernel_rfl
theorem sz271 : szT Tryz.prog 271 = .ok 1 := by kernel_rfl
theorem by271 : bytesT Tryz.prog 271 = .ok 8 := by kernel_rfl
theorem ag271 : aggT Tryz.prog 271 = .ok false := by kernel_rfl
theorem ze271 : zeroT Tryz.prog 271 = .ok (.nilFunc) := by kernel_rfl
theorem sz272 : szT Tryz.prog 272 = .ok 1 := by kernel_rfl
theorem by272 : bytesT Tryz.prog 272 = .ok 8 := by kernel_rfl
theorem ag272 : aggT Tryz.prog 272 = .ok false := by kernel_rfl
theorem ze272 : zeroT Tryz.prog 272 = .ok (.nilFunc) := by kernel_rfl
theorem sz273 : szT Tryz.prog 273 = .ok 1 := by kernel_rfl
theorem by273 : bytesT Tryz.prog 273 = .ok 8 := by kernel_rfl
theorem ag273 : aggT Tryz.prog 273 = .ok false := by kernel_rfl
theorem ze273 : zeroT Tryz.prog 273 = .ok (.nilFunc) := by kernel_rfl
theorem sz274 : szT Tryz.prog 274 = .ok 1 := by kernel_rfl
theorem by274 : bytesT Tryz.prog 274 = .ok 8 := by kernel_rfl
theorem ag274 : aggT Tryz.prog 274 = .ok false := by kernel_rfl
theorem ze274 : zeroT Tryz.prog 274 = .ok (.map none) := by kernel_rfl
theorem sz275 : szT Tryz.prog 275 = .ok 1 := by kernel_rfl
theorem by275 : bytesT Tryz.prog 275 = .ok 8 := by kernel_rfl
theorem ag275 : aggT Tryz.prog 275 = .ok false := by kernel_rfl
theorem ze275 : zeroT Tryz.prog 275 = .ok (.pointer none) := by kernel_rfl
theorem sz276 : szT Tryz.prog 276 = .ok 1 := by kernel_rfl
theorem by276 : bytesT Tryz.prog 276 = .ok 8 := by kernel_rfl
theorem ag276 : aggT Tryz.prog 276 = .ok false := by kernel_rfl
theorem ze276 : zeroT Tryz.prog 276 = .ok (.nilFunc) := by kernel_rfl
theorem sz277 : szT Tryz.prog 277 = .ok 1 := by kernel_rfl
theorem by277 : bytesT Tryz.prog 277 = .ok 8 := by kernel_rfl
theorem ag277 : aggT Tryz.prog 277 = .ok false := by kernel_rfl
theorem ze277 : zeroT Tryz.prog 277 = .ok (.pointer none) := by kernel_rfl
theorem sz278 : szT Tryz.prog 278 = .ok 1 := by kernel_rfl
theorem by278 : bytesT Tryz.prog 278 = .ok 8 := by kernel_rfl
theorem ag278 : aggT Tryz.prog 278 = .ok false := by kernel_rfl
theorem ze278 : zeroT Tryz.prog 278 = .ok (.nilFunc) := by kernel_rfl
theorem sz279 : szT Tryz.prog 279 = .ok 1 := by kernel_rfl
theorem by279 : bytesT Tryz.prog 279 = .ok 8 := by kernel_rfl
theorem ag279 : aggT Tryz.prog 279 = .ok false := by kernel_rfl
theorem ze279 : zeroT Tryz.prog 279 = .ok (.nilFunc) := by kernel_rfl
theorem sz280 : szT Tryz.prog 280 = .ok 1 := by kernel_rfl
theorem by280 : bytesT Tryz.prog 280 = .ok 0 := by kernel_rfl
theorem ag280 : aggT Tryz.prog 280 = .ok false := by kernel_rfl
theorem sz281 : szT Tryz.prog 281 = .ok 1 := by kernel_rfl
theorem by281 : bytesT Tryz.prog 281 = .ok 8 := by kernel_rfl
theorem ag281 : aggT Tryz.prog 281 = .ok false := by kernel_rfl
theorem ze281 : zeroT Tryz.prog 281 = .ok (.nilFunc) := by kernel_rfl
theorem sz282 : szT Tryz.prog 282 = .ok 1 := by kernel_rfl
theorem by282 : bytesT Tryz.prog 282 = .ok 0 := by kernel_rfl
theorem ag282 : aggT Tryz.prog 282 = .ok false := by kernel_rfl
theorem sz283 : szT Tryz.prog 283 = .ok 1 := by kernel_rfl
theorem by283 : bytesT Tryz.prog 283 = .ok 8 := by kernel_rfl
theorem ag283 : aggT Tryz.prog 283 = .ok false := by kernel_rfl
theorem ze283 : zeroT Tryz.prog 283 = .ok (.nilFunc) := by kernel_rfl
theorem sz284 : szT Tryz.prog 284 = .ok 1 := by kernel_rfl
theorem by284 : bytesT Tryz.prog 284 = .ok 8 := by kernel_rfl
theorem ag284 : aggT Tryz.prog 284 = .ok false := by kernel_rfl
theorem ze284 : zeroT Tryz.prog 284 = .ok (.pointer none) := by kernel_rfl
theorem sz285 : szT Tryz.prog 285 = .ok 1 := by kernel_rfl
theorem by285 : bytesT Tryz.prog 285 = .ok 8 := by kernel_rfl
theorem ag285 : aggT Tryz.prog 285 = .ok false := by kernel_rfl
theorem ze285 : zeroT Tryz.prog 285 = .ok (.nilFunc) := by kernel_rfl
theorem sz286 : szT Tryz.prog 286 = .ok 1 := by kernel_rfl
theorem by286 : bytesT Tryz.prog 286 = .ok 0 := by kernel_rfl
theorem ag286 : aggT Tryz.prog 286 = .ok false := by kernel_rfl
theorem sz287 : szT Tryz.prog 287 = .ok 1 := by kernel_rfl
theorem by287 : bytesT Tryz.prog 287 = .ok 8 := by kernel_rfl
theorem ag287 : aggT Tryz.prog 287 = .ok false := by kernel_rfl
theorem ze287 : zeroT Tryz.prog 287 = .ok (.nilFunc) := by kernel_rfl
theorem sz288 : szT Tryz.prog 288 = .ok 1 := by kernel_rfl
theorem by288 : bytesT Tryz.prog 288 = .ok 8 := by kernel_rfl
theorem ag288 : aggT Tryz.prog 288 = .ok false := by kernel_rfl
theorem ze288 : zeroT Tryz.prog 288 = .ok (.nilFunc) := by kernel_rfl
theorem sz289 : szT Tryz.prog 289 = .ok 1 := by kernel_rfl
theorem by289 : bytesT Tryz.prog 289 = .ok 8 := by kernel_rfl
theorem ag289 : aggT Tryz.prog 289 = .ok false := by kernel_rfl
theorem ze289 : zeroT Tryz.prog 289 = .ok (.nilFunc) := by kernel_rfl
theorem sz290 : szT Tryz.prog 290 = .ok 1 := by kernel_rfl
theorem by290 : bytesT Tryz.prog 290 = .ok 8 := by kernel_rfl
theorem ag290 : aggT Tryz.prog 290 = .ok false := by kernel_rfl
theorem ze290 : zeroT Tryz.prog 290 = .ok (.nilFunc) := by kernel_rfl
theorem sz291 : szT Tryz.prog 291 = .ok 1 := by kernel_rfl
theorem by291 : bytesT Tryz.prog 291 = .ok 8 := by kernel_rfl
theorem ag291 : aggT Tryz.prog 291 = .ok false := by kernel_rfl
theorem ze291 : zeroT Tryz.prog 291 = .ok (.nilFunc) := by kernel_rfl
theorem sz292 : szT Tryz.prog 292 = .ok 1 := by kernel_rfl
theorem by292 : bytesT Tryz.prog 292 = .ok 8 := by kernel_rfl
theorem ag292 : aggT Tryz.prog 292 = .ok false := by kernel_rfl
theorem ze292 : zeroT Tryz.prog 292 = .ok (.nilFunc) := by kernel_rfl
theorem sz293 : szT Tryz.prog 293 = .ok 1 := by kernel_rfl
theorem by293 : bytesT Tryz.prog 293 = .ok 8 := by kernel_rfl
theorem ag293 : aggT Tryz.prog 293 = .ok false := by kernel_rfl
theorem ze293 : zeroT Tryz.prog 293 = .ok (.int .i64 0) := by kernel_rfl
theorem sz294 : szT Tryz.prog 294 = .ok 1 := by kernel_rfl
theorem by294 : bytesT Tryz.prog 294 = .ok 0 := by kernel_rfl
theorem ag294 : aggT Tryz.prog 294 = .ok false := by kernel_rfl
theorem sz295 : szT Tryz.prog 295 = .ok 1 := by kernel_rfl
theorem by295 : bytesT Tryz.prog 295 = .ok 8 := by kernel_rfl
theorem ag295 : aggT Tryz.prog 295 = .ok false := by kernel_rfl
theorem ze295 : zeroT Tryz.prog 295 = .ok (.nilFunc) := by kernel_rfl
theorem sz296 : szT Tryz.prog 296 = .ok 1 := by kernel_rfl
theorem by296 : bytesT Tryz.prog 296 = .ok 8 := by kernel_rfl
theorem ag296 : aggT Tryz.prog 296 = .ok false := by kernel_rfl
theorem ze296 : zeroT Tryz.prog 296 = .ok (.nilFunc) := by kernel_rfl
theorem sz297 : szT Tryz.prog 297 = .ok 1 := by kernel_rfl
theorem by297 : bytesT Tryz.prog 297 = .ok 8 := by kernel_rfl
theorem ag297 : aggT Tryz.prog 297 = .ok false := by kernel_rfl
theorem ze297 : zeroT Tryz.prog 297 = .ok (.nilFunc) := by kernel_rfl
theorem sz298 : szT Tryz.prog 298 = .ok 1 := by kernel_rfl
theorem by298 : bytesT Tryz.prog 298 = .ok 8 := by kernel_rfl
theorem ag298 : aggT Tryz.prog 298 = .ok false := by kernel_rfl
theorem ze298 : zeroT Tryz.prog 298 = .ok (.nilFunc) := by kernel_rfl
theorem sz299 : szT Tryz.prog 299 = .ok 1 := by kernel_rfl
theorem by299 : bytesT Tryz.prog 299 = .ok 8 := by kernel_rfl
theorem ag299 : aggT Tryz.prog 299 = .ok false := by kernel_rfl
theorem ze299 : zeroT Tryz.prog 299 = .ok (.nilFunc) := by kernel_rfl
theorem sz300 : szT Tryz.prog 300 = .ok 1 := by kernel_rfl
theorem by300 : bytesT Tryz.prog 300 = .ok 8 := by kernel_rfl
theorem ag300 : aggT Tryz.prog 300 = .ok false := by kernel_rfl
theorem ze300 : zeroT Tryz.prog 300 = .ok (.nilFunc) := by kernel_rfl
theorem sz301 : szT Tryz.prog 301 = .ok 1 := by kernel_rfl
theorem by301 : bytesT Tryz.prog 301 = .ok 8 := by kernel_rfl
theorem ag301 : aggT Tryz.prog 301 = .ok false := by kernel_rfl
theorem ze301 : zeroT Tryz.prog 301 = .ok (.nilFunc) := by kernel_rfl
theorem sz302 : szT Tryz.prog 302 = .ok 1 := by kernel_rfl
theorem by302 : bytesT Tryz.prog 302 = .ok 8 := by kernel_rfl
theorem ag302 : aggT Tryz.prog 302 = .ok false := by kernel_rfl
theorem ze302 : zeroT Tryz.prog 302 = .ok (.nilFunc) := by kernel_rfl
theorem sz303 : szT Tryz.prog 303 = .ok 1 := by kernel_rfl
theorem by303 : bytesT Tryz.prog 303 = .ok 8 := by kernel_rfl
theorem ag303 : aggT Tryz.prog 303 = .ok false := by kernel_rfl
theorem ze303 : zeroT Tryz.prog 303 = .ok (.nilFunc) := by kernel_rfl
theorem sz304 : szT Tryz.prog 304 = .ok 1 := by kernel_rfl
theorem by304 : bytesT Tryz.prog 304 = .ok 8 := by kernel_rfl
theorem ag304 : aggT Tryz.prog 304 = .ok false := by kernel_rfl
theorem ze304 : zeroT Tryz.prog 304 = .ok (.nilFunc) := by kernel_rfl
theorem sz305 : szT Tryz.prog 305 = .ok 1 := by kernel_rfl
theorem by305 : bytesT Tryz.prog 305 = .ok 8 := by kernel_rfl
theorem ag305 : aggT Tryz.prog 305 = .ok false := by kernel_rfl
theorem ze305 : zeroT Tryz.prog 305 = .ok (.nilFunc) := by kernel_rfl
theorem sz306 : szT Tryz.prog 306 = .ok 1 := by kernel_rfl
theorem by306 : bytesT Tryz.prog 306 = .ok 8 := by kernel_rfl
theorem ag306 : aggT Tryz.prog 306 = .ok false := by kernel_rfl
theorem ze306 : zeroT Tryz.prog 306 = .ok (.nilFunc) := by kernel_rfl
theorem sz307 : szT Tryz.prog 307 = .ok 1 := by kernel_rfl
theorem by307 : bytesT Tryz.prog 307 = .ok 8 := by kernel_rfl
theorem ag307 : aggT Tryz.prog 307 = .ok false := by kernel_rfl
theorem ze307 : zeroT Tryz.prog 307 = .ok (.pointer none) := by kernel_rfl
theorem sz308 : szT Tryz.prog 308 = .ok 1 := by kernel_rfl
theorem by308 : bytesT Tryz.prog 308 = .ok 8 := by kernel_rfl
theorem ag308 : aggT Tryz.prog 308 = .ok false := by kernel_rfl
theorem ze308 : zeroT Tryz.prog 308 = .ok (.nilFunc) := by kernel_rfl
theorem sz309 : szT Tryz.prog 309 = .ok 1 := by kernel_rfl
theorem by309 : bytesT Tryz.prog 309 = .ok 8 := by kernel_rfl
theorem ag309 : aggT Tryz.prog 309 = .ok false := by kernel_rfl
theorem ze309 : zeroT Tryz.prog 309 = .ok (.nilFunc) := by kernel_rfl
theorem sz310 : szT Tryz.prog 310 = .ok 24 := by kernel_rfl
theorem by310 : bytesT Tryz.prog 310 = .ok 24 := by kernel_rfl
theorem ag310 : aggT Tryz.prog 310 = .ok true := by kernel_rfl
theorem ze310 : zeroT Tryz.prog 310 = .ok (.agg #[(.int .u8 0), (.int .u8 0), (.int .u8 0), (.int .u8 0), (.int .u8 0), (.int .u8 0), (.int .u8 0), (.int .u8 0), (.int .u8 0), (.int .u8 0), (.int .u8 0), (.int .u8 0), (.int .u8 0), (.int .u8 0), (.int .u8 0), (.int .u8 0), (.int .u8 0), (.int .u8 0), (.int .u8 0), (.int .u8 0), (.int .u8 0), (.int .u8 0), (.int .u8 0), (.int .u8 0)]) := by kernel_rfl
theorem sz311 : szT Tryz.prog 311 = .ok 1 := by kernel_rfl
theorem by311 : bytesT Tryz.prog 311 = .ok 8 := by kernel_rfl
theorem ag311 : aggT Tryz.prog 311 = .ok false := by kernel_rfl
theorem ze311 : zeroT Tryz.prog 311 = .ok (.nilFunc) := by kernel_rfl
theorem sz312 : szT Tryz.prog 312 = .ok 1 := by kernel_rfl
theorem by312 : bytesT Tryz.prog 312 = .ok 0 := by kernel_rfl
theorem ag312 : aggT Tryz.prog 312 = .ok false := by kernel_rfl
theorem sz313 : szT Tryz.prog 313 = .ok 1 := by kernel_rfl
theorem by313 : bytesT Tryz.prog 313 = .ok 8 := by kernel_rfl
theorem ag313 : aggT Tryz.prog 313 = .ok false := by kernel_rfl
theorem ze313 : zeroT Tryz.prog 313 = .ok (.nilFunc) := by kernel_rfl
theorem sz314 : szT Tryz.prog 314 = .ok 1 := by kernel_rfl
theorem by314 : bytesT Tryz.prog 314 = .ok 8 := by kernel_rfl
theorem ag314 : aggT Tryz.prog 314 = .ok false := by kernel_rfl
theorem ze314 : zeroT Tryz.prog 314 = .ok (.pointer none) := by kernel_rfl
theorem sz315 : szT Tryz.prog 315 = .ok 1 := by kernel_rfl
theorem by315 : bytesT Tryz.prog 315 = .ok 8 := by kernel_rfl
theorem ag315 : aggT Tryz.prog 315 = .ok false := by kernel_rfl
theorem ze315 : zeroT Tryz.prog 315 = .ok (.nilFunc) := by kernel_rfl
theorem sz316 : szT Tryz.prog 316 = .ok 1 := by kernel_rfl
theorem by316 : bytesT Tryz.prog 316 = .ok 8 := by kernel_rfl
theorem ag316 : aggT Tryz.prog 316 = .ok false := by kernel_rfl
theorem ze316 : zeroT Tryz.prog 316 = .ok (.nilFunc) := by kernel_rfl
theorem sz317 : szT Tryz.prog 317 = .ok 1 := by kernel_rfl
theorem by317 : bytesT Tryz.prog 317 = .ok 8 := by kernel_rfl
theorem ag317 : aggT Tryz.prog 317 = .ok false := by kernel_rfl
theorem ze317 : zeroT Tryz.prog 317 = .ok (.nilFunc) := by kernel_rfl
theorem sz318 : szT Tryz.prog 318 = .ok 1 := by kernel_rfl
theorem by318 : bytesT Tryz.prog 318 = .ok 8 := by kernel_rfl
theorem ag318 : aggT Tryz.prog 318 = .ok false := by kernel_rfl
theorem ze318 : zeroT Tryz.prog 318 = .ok (.int .i64 0) := by kernel_rfl
theorem sz319 : szT Tryz.prog 319 = .ok 1 := by kernel_rfl
theorem by319 : bytesT Tryz.prog 319 = .ok 0 := by kernel_rfl
theorem ag319 : aggT Tryz.prog 319 = .ok false := by kernel_rfl
theorem sz320 : szT Tryz.prog 320 = .ok 1 := by kernel_rfl
theorem by320 : bytesT Tryz.prog 320 = .ok 8 := by kernel_rfl
theorem ag320 : aggT Tryz.prog 320 = .ok false := by kernel_rfl
theorem ze320 : zeroT Tryz.prog 320 = .ok (.nilFunc) := by kernel_rfl
theorem sz321 : szT Tryz.prog 321 = .ok 1 := by kernel_rfl
theorem by321 : bytesT Tryz.prog 321 = .ok 8 := by kernel_rfl
theorem ag321 : aggT Tryz.prog 321 = .ok false := by kernel_rfl
theorem ze321 : zeroT Tryz.prog 321 = .ok (.pointer none) := by kernel_rfl
theorem sz322 : szT Tryz.prog 322 = .ok 1 := by kernel_rfl
theorem by322 : bytesT Tryz.prog 322 = .ok 8 := by kernel_rfl
theorem ag322 : aggT Tryz.prog 322 = .ok false := by kernel_rfl
theorem ze322 : zeroT Tryz.prog 322 = .ok (.nilFunc) := by kernel_rfl
theorem sz323 : szT Tryz.prog 323 = .ok 1 := by kernel_rfl
theorem by323 : bytesT Tryz.prog 323 = .ok 8 := by kernel_rfl
theorem ag323 : aggT Tryz.prog 323 = .ok false := by kernel_rfl
theorem ze323 : zeroT Tryz.prog 323 = .ok (.nilFunc) := by kernel_rfl
theorem sz324 : szT Tryz.prog 324 = .ok 1 := by kernel_rfl
theorem by324 : bytesT Tryz.prog 324 = .ok 8 := by kernel_rfl
theorem ag324 : aggT Tryz.prog 324 = .ok false := by kernel_rfl
theorem ze324 : zeroT Tryz.prog 324 = .ok (.int .u64 0) := by kernel_rfl
theorem sz325 : szT Tryz.prog 325 = .ok 1 := by kernel_rfl
theorem by325 : bytesT Tryz.prog 325 = .ok 8 := by kernel_rfl
theorem ag325 : aggT Tryz.prog 325 = .ok false := by kernel_rfl
theorem ze325 : zeroT Tryz.prog 325 = .ok (.nilFunc) := by kernel_rfl
theorem sz326 : szT Tryz.prog 326 = .ok 1 := by kernel_rfl
theorem by326 : bytesT Tryz.prog 326 = .ok 8 := by kernel_rfl
theorem ag326 : aggT Tryz.prog 326 = .ok false := by kernel_rfl
theorem ze326 : zeroT Tryz.prog 326 = .ok (.nilFunc) := by kernel_rfl
theorem sz327 : szT Tryz.prog 327 = .ok 1 := by kernel_rfl
theorem by327 : bytesT Tryz.prog 327 = .ok 8 := by kernel_rfl
theorem ag327 : aggT Tryz.prog 327 = .ok false := by kernel_rfl
theorem ze327 : zeroT Tryz.prog 327 = .ok (.pointer none) := by kernel_rfl
theorem sz328 : szT Tryz.prog 328 = .ok 1 := by kernel_rfl
theorem by328 : bytesT Tryz.prog 328 = .ok 8 := by kernel_rfl
theorem ag328 : aggT Tryz.prog 328 = .ok false := by kernel_rfl
theorem ze328 : zeroT Tryz.prog 328 = .ok (.nilFunc) := by kernel_rfl
theorem sz329 : szT Tryz.prog 329 = .ok 1 := by kernel_rfl
theorem by329 : bytesT Tryz.prog 329 = .ok 8 := by kernel_rfl
theorem ag329 : aggT Tryz.prog 329 = .ok false := by kernel_rfl
theorem ze329 : zeroT Tryz.prog 329 = .ok (.nilFunc) := by kernel_rfl
theorem sz330 : szT Tryz.prog 330 = .ok 1 := by kernel_rfl
theorem by330 : bytesT Tryz.prog 330 = .ok 8 := by kernel_rfl
theorem ag330 : aggT Tryz.prog 330 = .ok false := by kernel_rfl
theorem ze330 : zeroT Tryz.prog 330 = .ok (.nilFunc) := by kernel_rfl
theorem sz331 : szT Tryz.prog 331 = .ok 1 := by kernel_rfl
theorem by331 : bytesT Tryz.prog 331 = .ok 8 := by kernel_rfl
theorem ag331 : aggT Tryz.prog 331 = .ok false := by kernel_rfl
theorem ze331 : zeroT Tryz.prog 331 = .ok (.pointer none) := by kernel_rfl
theorem sz332 : szT Tryz.prog 332 = .ok 1 := by kernel_rfl
theorem by332 : bytesT Tryz.prog 332 = .ok 8 := by kernel_rfl
theorem ag332 : aggT Tryz.prog 332 = .ok false := by kernel_rfl
theorem ze332 : zeroT Tryz.prog 332 = .ok (.nilFunc) := by kernel_rfl
theorem sz333 : szT Tryz.prog 333 = .ok 1 := by kernel_rfl
theorem by333 : bytesT Tryz.prog 333 = .ok 8 := by kernel_rfl
theorem ag333 : aggT Tryz.prog 333 = .ok false := by kernel_rfl
theorem ze333 : zeroT Tryz.prog 333 = .ok (.pointer none) := by kernel_rfl
theorem sz334 : szT Tryz.prog 334 = .ok 1 := by kernel_rfl
theorem by334 : bytesT Tryz.prog 334 = .ok 8 := by kernel_rfl
theorem ag334 : aggT Tryz.prog 334 = .ok false := by kernel_rfl
theorem ze334 : zeroT Tryz.prog 334 = .ok (.nilFunc) := by kernel_rfl
theorem sz335 : szT Tryz.prog 335 = .ok 1 := by kernel_rfl
theorem by335 : bytesT Tryz.prog 335 = .ok 8 := by kernel_rfl
theorem ag335 : aggT Tryz.prog 335 = .ok false := by kernel_rfl
theorem ze335 : zeroT Tryz.prog 335 = .ok (.nilFunc) := by kernel_rfl
theorem sz336 : szT Tryz.prog 336 = .ok 1 := by kernel_rfl
theorem by336 : bytesT Tryz.prog 336 = .ok 8 := by kernel_rfl
theorem ag336 : aggT Tryz.prog 336 = .ok false := by kernel_rfl
theorem ze336 : zeroT Tryz.prog 336 = .ok (.nilFunc) := by kernel_rfl
theorem sz337 : szT Tryz.prog 337 = .ok 1 := by kernel_rfl
theorem by337 : bytesT Tryz.prog 337 = .ok 8 := by kernel_rfl
theorem ag337 : aggT Tryz.prog 337 = .ok false := by kernel_rfl
theorem ze337 : zeroT Tryz.prog 337 = .ok (.nilFunc) := by kernel_rfl
theorem sz338 : szT Tryz.prog 338 = .ok 20 := by kernel_rfl
theorem by338 : bytesT Tryz.prog 338 = .ok 160 := by kernel_rfl
theorem ag338 : aggT Tryz.prog 338 = .ok true := by kernel_rfl
theorem ze338 : zeroT Tryz.prog 338 = .ok (.agg #[(.int .u64 0), (.int .u64 0), (.int .u64 0), (.int .u64 0), (.int .u64 0), (.int .u64 0), (.int .u64 0), (.int .u64 0), (.int .u64 0), (.int .u64 0), (.int .u64 0), (.int .u64 0), (.int .u64 0), (.int .u64 0), (.int .u64 0), (.int .u64 0), (.int .u64 0), (.int .u64 0), (.int .u64 0), (.int .u64 0)]) := by kernel_rfl
theorem sz339 : szT Tryz.prog 339 = .ok 65 := by kernel_rfl
theorem by339 : bytesT Tryz.prog 339 = .ok 65 := by kernel_rfl
theorem ag339 : aggT Tryz.prog 339 = .ok true := by kernel_rfl
theorem ze339 : zeroT Tryz.prog 339 = .ok (.agg #[(.int .u8 0), (.int .u8 0), (.int .u8 0), (.int .u8 0), (.int .u8 0), (.int .u8 0), (.int .u8 0), (.int .u8 0), (.int .u8 0), (.int .u8 0), (.int .u8 0), (.int .u8 0), (.int .u8 0), (.int .u8 0), (.int .u8 0), (.int .u8 0), (.int .u8 0), (.int .u8 0), (.int .u8 0), (.int .u8 0), (.int .u8 0), (.int .u8 0), (.int .u8 0), (.int .u8 0), (.int .u8 0), (.int .u8 0), (.int .u8 0), (.int .u8 0), (.int .u8 0), (.int .u8 0), (.int .u8 0), (.int .u8 0), (.int .u8 0), (.int .u8 0), (.int .u8 0), (.int .u8 0), (.int .u8 0), (.int .u8 0), (.int .u8 0), (.int .u8 0), (.int .u8 0), (.int .u8 0), (.int .u8 0), (.int .u8 0), (.int .u8 0), (.int .u8 0), (.int .u8 0), (.int .u8 0), (.int .u8 0), (.int .u8 0), (.int .u8 0), (.int .u8 0), (.int .u8 0), (.int .u8 0), (.int .u8 0), (.int .u8 0), (.int .u8 0), (.int .u8 0), (.int .u8 0), (.int .u8 0), (.int .u8 0), (.int .u8 0), (.int .u8 0), (.int .u8 0), (.int .u8 0)]) := by kernel_rfl
theorem sz340 : szT Tryz.prog 340 = .ok 1 := by kernel_rfl
theorem by340 : bytesT Tryz.prog 340 = .ok 8 := by kernel_rfl
theorem ag340 : aggT Tryz.prog 340 = .ok false := by kernel_rfl
theorem ze340 : zeroT Tryz.prog 340 = .ok (.nilFunc) := by kernel_rfl
theorem sz341 : szT Tryz.prog 341 = .ok 256 := by kernel_rfl
theorem by341 : bytesT Tryz.prog 341 = .ok 256 := by kernel_rfl
theorem ag341 : aggT Tryz.prog 341 = .ok true := by kernel_rfl
theorem ze341 : zeroT Tryz.prog 341 = .ok (.agg ⟨List.replicate 256 (.int .u8 0)⟩) := by kernel_rfl
theorem sz342 : szT Tryz.prog 342 = .ok 2 := by kernel_rfl
theorem by342 : bytesT Tryz.prog 342 = .ok 2 := by kernel_rfl
theorem ag342 : aggT Tryz.prog 342 = .ok true := by kernel_rfl
theorem ze342 : zeroT Tryz.prog 342 = .ok (.agg #[(.int .u8 0), (.int .u8 0)]) := by kernel_rfl
theorem sz343 : szT Tryz.prog 343 = .ok 2 := by kernel_rfl
theorem by343 : bytesT Tryz.prog 343 = .ok 2 := by kernel_rfl
theorem ag343 : aggT Tryz.prog 343 = .ok true := by kernel_rfl
theorem ze343 : zeroT Tryz.prog 343 = .ok (.agg #[(.int .u8 0), (.int .u8 0)]) := by kernel_rfl
theorem sz344 : szT Tryz.prog 344 = .ok 32 := by kernel_rfl
theorem by344 : bytesT Tryz.prog 344 = .ok 32 := by kernel_rfl
theorem ag344 : aggT Tryz.prog 344 = .ok true := by kernel_rfl
theorem ze344 : zeroT Tryz.prog 344 = .ok (.agg #[(.int .u8 0), (.int .u8 0), (.int .u8 0), (.int .u8 0), (.int .u8 0), (.int .u8 0), (.int .u8 0), (.int .u8 0), (.int .u8 0), (.int .u8 0), (.int .u8 0), (.int .u8 0), (.int .u8 0), (.int .u8 0), (.int .u8 0), (.int .u8 0), (.int .u8 0), (.int .u8 0), (.int .u8 0), (.int .u8 0), (.int .u8 0), (.int .u8 0), (.int .u8 0), (.int .u8 0), (.int .u8 0), (.int .u8 0), (.int .u8 0), (.int .u8 0), (.int .u8 0), (.int .u8 0), (.int .u8 0), (.int .u8 0)]) := by kernel_rfl
theorem sz345 : szT Tryz.prog 345 = .ok 1 := by kernel_rfl
theorem by345 : bytesT Tryz.prog 345 = .ok 8 := by kernel_rfl
theorem ag345 : aggT Tryz.prog 345 = .ok false := by kernel_rfl
theorem ze345 : zeroT Tryz.prog 345 = .ok (.nilFunc) := by kernel_rfl
theorem sz346 : szT Tryz.prog 346 = .ok 1 := by kernel_rfl
theorem by346 : bytesT Tryz.prog 346 = .ok 8 := by kernel_rfl
theorem ag346 : aggT Tryz.prog 346 = .ok false := by kernel_rfl
theorem ze346 : zeroT Tryz.prog 346 = .ok (.nilFunc) := by kernel_rfl
theorem sz347 : szT Tryz.prog 347 = .ok 1 := by kernel_rfl
theorem by347 : bytesT Tryz.prog 347 = .ok 0 := by kernel_rfl
theorem ag347 : aggT Tryz.prog 347 = .ok false := by kernel_rfl
theorem sz348 : szT Tryz.prog 348 = .ok 1 := by kernel_rfl
theorem by348 : bytesT Tryz.prog 348 = .ok 8 := by kernel_rfl
theorem ag348 : aggT Tryz.prog 348 = .ok false := by kernel_rfl
theorem ze348 : zeroT Tryz.prog 348 = .ok (.nilFunc) := by kernel_rfl
theorem sz349 : szT Tryz.prog 349 = .ok 1 := by kernel_rfl
theorem by349 : bytesT Tryz.prog 349 = .ok 8 := by kernel_rfl
theorem ag349 : aggT Tryz.prog 349 = .ok false := by kernel_rfl
theorem ze349 : zeroT Tryz.prog 349 = .ok (.nilFunc) := by kernel_rfl
theorem sz350 : szT Tryz.prog 350 = .ok 3 := by kernel_rfl
theorem by350 : bytesT Tryz.prog 350 = .ok 48 := by kernel_rfl
theorem ag350 : aggT Tryz.prog 350 = .ok true := by kernel_rfl
theorem ze350 : zeroT Tryz.prog 350 = .ok (.agg #[(.string ⟨⟨[]⟩⟩), (.string ⟨⟨[]⟩⟩), (.nilIface)]) := by kernel_rfl
theorem sz351 : szT Tryz.prog 351 = .ok 3 := by kernel_rfl
theorem by351 : bytesT Tryz.prog 351 = .ok 48 := by kernel_rfl
theorem ag351 : aggT Tryz.prog 351 = .ok true := by kernel_rfl
theorem ze351 : zeroT Tryz.prog 351 = .ok (.agg #[(.string ⟨⟨[]⟩⟩), (.string ⟨⟨[]⟩⟩), (.nilIface)]) := by kernel_rfl
theorem sz352 : szT Tryz.prog 352 = .ok 1 := by kernel_rfl
theorem by352 : bytesT Tryz.prog 352 = .ok 8 := by kernel_rfl
theorem ag352 : aggT Tryz.prog 352 = .ok false := by kernel_rfl
theorem ze352 : zeroT Tryz.prog 352 = .ok (.nilFunc) := by kernel_rfl
theorem sz353 : szT Tryz.prog 353 = .ok 1 := by kernel_rfl
theorem by353 : bytesT Tryz.prog 353 = .ok 8 := by kernel_rfl
theorem ag353 : aggT Tryz.prog 353 = .ok false := by kernel_rfl
theorem ze353 : zeroT Tryz.prog 353 = .ok (.pointer none) := by kernel_rfl
theorem sz354 : szT Tryz.prog 354 = .ok 1 := by kernel_rfl
theorem by354 : bytesT Tryz.prog 354 = .ok 0 := by kernel_rfl
theorem ag354 : aggT Tryz.prog 354 = .ok false := by kernel_rfl
theorem sz355 : szT Tryz.prog 355 = .ok 1 := by kernel_rfl
theorem by355 : bytesT Tryz.prog 355 = .ok 8 := by kernel_rfl
theorem ag355 : aggT Tryz.prog 355 = .ok false := by kernel_rfl
theorem ze355 : zeroT Tryz.prog 355 = .ok (.nilFunc) := by kernel_rfl
theorem sz356 : szT Tryz.prog 356 = .ok 1 := by kernel_rfl
theorem by356 : bytesT Tryz.prog 356 = .ok 8 := by kernel_rfl
theorem ag356 : aggT Tryz.prog 356 = .ok false := by kernel_rfl
theorem ze356 : zeroT Tryz.prog 356 = .ok (.nilFunc) := by kernel_rfl
theorem sz357 : szT Tryz.prog 357 = .ok 1 := by kernel_rfl
theorem by357 : bytesT Tryz.prog 357 = .ok 8 := by kernel_rfl
theorem ag357 : aggT Tryz.prog 357 = .ok false := by kernel_rfl
theorem ze357 : zeroT Tryz.prog 357 = .ok (.nilFunc) := by kernel_rfl
theorem sz358 : szT Tryz.prog 358 = .ok 1 := by kernel_rfl
theorem by358 : bytesT Tryz.prog 358 = .ok 8 := by kernel_rfl
theorem ag358 : aggT Tryz.prog 358 = .ok false := by kernel_rfl
theorem ze358 : zeroT Tryz.prog 358 = .ok (.nilFunc) := by kernel_rfl
theorem sz359 : szT Tryz.prog 359 = .ok 1 := by kernel_rfl
theorem by359 : bytesT Tryz.prog 359 = .ok 8 := by kernel_rfl
theorem ag359 : aggT Tryz.prog 359 = .ok false := by kernel_rfl
theorem ze359 : zeroT Tryz.prog 359 = .ok (.nilFunc) := by kernel_rfl
theorem sz360 : szT Tryz.prog 360 = .ok 1 := by kernel_rfl
theorem by360 : bytesT Tryz.prog 360 = .ok 8 := by kernel_rfl
theorem ag360 : aggT Tryz.prog 360 = .ok false := by kernel_rfl
theorem ze360 : zeroT Tryz.prog 360 = .ok (.pointer none) := by kernel_rfl
theorem sz361 : szT Tryz.prog 361 = .ok 1 := by kernel_rfl
theorem by361 : bytesT Tryz.prog 361 = .ok 16 := by kernel_rfl
theorem ag361 : aggT Tryz.prog 361 = .ok true := by kernel_rfl
theorem ze361 : zeroT Tryz.prog 361 = .ok (.agg #[(.string ⟨⟨[]⟩⟩)]) := by kernel_rfl
theorem sz362 : szT Tryz.prog 362 = .ok 1 := by kernel_rfl
theorem by362 : bytesT Tryz.prog 362 = .ok 16 := by kernel_rfl
theorem ag362 : aggT Tryz.prog 362 = .ok true := by kernel_rfl
theorem ze362 : zeroT Tryz.prog 362 = .ok (.agg #[(.string ⟨⟨[]⟩⟩)]) := by kernel_rfl
theorem sz363 : szT Tryz.prog 363 = .ok 32 := by kernel_rfl
theorem by363 : bytesT Tryz.prog 363 = .ok 32 := by kernel_rfl
theorem ag363 : aggT Tryz.prog 363 = .ok true := by kernel_rfl
theorem ze363 : zeroT Tryz.prog 363 = .ok (.agg #[(.int .u8 0), (.int .u8 0), (.int .u8 0), (.int .u8 0), (.int .u8 0), (.int .u8 0), (.int .u8 0), (.int .u8 0), (.int .u8 0), (.int .u8 0), (.int .u8 0), (.int .u8 0), (.int .u8 0), (.int .u8 0), (.int .u8 0), (.int .u8 0), (.int .u8 0), (.int .u8 0), (.int .u8 0), (.int .u8 0), (.int .u8 0), (.int .u8 0), (.int .u8 0), (.int .u8 0), (.int .u8 0), (.int .u8 0), (.int .u8 0), (.int .u8 0), (.int .u8 0), (.int .u8 0), (.int .u8 0), (.int .u8 0)]) := by kernel_rfl
theorem sz364 : szT Tryz.prog 364 = .ok 64 := by kernel_rfl
theorem by364 : bytesT Tryz.prog 364 = .ok 64 := by kernel_rfl
theorem ag364 : aggT Tryz.prog 364 = .ok true := by kernel_rfl
theorem ze364 : zeroT Tryz.prog 364 = .ok (.agg #[(.int .u8 0), (.int .u8 0), (.int .u8 0), (.int .u8 0), (.int .u8 0), (.int .u8 0), (.int .u8 0), (.int .u8 0), (.int .u8 0), (.int .u8 0), (.int .u8 0), (.int .u8 0), (.int .u8 0), (.int .u8 0), (.int .u8 0), (.int .u8 0), (.int .u8 0), (.int .u8 0), (.int .u8 0), (.int .u8 0), (.int .u8 0), (.int .u8 0), (.int .u8 0), (.int .u8 0), (.int .u8 0), (.int .u8 0), (.int .u8 0), (.int .u8 0), (.int .u8 0), (.int .u8 0), (.int .u8 0), (.int .u8 0), (.int .u8 0), (.int .u8 0), (.int .u8 0), (.int .u8 0), (.int .u8 0), (.int .u8 0), (.int .u8 0), (.int .u8 0), (.int .u8 0), (.int .u8 0), (.int .u8 0), (.int .u8 0), (.int .u8 0), (.int .u8 0), (.int .u8 0), (.int .u8 0), (.int .u8 0), (.int .u8 0), (.int .u8 0), (.int .u8 0), (.int .u8 0), (.int .u8 0), (.int .u8 0), (.int .u8 0), (.int .u8 0), (.int .u8 0), (.int .u8 0), (.int .u8 0), (.int .u8 0), (.int .u8 0), (.int .u8 0), (.int .u8 0)]) := by kernel_rfl
theorem sz365 : szT Tryz.prog 365 = .ok 4 := by kernel_rfl
theorem by365 : bytesT Tryz.prog 365 = .ok 40 := by kernel_rfl
theorem ag365 : aggT Tryz.prog 365 = .ok true := by kernel_rfl
theorem ze365 : zeroT Tryz.prog 365 = .ok (.agg #[(.pointer none), (.pointer none), (.pointer none), (.string ⟨⟨[]⟩⟩)]) := by kernel_rfl
theorem sz366 : szT Tryz.prog 366 = .ok 4 := by kernel_rfl
theorem by366 : bytesT Tryz.prog 366 = .ok 40 := by kernel_rfl
theorem ag366 : aggT Tryz.prog 366 = .ok true := by kernel_rfl
theorem ze366 : zeroT Tryz.prog 366 = .ok (.agg #[(.pointer none), (.pointer none), (.pointer none), (.string ⟨⟨[]⟩⟩)]) := by kernel_rfl
theorem sz367 : szT Tryz.prog 367 = .ok 0 := by kernel_rfl
theorem by367 : bytesT Tryz.prog 367 = .ok 0 := by kernel_rfl
theorem ag367 : aggT Tryz.prog 367 = .ok true := by kernel_rfl
theorem ze367 : zeroT Tryz.prog 367 = .ok (.agg #[]) := by kernel_rfl
theorem sz368 : szT Tryz.prog 368 = .ok 0 := by kernel_rfl
theorem by368 : bytesT Tryz.prog 368 = .ok 0 := by kernel_rfl
theorem ag368 : aggT Tryz.prog 368 = .ok true := by kernel_rfl
theorem ze368 : zeroT Tryz.prog 368 = .ok (.agg #[]) := by kernel_rfl
theorem sz369 : szT Tryz.prog 369 = .ok 0 := by kernel_rfl
theorem by369 : bytesT Tryz.prog 369 = .ok 0 := by kernel_rfl
theorem ag369 : aggT Tryz.prog 369 = .ok true := by kernel_rfl
theorem ze369 : zeroT Tryz.prog 369 = .ok (.agg #[]) := by kernel_rfl
theorem sz370 : szT Tryz.prog 370 = .ok 1 := by kernel_rfl
theorem by370 : bytesT Tryz.prog 370 = .ok 1 := by kernel_rfl
theorem ag370 : aggT Tryz.prog 370 = .ok false := by kernel_rfl
theorem ze370 : zeroT Tryz.prog 370 = .ok (.int .u8 0) := by kernel_rfl
theorem sz371 : szT Tryz.prog 371 = .ok 1 := by kernel_rfl
theorem by371 : bytesT Tryz.prog 371 = .ok 1 := by kernel_rfl
theorem ag371 : aggT Tryz.prog 371 = .ok false := by kernel_rfl
theorem ze371 : zeroT Tryz.prog 371 = .ok (.int .u8 0) := by kernel_rfl
theorem sz372 : szT Tryz.prog 372 = .ok 1 := by kernel_rfl
theorem by372 : bytesT Tryz.prog 372 = .ok 8 := by kernel_rfl
theorem ag372 : aggT Tryz.prog 372 = .ok false := by kernel_rfl
theorem ze372 : zeroT Tryz.prog 372 = .ok (.nilFunc) := by kernel_rfl
theorem sz373 : szT Tryz.prog 373 = .ok 1 := by kernel_rfl
theorem by373 : bytesT Tryz.prog 373 = .ok 4 := by kernel_rfl
theorem ag373 : aggT Tryz.prog 373 = .ok false := by kernel_rfl
theorem ze373 : zeroT Tryz.prog 373 = .ok (.int .i32 0) := by kernel_rfl
theorem sz374 : szT Tryz.prog 374 = .ok 1 := by kernel_rfl
theorem by374 : bytesT Tryz.prog 374 = .ok 4 := by kernel_rfl
theorem ag374 : aggT Tryz.prog 374 = .ok false := by kernel_rfl
theorem ze374 : zeroT Tryz.prog 374 = .ok (.int .i32 0) := by kernel_rfl
theorem sz375 : szT Tryz.prog 375 = .ok 11 := by kernel_rfl
theorem by375 : bytesT Tryz.prog 375 = .ok 48 := by kernel_rfl
theorem ag375 : aggT Tryz.prog 375 = .ok true := by kernel_rfl
theorem ze375 : zeroT Tryz.prog 375 = .ok (.agg #[(.int .u64 0), (.int .u64 0), (.int .u32 0), (.int .u8 0), (.int .u8 0), (.int .u8 0), (.int .u8 0), (.nilFunc), (.pointer none), (.int .i32 0), (.int .i32 0)]) := by kernel_rfl
theorem sz376 : szT Tryz.prog 376 = .ok 11 := by kernel_rfl
theorem by376 : bytesT Tryz.prog 376 = .ok 48 := by kernel_rfl
theorem ag376 : aggT Tryz.prog 376 = .ok true := by kernel_rfl
theorem ze376 : zeroT Tryz.prog 376 = .ok (.agg #[(.int .u64 0), (.int .u64 0), (.int .u32 0), (.int .u8 0), (.int .u8 0), (.int .u8 0), (.int .u8 0), (.nilFunc), (.pointer none), (.int .i32 0), (.int .i32 0)]) := by kernel_rfl
end Go.Proofs.YtdcnkgonfchkmaaGreatDoor.Ty
