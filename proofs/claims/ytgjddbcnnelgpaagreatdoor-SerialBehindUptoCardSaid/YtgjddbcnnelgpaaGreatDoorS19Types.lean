/- A part of the proof of the law SerialBehind. CONDITIONS: those that each theorem names. -/
import Derived.Test.YtgjddbcnnelgpaaGreatDoorS19
namespace Go.Proofs.YtgjddbcnnelgpaaGreatDoor
open Go Go.Ai
set_option maxRecDepth 100000
theorem sz0 : sizeT Tryz.prog 0 = some 1 := by kernel_rfl
theorem ag0 : isAggT Tryz.prog 0 = some false := by kernel_rfl
theorem sz1 : sizeT Tryz.prog 1 = some 1 := by kernel_rfl
theorem ag1 : isAggT Tryz.prog 1 = some false := by kernel_rfl
theorem zr1 : zeroT Tryz.prog 1 = some (.nilf) := by kernel_rfl
theorem sz2 : sizeT Tryz.prog 2 = some 1 := by kernel_rfl
theorem ag2 : isAggT Tryz.prog 2 = some false := by kernel_rfl
theorem zr2 : zeroT Tryz.prog 2 = some (.int .i64 0) := by kernel_rfl
theorem sz3 : sizeT Tryz.prog 3 = some 1 := by kernel_rfl
theorem ag3 : isAggT Tryz.prog 3 = some false := by kernel_rfl
theorem zr3 : zeroT Tryz.prog 3 = some (.int .i64 0) := by kernel_rfl
theorem sz4 : sizeT Tryz.prog 4 = some 1 := by kernel_rfl
theorem ag4 : isAggT Tryz.prog 4 = some false := by kernel_rfl
theorem zr4 : zeroT Tryz.prog 4 = some (.bool false) := by kernel_rfl
theorem sz5 : sizeT Tryz.prog 5 = some 1 := by kernel_rfl
theorem ag5 : isAggT Tryz.prog 5 = some false := by kernel_rfl
theorem zr5 : zeroT Tryz.prog 5 = some (.int .u8 0) := by kernel_rfl
theorem sz6 : sizeT Tryz.prog 6 = some 1 := by kernel_rfl
theorem ag6 : isAggT Tryz.prog 6 = some false := by kernel_rfl
theorem zr6 : zeroT Tryz.prog 6 = some (.int .u8 0) := by kernel_rfl
theorem sz7 : sizeT Tryz.prog 7 = some 4 := by kernel_rfl
theorem ag7 : isAggT Tryz.prog 7 = some true := by kernel_rfl
theorem zr7 : zeroT Tryz.prog 7 = some (.agg [.int .i64 0, .int .i64 0, .bool false, .int .u8 0]) := by kernel_rfl
theorem sz8 : sizeT Tryz.prog 8 = some 4 := by kernel_rfl
theorem ag8 : isAggT Tryz.prog 8 = some true := by kernel_rfl
theorem zr8 : zeroT Tryz.prog 8 = some (.agg [.int .i64 0, .int .i64 0, .bool false, .int .u8 0]) := by kernel_rfl
theorem sz9 : sizeT Tryz.prog 9 = some 1 := by kernel_rfl
theorem ag9 : isAggT Tryz.prog 9 = some false := by kernel_rfl
theorem zr9 : zeroT Tryz.prog 9 = some (.str []) := by kernel_rfl
theorem sz10 : sizeT Tryz.prog 10 = some 1 := by kernel_rfl
theorem ag10 : isAggT Tryz.prog 10 = some false := by kernel_rfl
theorem zr10 : zeroT Tryz.prog 10 = some (.str []) := by kernel_rfl
theorem sz11 : sizeT Tryz.prog 11 = some 1 := by kernel_rfl
theorem ag11 : isAggT Tryz.prog 11 = some false := by kernel_rfl
theorem zr11 : zeroT Tryz.prog 11 = some (.str []) := by kernel_rfl
theorem sz12 : sizeT Tryz.prog 12 = some 1 := by kernel_rfl
theorem ag12 : isAggT Tryz.prog 12 = some false := by kernel_rfl
theorem zr12 : zeroT Tryz.prog 12 = some (.int .u64 0) := by kernel_rfl
theorem sz13 : sizeT Tryz.prog 13 = some 2 := by kernel_rfl
theorem ag13 : isAggT Tryz.prog 13 = some true := by kernel_rfl
theorem zr13 : zeroT Tryz.prog 13 = some (.agg [.str [], .int .u64 0]) := by kernel_rfl
theorem sz14 : sizeT Tryz.prog 14 = some 2 := by kernel_rfl
theorem ag14 : isAggT Tryz.prog 14 = some true := by kernel_rfl
theorem zr14 : zeroT Tryz.prog 14 = some (.agg [.str [], .int .u64 0]) := by kernel_rfl
theorem sz15 : sizeT Tryz.prog 15 = some 1 := by kernel_rfl
theorem ag15 : isAggT Tryz.prog 15 = some false := by kernel_rfl
theorem zr15 : zeroT Tryz.prog 15 = some (.nilp) := by kernel_rfl
theorem sz16 : sizeT Tryz.prog 16 = some 1 := by kernel_rfl
theorem ag16 : isAggT Tryz.prog 16 = some false := by kernel_rfl
theorem zr16 : zeroT Tryz.prog 16 = some (.nilp) := by kernel_rfl
theorem sz17 : sizeT Tryz.prog 17 = some 1 := by kernel_rfl
theorem ag17 : isAggT Tryz.prog 17 = some false := by kernel_rfl
theorem zr17 : zeroT Tryz.prog 17 = some (.nilp) := by kernel_rfl
theorem sz18 : sizeT Tryz.prog 18 = some 1 := by kernel_rfl
theorem ag18 : isAggT Tryz.prog 18 = some true := by kernel_rfl
theorem zr18 : zeroT Tryz.prog 18 = some (.agg [.nilp]) := by kernel_rfl
theorem sz19 : sizeT Tryz.prog 19 = some 1 := by kernel_rfl
theorem ag19 : isAggT Tryz.prog 19 = some true := by kernel_rfl
theorem zr19 : zeroT Tryz.prog 19 = some (.agg [.nilp]) := by kernel_rfl
theorem sz20 : sizeT Tryz.prog 20 = some 1 := by kernel_rfl
theorem ag20 : isAggT Tryz.prog 20 = some false := by kernel_rfl
theorem zr20 : zeroT Tryz.prog 20 = some (.nili) := by kernel_rfl
theorem sz21 : sizeT Tryz.prog 21 = some 1 := by kernel_rfl
theorem ag21 : isAggT Tryz.prog 21 = some false := by kernel_rfl
theorem zr21 : zeroT Tryz.prog 21 = some (.int .i32 0) := by kernel_rfl
theorem sz22 : sizeT Tryz.prog 22 = some 1 := by kernel_rfl
theorem ag22 : isAggT Tryz.prog 22 = some false := by kernel_rfl
theorem zr22 : zeroT Tryz.prog 22 = some (.nils) := by kernel_rfl
theorem sz23 : sizeT Tryz.prog 23 = some 1 := by kernel_rfl
theorem ag23 : isAggT Tryz.prog 23 = some false := by kernel_rfl
theorem zr23 : zeroT Tryz.prog 23 = some (.nils) := by kernel_rfl
theorem sz24 : sizeT Tryz.prog 24 = some 1 := by kernel_rfl
theorem ag24 : isAggT Tryz.prog 24 = some false := by kernel_rfl
theorem zr24 : zeroT Tryz.prog 24 = some (.nilf) := by kernel_rfl
theorem sz25 : sizeT Tryz.prog 25 = some 1 := by kernel_rfl
theorem ag25 : isAggT Tryz.prog 25 = some false := by kernel_rfl
theorem zr25 : zeroT Tryz.prog 25 = some (.nilf) := by kernel_rfl
theorem sz26 : sizeT Tryz.prog 26 = some 1 := by kernel_rfl
theorem ag26 : isAggT Tryz.prog 26 = some false := by kernel_rfl
theorem zr26 : zeroT Tryz.prog 26 = some (.nils) := by kernel_rfl
theorem sz27 : sizeT Tryz.prog 27 = some 1 := by kernel_rfl
theorem ag27 : isAggT Tryz.prog 27 = some false := by kernel_rfl
theorem zr27 : zeroT Tryz.prog 27 = some (.nilf) := by kernel_rfl
theorem sz28 : sizeT Tryz.prog 28 = some 1 := by kernel_rfl
theorem ag28 : isAggT Tryz.prog 28 = some false := by kernel_rfl
theorem zr28 : zeroT Tryz.prog 28 = some (.nilf) := by kernel_rfl
theorem sz29 : sizeT Tryz.prog 29 = some 1 := by kernel_rfl
theorem ag29 : isAggT Tryz.prog 29 = some false := by kernel_rfl
theorem zr29 : zeroT Tryz.prog 29 = some (.nils) := by kernel_rfl
theorem sz30 : sizeT Tryz.prog 30 = some 1 := by kernel_rfl
theorem ag30 : isAggT Tryz.prog 30 = some false := by kernel_rfl
theorem zr30 : zeroT Tryz.prog 30 = some (.nils) := by kernel_rfl
theorem sz31 : sizeT Tryz.prog 31 = some 5 := by kernel_rfl
theorem ag31 : isAggT Tryz.prog 31 = some true := by kernel_rfl
theorem zr31 : zeroT Tryz.prog 31 = some (.agg [.int .i64 0, .int .i64 0, .int .i64 0, .int .i64 0, .nils]) := by kernel_rfl
theorem sz32 : sizeT Tryz.prog 32 = some 5 := by kernel_rfl
theorem ag32 : isAggT Tryz.prog 32 = some true := by kernel_rfl
theorem zr32 : zeroT Tryz.prog 32 = some (.agg [.int .i64 0, .int .i64 0, .int .i64 0, .int .i64 0, .nils]) := by kernel_rfl
theorem sz33 : sizeT Tryz.prog 33 = some 1 := by kernel_rfl
theorem ag33 : isAggT Tryz.prog 33 = some false := by kernel_rfl
theorem zr33 : zeroT Tryz.prog 33 = some (.nilf) := by kernel_rfl
theorem sz34 : sizeT Tryz.prog 34 = some 1 := by kernel_rfl
theorem ag34 : isAggT Tryz.prog 34 = some false := by kernel_rfl
theorem zr34 : zeroT Tryz.prog 34 = some (.nilf) := by kernel_rfl
theorem sz35 : sizeT Tryz.prog 35 = some 1 := by kernel_rfl
theorem ag35 : isAggT Tryz.prog 35 = some false := by kernel_rfl
theorem zr35 : zeroT Tryz.prog 35 = some (.nilf) := by kernel_rfl
theorem sz36 : sizeT Tryz.prog 36 = some 1 := by kernel_rfl
theorem ag36 : isAggT Tryz.prog 36 = some false := by kernel_rfl
theorem zr36 : zeroT Tryz.prog 36 = some (.nilf) := by kernel_rfl
theorem sz37 : sizeT Tryz.prog 37 = some 1 := by kernel_rfl
theorem ag37 : isAggT Tryz.prog 37 = some false := by kernel_rfl
theorem zr37 : zeroT Tryz.prog 37 = some (.nilf) := by kernel_rfl
theorem sz38 : sizeT Tryz.prog 38 = some 2 := by kernel_rfl
theorem ag38 : isAggT Tryz.prog 38 = some true := by kernel_rfl
theorem zr38 : zeroT Tryz.prog 38 = some (.agg [.int .i64 0, .int .i64 0]) := by kernel_rfl
theorem sz39 : sizeT Tryz.prog 39 = some 2 := by kernel_rfl
theorem ag39 : isAggT Tryz.prog 39 = some true := by kernel_rfl
theorem zr39 : zeroT Tryz.prog 39 = some (.agg [.int .i64 0, .int .i64 0]) := by kernel_rfl
theorem sz40 : sizeT Tryz.prog 40 = some 1 := by kernel_rfl
theorem ag40 : isAggT Tryz.prog 40 = some false := by kernel_rfl
theorem zr40 : zeroT Tryz.prog 40 = some (.nils) := by kernel_rfl
theorem sz41 : sizeT Tryz.prog 41 = some 1 := by kernel_rfl
theorem ag41 : isAggT Tryz.prog 41 = some false := by kernel_rfl
theorem zr41 : zeroT Tryz.prog 41 = some (.nilp) := by kernel_rfl
theorem sz42 : sizeT Tryz.prog 42 = some 1 := by kernel_rfl
theorem ag42 : isAggT Tryz.prog 42 = some false := by kernel_rfl
theorem zr42 : zeroT Tryz.prog 42 = some (.nilp) := by kernel_rfl
theorem sz43 : sizeT Tryz.prog 43 = some 1 := by kernel_rfl
theorem ag43 : isAggT Tryz.prog 43 = some false := by kernel_rfl
theorem sz44 : sizeT Tryz.prog 44 = some 1 := by kernel_rfl
theorem ag44 : isAggT Tryz.prog 44 = some false := by kernel_rfl
theorem zr44 : zeroT Tryz.prog 44 = some (.nilf) := by kernel_rfl
theorem sz45 : sizeT Tryz.prog 45 = some 1 := by kernel_rfl
theorem ag45 : isAggT Tryz.prog 45 = some false := by kernel_rfl
theorem zr45 : zeroT Tryz.prog 45 = some (.nils) := by kernel_rfl
theorem sz46 : sizeT Tryz.prog 46 = some 1 := by kernel_rfl
theorem ag46 : isAggT Tryz.prog 46 = some false := by kernel_rfl
theorem zr46 : zeroT Tryz.prog 46 = some (.nils) := by kernel_rfl
theorem sz47 : sizeT Tryz.prog 47 = some 3 := by kernel_rfl
theorem ag47 : isAggT Tryz.prog 47 = some true := by kernel_rfl
theorem zr47 : zeroT Tryz.prog 47 = some (.agg [.int .i64 0, .int .i64 0, .str []]) := by kernel_rfl
theorem sz48 : sizeT Tryz.prog 48 = some 3 := by kernel_rfl
theorem ag48 : isAggT Tryz.prog 48 = some true := by kernel_rfl
theorem zr48 : zeroT Tryz.prog 48 = some (.agg [.int .i64 0, .int .i64 0, .str []]) := by kernel_rfl
theorem sz49 : sizeT Tryz.prog 49 = some 3 := by kernel_rfl
theorem ag49 : isAggT Tryz.prog 49 = some true := by kernel_rfl
theorem zr49 : zeroT Tryz.prog 49 = some (.agg [.int .i64 0, .nils, .nils]) := by kernel_rfl
theorem sz50 : sizeT Tryz.prog 50 = some 3 := by kernel_rfl
theorem ag50 : isAggT Tryz.prog 50 = some true := by kernel_rfl
theorem zr50 : zeroT Tryz.prog 50 = some (.agg [.int .i64 0, .nils, .nils]) := by kernel_rfl
theorem sz51 : sizeT Tryz.prog 51 = some 8 := by kernel_rfl
theorem ag51 : isAggT Tryz.prog 51 = some true := by kernel_rfl
theorem zr51 : zeroT Tryz.prog 51 = some (.agg [.str [], .nils, .bool false, .nils, .nils, .int .i64 0, .nils, .nils]) := by kernel_rfl
theorem sz52 : sizeT Tryz.prog 52 = some 8 := by kernel_rfl
theorem ag52 : isAggT Tryz.prog 52 = some true := by kernel_rfl
theorem zr52 : zeroT Tryz.prog 52 = some (.agg [.str [], .nils, .bool false, .nils, .nils, .int .i64 0, .nils, .nils]) := by kernel_rfl
theorem sz53 : sizeT Tryz.prog 53 = some 1 := by kernel_rfl
theorem ag53 : isAggT Tryz.prog 53 = some false := by kernel_rfl
theorem zr53 : zeroT Tryz.prog 53 = some (.nils) := by kernel_rfl
theorem sz54 : sizeT Tryz.prog 54 = some 1 := by kernel_rfl
theorem ag54 : isAggT Tryz.prog 54 = some false := by kernel_rfl
theorem zr54 : zeroT Tryz.prog 54 = some (.int .u64 0) := by kernel_rfl
theorem sz55 : sizeT Tryz.prog 55 = some 4 := by kernel_rfl
theorem ag55 : isAggT Tryz.prog 55 = some true := by kernel_rfl
theorem zr55 : zeroT Tryz.prog 55 = some (.agg [.int .i64 0, .int .u64 0, .str [], .nils]) := by kernel_rfl
theorem sz56 : sizeT Tryz.prog 56 = some 4 := by kernel_rfl
theorem ag56 : isAggT Tryz.prog 56 = some true := by kernel_rfl
theorem zr56 : zeroT Tryz.prog 56 = some (.agg [.int .i64 0, .int .u64 0, .str [], .nils]) := by kernel_rfl
theorem sz57 : sizeT Tryz.prog 57 = some 2 := by kernel_rfl
theorem ag57 : isAggT Tryz.prog 57 = some true := by kernel_rfl
theorem zr57 : zeroT Tryz.prog 57 = some (.agg [.nils, .nils]) := by kernel_rfl
theorem sz58 : sizeT Tryz.prog 58 = some 2 := by kernel_rfl
theorem ag58 : isAggT Tryz.prog 58 = some true := by kernel_rfl
theorem zr58 : zeroT Tryz.prog 58 = some (.agg [.nils, .nils]) := by kernel_rfl
theorem sz59 : sizeT Tryz.prog 59 = some 7 := by kernel_rfl
theorem ag59 : isAggT Tryz.prog 59 = some true := by kernel_rfl
theorem zr59 : zeroT Tryz.prog 59 = some (.agg [.int .i64 0, .int .u64 0, .str [], .nils, .int .i64 0, .nils, .nils]) := by kernel_rfl
theorem sz60 : sizeT Tryz.prog 60 = some 7 := by kernel_rfl
theorem ag60 : isAggT Tryz.prog 60 = some true := by kernel_rfl
theorem zr60 : zeroT Tryz.prog 60 = some (.agg [.int .i64 0, .int .u64 0, .str [], .nils, .int .i64 0, .nils, .nils]) := by kernel_rfl
theorem sz61 : sizeT Tryz.prog 61 = some 9 := by kernel_rfl
theorem ag61 : isAggT Tryz.prog 61 = some true := by kernel_rfl
theorem zr61 : zeroT Tryz.prog 61 = some (.agg [.int .i64 0, .int .i64 0, .int .i64 0, .int .u64 0, .str [], .nils, .int .i64 0, .nils, .nils]) := by kernel_rfl
theorem sz62 : sizeT Tryz.prog 62 = some 9 := by kernel_rfl
theorem ag62 : isAggT Tryz.prog 62 = some true := by kernel_rfl
theorem zr62 : zeroT Tryz.prog 62 = some (.agg [.int .i64 0, .int .i64 0, .int .i64 0, .int .u64 0, .str [], .nils, .int .i64 0, .nils, .nils]) := by kernel_rfl
theorem sz63 : sizeT Tryz.prog 63 = some 1 := by kernel_rfl
theorem ag63 : isAggT Tryz.prog 63 = some false := by kernel_rfl
theorem zr63 : zeroT Tryz.prog 63 = some (.nilp) := by kernel_rfl
theorem sz64 : sizeT Tryz.prog 64 = some 1 := by kernel_rfl
theorem ag64 : isAggT Tryz.prog 64 = some false := by kernel_rfl
theorem zr64 : zeroT Tryz.prog 64 = some (.int .i64 0) := by kernel_rfl
theorem sz65 : sizeT Tryz.prog 65 = some 1 := by kernel_rfl
theorem ag65 : isAggT Tryz.prog 65 = some false := by kernel_rfl
theorem sz66 : sizeT Tryz.prog 66 = some 1 := by kernel_rfl
theorem ag66 : isAggT Tryz.prog 66 = some false := by kernel_rfl
theorem zr66 : zeroT Tryz.prog 66 = some (.nilf) := by kernel_rfl
theorem sz67 : sizeT Tryz.prog 67 = some 3 := by kernel_rfl
theorem ag67 : isAggT Tryz.prog 67 = some true := by kernel_rfl
theorem zr67 : zeroT Tryz.prog 67 = some (.agg [.int .i64 0, .int .i64 0, .int .i64 0]) := by kernel_rfl
theorem sz68 : sizeT Tryz.prog 68 = some 3 := by kernel_rfl
theorem ag68 : isAggT Tryz.prog 68 = some true := by kernel_rfl
theorem zr68 : zeroT Tryz.prog 68 = some (.agg [.int .i64 0, .int .i64 0, .int .i64 0]) := by kernel_rfl
theorem sz69 : sizeT Tryz.prog 69 = some 1 := by kernel_rfl
theorem ag69 : isAggT Tryz.prog 69 = some false := by kernel_rfl
theorem zr69 : zeroT Tryz.prog 69 = some (.nils) := by kernel_rfl
theorem sz70 : sizeT Tryz.prog 70 = some 1 := by kernel_rfl
theorem ag70 : isAggT Tryz.prog 70 = some false := by kernel_rfl
theorem zr70 : zeroT Tryz.prog 70 = some (.nilf) := by kernel_rfl
theorem sz71 : sizeT Tryz.prog 71 = some 1 := by kernel_rfl
theorem ag71 : isAggT Tryz.prog 71 = some false := by kernel_rfl
theorem zr71 : zeroT Tryz.prog 71 = some (.nilf) := by kernel_rfl
theorem sz72 : sizeT Tryz.prog 72 = some 1 := by kernel_rfl
theorem ag72 : isAggT Tryz.prog 72 = some false := by kernel_rfl
theorem zr72 : zeroT Tryz.prog 72 = some (.nilm) := by kernel_rfl
theorem sz73 : sizeT Tryz.prog 73 = some 2 := by kernel_rfl
theorem ag73 : isAggT Tryz.prog 73 = some true := by kernel_rfl
theorem zr73 : zeroT Tryz.prog 73 = some (.agg [.str [], .int .i64 0]) := by kernel_rfl
theorem sz74 : sizeT Tryz.prog 74 = some 2 := by kernel_rfl
theorem ag74 : isAggT Tryz.prog 74 = some true := by kernel_rfl
theorem zr74 : zeroT Tryz.prog 74 = some (.agg [.str [], .int .i64 0]) := by kernel_rfl
theorem sz75 : sizeT Tryz.prog 75 = some 1 := by kernel_rfl
theorem ag75 : isAggT Tryz.prog 75 = some false := by kernel_rfl
theorem zr75 : zeroT Tryz.prog 75 = some (.nilf) := by kernel_rfl
theorem sz76 : sizeT Tryz.prog 76 = some 1 := by kernel_rfl
theorem ag76 : isAggT Tryz.prog 76 = some false := by kernel_rfl
theorem zr76 : zeroT Tryz.prog 76 = some (.nils) := by kernel_rfl
theorem sz77 : sizeT Tryz.prog 77 = some 7 := by kernel_rfl
theorem ag77 : isAggT Tryz.prog 77 = some true := by kernel_rfl
theorem zr77 : zeroT Tryz.prog 77 = some (.agg [.str [], .str [], .str [], .str [], .str [], .str [], .str []]) := by kernel_rfl
theorem sz78 : sizeT Tryz.prog 78 = some 1 := by kernel_rfl
theorem ag78 : isAggT Tryz.prog 78 = some false := by kernel_rfl
theorem zr78 : zeroT Tryz.prog 78 = some (.nilp) := by kernel_rfl
theorem sz79 : sizeT Tryz.prog 79 = some 1 := by kernel_rfl
theorem ag79 : isAggT Tryz.prog 79 = some false := by kernel_rfl
theorem zr79 : zeroT Tryz.prog 79 = some (.nils) := by kernel_rfl
theorem sz80 : sizeT Tryz.prog 80 = some 2 := by kernel_rfl
theorem ag80 : isAggT Tryz.prog 80 = some true := by kernel_rfl
theorem zr80 : zeroT Tryz.prog 80 = some (.agg [.nilp, .nils]) := by kernel_rfl
theorem sz81 : sizeT Tryz.prog 81 = some 2 := by kernel_rfl
theorem ag81 : isAggT Tryz.prog 81 = some true := by kernel_rfl
theorem zr81 : zeroT Tryz.prog 81 = some (.agg [.nilp, .nils]) := by kernel_rfl
theorem sz82 : sizeT Tryz.prog 82 = some 1 := by kernel_rfl
theorem ag82 : isAggT Tryz.prog 82 = some false := by kernel_rfl
theorem zr82 : zeroT Tryz.prog 82 = some (.nili) := by kernel_rfl
theorem sz83 : sizeT Tryz.prog 83 = some 1 := by kernel_rfl
theorem ag83 : isAggT Tryz.prog 83 = some false := by kernel_rfl
theorem zr83 : zeroT Tryz.prog 83 = some (.nili) := by kernel_rfl
theorem sz84 : sizeT Tryz.prog 84 = some 1 := by kernel_rfl
theorem ag84 : isAggT Tryz.prog 84 = some false := by kernel_rfl
theorem sz85 : sizeT Tryz.prog 85 = some 1 := by kernel_rfl
theorem ag85 : isAggT Tryz.prog 85 = some false := by kernel_rfl
theorem zr85 : zeroT Tryz.prog 85 = some (.nilf) := by kernel_rfl
theorem sz86 : sizeT Tryz.prog 86 = some 1 := by kernel_rfl
theorem ag86 : isAggT Tryz.prog 86 = some false := by kernel_rfl
theorem zr86 : zeroT Tryz.prog 86 = some (.nilf) := by kernel_rfl
theorem sz87 : sizeT Tryz.prog 87 = some 1 := by kernel_rfl
theorem ag87 : isAggT Tryz.prog 87 = some false := by kernel_rfl
theorem zr87 : zeroT Tryz.prog 87 = some (.nilf) := by kernel_rfl
theorem sz88 : sizeT Tryz.prog 88 = some 1 := by kernel_rfl
theorem ag88 : isAggT Tryz.prog 88 = some false := by kernel_rfl
theorem zr88 : zeroT Tryz.prog 88 = some (.nilf) := by kernel_rfl
theorem sz89 : sizeT Tryz.prog 89 = some 1 := by kernel_rfl
theorem ag89 : isAggT Tryz.prog 89 = some false := by kernel_rfl
theorem zr89 : zeroT Tryz.prog 89 = some (.nilf) := by kernel_rfl
theorem sz90 : sizeT Tryz.prog 90 = some 1 := by kernel_rfl
theorem ag90 : isAggT Tryz.prog 90 = some false := by kernel_rfl
theorem zr90 : zeroT Tryz.prog 90 = some (.nilf) := by kernel_rfl
theorem sz91 : sizeT Tryz.prog 91 = some 1 := by kernel_rfl
theorem ag91 : isAggT Tryz.prog 91 = some false := by kernel_rfl
theorem zr91 : zeroT Tryz.prog 91 = some (.nilf) := by kernel_rfl
theorem sz92 : sizeT Tryz.prog 92 = some 1 := by kernel_rfl
theorem ag92 : isAggT Tryz.prog 92 = some false := by kernel_rfl
theorem sz93 : sizeT Tryz.prog 93 = some 1 := by kernel_rfl
theorem ag93 : isAggT Tryz.prog 93 = some false := by kernel_rfl
theorem zr93 : zeroT Tryz.prog 93 = some (.nilf) := by kernel_rfl
theorem sz94 : sizeT Tryz.prog 94 = some 1 := by kernel_rfl
theorem ag94 : isAggT Tryz.prog 94 = some false := by kernel_rfl
theorem zr94 : zeroT Tryz.prog 94 = some (.nilf) := by kernel_rfl
theorem sz95 : sizeT Tryz.prog 95 = some 1 := by kernel_rfl
theorem ag95 : isAggT Tryz.prog 95 = some false := by kernel_rfl
theorem sz96 : sizeT Tryz.prog 96 = some 1 := by kernel_rfl
theorem ag96 : isAggT Tryz.prog 96 = some false := by kernel_rfl
theorem zr96 : zeroT Tryz.prog 96 = some (.nilf) := by kernel_rfl
theorem sz97 : sizeT Tryz.prog 97 = some 1 := by kernel_rfl
theorem ag97 : isAggT Tryz.prog 97 = some false := by kernel_rfl
theorem sz98 : sizeT Tryz.prog 98 = some 1 := by kernel_rfl
theorem ag98 : isAggT Tryz.prog 98 = some false := by kernel_rfl
theorem zr98 : zeroT Tryz.prog 98 = some (.nilf) := by kernel_rfl
theorem sz99 : sizeT Tryz.prog 99 = some 1 := by kernel_rfl
theorem ag99 : isAggT Tryz.prog 99 = some false := by kernel_rfl
theorem sz100 : sizeT Tryz.prog 100 = some 1 := by kernel_rfl
theorem ag100 : isAggT Tryz.prog 100 = some false := by kernel_rfl
theorem zr100 : zeroT Tryz.prog 100 = some (.nilf) := by kernel_rfl
theorem sz101 : sizeT Tryz.prog 101 = some 1 := by kernel_rfl
theorem ag101 : isAggT Tryz.prog 101 = some false := by kernel_rfl
theorem sz102 : sizeT Tryz.prog 102 = some 1 := by kernel_rfl
theorem ag102 : isAggT Tryz.prog 102 = some false := by kernel_rfl
theorem zr102 : zeroT Tryz.prog 102 = some (.nilf) := by kernel_rfl
theorem sz103 : sizeT Tryz.prog 103 = some 1 := by kernel_rfl
theorem ag103 : isAggT Tryz.prog 103 = some false := by kernel_rfl
theorem sz104 : sizeT Tryz.prog 104 = some 1 := by kernel_rfl
theorem ag104 : isAggT Tryz.prog 104 = some false := by kernel_rfl
theorem zr104 : zeroT Tryz.prog 104 = some (.nilf) := by kernel_rfl
theorem sz105 : sizeT Tryz.prog 105 = some 1 := by kernel_rfl
theorem ag105 : isAggT Tryz.prog 105 = some false := by kernel_rfl
theorem zr105 : zeroT Tryz.prog 105 = some (.nils) := by kernel_rfl
theorem sz106 : sizeT Tryz.prog 106 = some 1 := by kernel_rfl
theorem ag106 : isAggT Tryz.prog 106 = some false := by kernel_rfl
theorem zr106 : zeroT Tryz.prog 106 = some (.nilm) := by kernel_rfl
theorem sz107 : sizeT Tryz.prog 107 = some 3 := by kernel_rfl
theorem ag107 : isAggT Tryz.prog 107 = some true := by kernel_rfl
theorem zr107 : zeroT Tryz.prog 107 = some (.agg [.int .i64 0, .nils, .nilm]) := by kernel_rfl
theorem sz108 : sizeT Tryz.prog 108 = some 3 := by kernel_rfl
theorem ag108 : isAggT Tryz.prog 108 = some true := by kernel_rfl
theorem zr108 : zeroT Tryz.prog 108 = some (.agg [.int .i64 0, .nils, .nilm]) := by kernel_rfl
theorem sz109 : sizeT Tryz.prog 109 = some 1 := by kernel_rfl
theorem ag109 : isAggT Tryz.prog 109 = some false := by kernel_rfl
theorem zr109 : zeroT Tryz.prog 109 = some (.nilf) := by kernel_rfl
theorem sz110 : sizeT Tryz.prog 110 = some 1 := by kernel_rfl
theorem ag110 : isAggT Tryz.prog 110 = some false := by kernel_rfl
theorem zr110 : zeroT Tryz.prog 110 = some (.nilf) := by kernel_rfl
theorem sz111 : sizeT Tryz.prog 111 = some 1 := by kernel_rfl
theorem ag111 : isAggT Tryz.prog 111 = some false := by kernel_rfl
theorem zr111 : zeroT Tryz.prog 111 = some (.int .u64 0) := by kernel_rfl
theorem sz112 : sizeT Tryz.prog 112 = some 1 := by kernel_rfl
theorem ag112 : isAggT Tryz.prog 112 = some false := by kernel_rfl
theorem zr112 : zeroT Tryz.prog 112 = some (.nilp) := by kernel_rfl
theorem sz113 : sizeT Tryz.prog 113 = some 1 := by kernel_rfl
theorem ag113 : isAggT Tryz.prog 113 = some false := by kernel_rfl
theorem zr113 : zeroT Tryz.prog 113 = some (.nilf) := by kernel_rfl
theorem sz114 : sizeT Tryz.prog 114 = some 1 := by kernel_rfl
theorem ag114 : isAggT Tryz.prog 114 = some false := by kernel_rfl
theorem zr114 : zeroT Tryz.prog 114 = some (.nilf) := by kernel_rfl
theorem sz115 : sizeT Tryz.prog 115 = some 1 := by kernel_rfl
theorem ag115 : isAggT Tryz.prog 115 = some false := by kernel_rfl
theorem zr115 : zeroT Tryz.prog 115 = some (.nilf) := by kernel_rfl
theorem sz116 : sizeT Tryz.prog 116 = some 1 := by kernel_rfl
theorem ag116 : isAggT Tryz.prog 116 = some false := by kernel_rfl
theorem zr116 : zeroT Tryz.prog 116 = some (.nilf) := by kernel_rfl
theorem sz117 : sizeT Tryz.prog 117 = some 1 := by kernel_rfl
theorem ag117 : isAggT Tryz.prog 117 = some false := by kernel_rfl
theorem zr117 : zeroT Tryz.prog 117 = some (.nilm) := by kernel_rfl
theorem sz118 : sizeT Tryz.prog 118 = some 1 := by kernel_rfl
theorem ag118 : isAggT Tryz.prog 118 = some true := by kernel_rfl
theorem zr118 : zeroT Tryz.prog 118 = some (.agg [.nilm]) := by kernel_rfl
theorem sz119 : sizeT Tryz.prog 119 = some 1 := by kernel_rfl
theorem ag119 : isAggT Tryz.prog 119 = some true := by kernel_rfl
theorem zr119 : zeroT Tryz.prog 119 = some (.agg [.nilm]) := by kernel_rfl
theorem sz120 : sizeT Tryz.prog 120 = some 1 := by kernel_rfl
theorem ag120 : isAggT Tryz.prog 120 = some false := by kernel_rfl
theorem zr120 : zeroT Tryz.prog 120 = some (.nilf) := by kernel_rfl
theorem sz121 : sizeT Tryz.prog 121 = some 1 := by kernel_rfl
theorem ag121 : isAggT Tryz.prog 121 = some true := by kernel_rfl
theorem zr121 : zeroT Tryz.prog 121 = some (.agg [.nils]) := by kernel_rfl
theorem sz122 : sizeT Tryz.prog 122 = some 1 := by kernel_rfl
theorem ag122 : isAggT Tryz.prog 122 = some true := by kernel_rfl
theorem zr122 : zeroT Tryz.prog 122 = some (.agg [.nils]) := by kernel_rfl
theorem sz123 : sizeT Tryz.prog 123 = some 1 := by kernel_rfl
theorem ag123 : isAggT Tryz.prog 123 = some false := by kernel_rfl
theorem zr123 : zeroT Tryz.prog 123 = some (.nilf) := by kernel_rfl
theorem sz124 : sizeT Tryz.prog 124 = some 1 := by kernel_rfl
theorem ag124 : isAggT Tryz.prog 124 = some false := by kernel_rfl
theorem sz125 : sizeT Tryz.prog 125 = some 1 := by kernel_rfl
theorem ag125 : isAggT Tryz.prog 125 = some false := by kernel_rfl
theorem zr125 : zeroT Tryz.prog 125 = some (.nilf) := by kernel_rfl
theorem sz126 : sizeT Tryz.prog 126 = some 1 := by kernel_rfl
theorem ag126 : isAggT Tryz.prog 126 = some false := by kernel_rfl
theorem zr126 : zeroT Tryz.prog 126 = some (.nilf) := by kernel_rfl
theorem sz127 : sizeT Tryz.prog 127 = some 1 := by kernel_rfl
theorem ag127 : isAggT Tryz.prog 127 = some false := by kernel_rfl
theorem zr127 : zeroT Tryz.prog 127 = some (.nilm) := by kernel_rfl
theorem sz128 : sizeT Tryz.prog 128 = some 1 := by kernel_rfl
theorem ag128 : isAggT Tryz.prog 128 = some false := by kernel_rfl
theorem zr128 : zeroT Tryz.prog 128 = some (.nilf) := by kernel_rfl
theorem sz129 : sizeT Tryz.prog 129 = some 1 := by kernel_rfl
theorem ag129 : isAggT Tryz.prog 129 = some false := by kernel_rfl
theorem zr129 : zeroT Tryz.prog 129 = some (.nilf) := by kernel_rfl
theorem sz130 : sizeT Tryz.prog 130 = some 1 := by kernel_rfl
theorem ag130 : isAggT Tryz.prog 130 = some false := by kernel_rfl
theorem zr130 : zeroT Tryz.prog 130 = some (.nilf) := by kernel_rfl
theorem sz131 : sizeT Tryz.prog 131 = some 1 := by kernel_rfl
theorem ag131 : isAggT Tryz.prog 131 = some false := by kernel_rfl
theorem zr131 : zeroT Tryz.prog 131 = some (.int .i64 0) := by kernel_rfl
theorem sz132 : sizeT Tryz.prog 132 = some 1 := by kernel_rfl
theorem ag132 : isAggT Tryz.prog 132 = some false := by kernel_rfl
theorem sz133 : sizeT Tryz.prog 133 = some 1 := by kernel_rfl
theorem ag133 : isAggT Tryz.prog 133 = some false := by kernel_rfl
theorem zr133 : zeroT Tryz.prog 133 = some (.nilf) := by kernel_rfl
theorem sz134 : sizeT Tryz.prog 134 = some 1 := by kernel_rfl
theorem ag134 : isAggT Tryz.prog 134 = some false := by kernel_rfl
theorem zr134 : zeroT Tryz.prog 134 = some (.nilf) := by kernel_rfl
theorem sz135 : sizeT Tryz.prog 135 = some 1 := by kernel_rfl
theorem ag135 : isAggT Tryz.prog 135 = some false := by kernel_rfl
theorem zr135 : zeroT Tryz.prog 135 = some (.nilf) := by kernel_rfl
theorem sz136 : sizeT Tryz.prog 136 = some 1 := by kernel_rfl
theorem ag136 : isAggT Tryz.prog 136 = some false := by kernel_rfl
theorem zr136 : zeroT Tryz.prog 136 = some (.nilf) := by kernel_rfl
theorem sz137 : sizeT Tryz.prog 137 = some 1 := by kernel_rfl
theorem ag137 : isAggT Tryz.prog 137 = some false := by kernel_rfl
theorem sz138 : sizeT Tryz.prog 138 = some 1 := by kernel_rfl
theorem ag138 : isAggT Tryz.prog 138 = some false := by kernel_rfl
theorem zr138 : zeroT Tryz.prog 138 = some (.nilf) := by kernel_rfl
theorem sz139 : sizeT Tryz.prog 139 = some 1 := by kernel_rfl
theorem ag139 : isAggT Tryz.prog 139 = some false := by kernel_rfl
theorem zr139 : zeroT Tryz.prog 139 = some (.nilf) := by kernel_rfl
theorem sz140 : sizeT Tryz.prog 140 = some 1 := by kernel_rfl
theorem ag140 : isAggT Tryz.prog 140 = some false := by kernel_rfl
theorem zr140 : zeroT Tryz.prog 140 = some (.int .u32 0) := by kernel_rfl
theorem sz141 : sizeT Tryz.prog 141 = some 1 := by kernel_rfl
theorem ag141 : isAggT Tryz.prog 141 = some false := by kernel_rfl
theorem zr141 : zeroT Tryz.prog 141 = some (.nilf) := by kernel_rfl
theorem sz142 : sizeT Tryz.prog 142 = some 1 := by kernel_rfl
theorem ag142 : isAggT Tryz.prog 142 = some false := by kernel_rfl
theorem zr142 : zeroT Tryz.prog 142 = some (.nilp) := by kernel_rfl
theorem sz143 : sizeT Tryz.prog 143 = some 1 := by kernel_rfl
theorem ag143 : isAggT Tryz.prog 143 = some false := by kernel_rfl
theorem zr143 : zeroT Tryz.prog 143 = some (.nilf) := by kernel_rfl
theorem sz144 : sizeT Tryz.prog 144 = some 1 := by kernel_rfl
theorem ag144 : isAggT Tryz.prog 144 = some false := by kernel_rfl
theorem zr144 : zeroT Tryz.prog 144 = some (.nilf) := by kernel_rfl
theorem sz145 : sizeT Tryz.prog 145 = some 1 := by kernel_rfl
theorem ag145 : isAggT Tryz.prog 145 = some false := by kernel_rfl
theorem zr145 : zeroT Tryz.prog 145 = some (.nilf) := by kernel_rfl
theorem sz146 : sizeT Tryz.prog 146 = some 1 := by kernel_rfl
theorem ag146 : isAggT Tryz.prog 146 = some false := by kernel_rfl
theorem zr146 : zeroT Tryz.prog 146 = some (.nilf) := by kernel_rfl
theorem sz147 : sizeT Tryz.prog 147 = some 1 := by kernel_rfl
theorem ag147 : isAggT Tryz.prog 147 = some false := by kernel_rfl
theorem zr147 : zeroT Tryz.prog 147 = some (.nilf) := by kernel_rfl
theorem sz148 : sizeT Tryz.prog 148 = some 1 := by kernel_rfl
theorem ag148 : isAggT Tryz.prog 148 = some false := by kernel_rfl
theorem sz149 : sizeT Tryz.prog 149 = some 1 := by kernel_rfl
theorem ag149 : isAggT Tryz.prog 149 = some false := by kernel_rfl
theorem zr149 : zeroT Tryz.prog 149 = some (.nilf) := by kernel_rfl
theorem sz150 : sizeT Tryz.prog 150 = some 1 := by kernel_rfl
theorem ag150 : isAggT Tryz.prog 150 = some false := by kernel_rfl
theorem zr150 : zeroT Tryz.prog 150 = some (.nilf) := by kernel_rfl
theorem sz151 : sizeT Tryz.prog 151 = some 1 := by kernel_rfl
theorem ag151 : isAggT Tryz.prog 151 = some false := by kernel_rfl
theorem zr151 : zeroT Tryz.prog 151 = some (.nils) := by kernel_rfl
theorem sz152 : sizeT Tryz.prog 152 = some 1 := by kernel_rfl
theorem ag152 : isAggT Tryz.prog 152 = some false := by kernel_rfl
theorem sz153 : sizeT Tryz.prog 153 = some 1 := by kernel_rfl
theorem ag153 : isAggT Tryz.prog 153 = some false := by kernel_rfl
theorem zr153 : zeroT Tryz.prog 153 = some (.nilf) := by kernel_rfl
theorem sz154 : sizeT Tryz.prog 154 = some 1 := by kernel_rfl
theorem ag154 : isAggT Tryz.prog 154 = some false := by kernel_rfl
theorem zr154 : zeroT Tryz.prog 154 = some (.int .u64 0) := by kernel_rfl
theorem sz155 : sizeT Tryz.prog 155 = some 1 := by kernel_rfl
theorem ag155 : isAggT Tryz.prog 155 = some false := by kernel_rfl
theorem zr155 : zeroT Tryz.prog 155 = some (.nilf) := by kernel_rfl
theorem sz156 : sizeT Tryz.prog 156 = some 1 := by kernel_rfl
theorem ag156 : isAggT Tryz.prog 156 = some false := by kernel_rfl
theorem zr156 : zeroT Tryz.prog 156 = some (.nilf) := by kernel_rfl
theorem sz157 : sizeT Tryz.prog 157 = some 1 := by kernel_rfl
theorem ag157 : isAggT Tryz.prog 157 = some false := by kernel_rfl
theorem zr157 : zeroT Tryz.prog 157 = some (.nilf) := by kernel_rfl
theorem sz158 : sizeT Tryz.prog 158 = some 1 := by kernel_rfl
theorem ag158 : isAggT Tryz.prog 158 = some false := by kernel_rfl
theorem zr158 : zeroT Tryz.prog 158 = some (.nilp) := by kernel_rfl
theorem sz159 : sizeT Tryz.prog 159 = some 1 := by kernel_rfl
theorem ag159 : isAggT Tryz.prog 159 = some false := by kernel_rfl
theorem zr159 : zeroT Tryz.prog 159 = some (.nilf) := by kernel_rfl
theorem sz160 : sizeT Tryz.prog 160 = some 1 := by kernel_rfl
theorem ag160 : isAggT Tryz.prog 160 = some false := by kernel_rfl
theorem zr160 : zeroT Tryz.prog 160 = some (.nilf) := by kernel_rfl
theorem sz161 : sizeT Tryz.prog 161 = some 24 := by kernel_rfl
theorem ag161 : isAggT Tryz.prog 161 = some true := by kernel_rfl
theorem zr161 : zeroT Tryz.prog 161 = some (.agg [.int .u8 0, .int .u8 0, .int .u8 0, .int .u8 0, .int .u8 0, .int .u8 0, .int .u8 0, .int .u8 0, .int .u8 0, .int .u8 0, .int .u8 0, .int .u8 0, .int .u8 0, .int .u8 0, .int .u8 0, .int .u8 0, .int .u8 0, .int .u8 0, .int .u8 0, .int .u8 0, .int .u8 0, .int .u8 0, .int .u8 0, .int .u8 0]) := by kernel_rfl
theorem sz162 : sizeT Tryz.prog 162 = some 1 := by kernel_rfl
theorem ag162 : isAggT Tryz.prog 162 = some false := by kernel_rfl
theorem zr162 : zeroT Tryz.prog 162 = some (.nilf) := by kernel_rfl
theorem sz163 : sizeT Tryz.prog 163 = some 1 := by kernel_rfl
theorem ag163 : isAggT Tryz.prog 163 = some false := by kernel_rfl
theorem sz164 : sizeT Tryz.prog 164 = some 1 := by kernel_rfl
theorem ag164 : isAggT Tryz.prog 164 = some false := by kernel_rfl
theorem zr164 : zeroT Tryz.prog 164 = some (.nilf) := by kernel_rfl
theorem sz165 : sizeT Tryz.prog 165 = some 1 := by kernel_rfl
theorem ag165 : isAggT Tryz.prog 165 = some false := by kernel_rfl
theorem zr165 : zeroT Tryz.prog 165 = some (.nilf) := by kernel_rfl
theorem sz166 : sizeT Tryz.prog 166 = some 1 := by kernel_rfl
theorem ag166 : isAggT Tryz.prog 166 = some false := by kernel_rfl
theorem zr166 : zeroT Tryz.prog 166 = some (.nilf) := by kernel_rfl
theorem sz167 : sizeT Tryz.prog 167 = some 1 := by kernel_rfl
theorem ag167 : isAggT Tryz.prog 167 = some false := by kernel_rfl
theorem zr167 : zeroT Tryz.prog 167 = some (.nilf) := by kernel_rfl
theorem sz168 : sizeT Tryz.prog 168 = some 1 := by kernel_rfl
theorem ag168 : isAggT Tryz.prog 168 = some false := by kernel_rfl
theorem zr168 : zeroT Tryz.prog 168 = some (.nilf) := by kernel_rfl
theorem sz169 : sizeT Tryz.prog 169 = some 1 := by kernel_rfl
theorem ag169 : isAggT Tryz.prog 169 = some false := by kernel_rfl
theorem sz170 : sizeT Tryz.prog 170 = some 1 := by kernel_rfl
theorem ag170 : isAggT Tryz.prog 170 = some false := by kernel_rfl
theorem zr170 : zeroT Tryz.prog 170 = some (.nilf) := by kernel_rfl
theorem sz171 : sizeT Tryz.prog 171 = some 1 := by kernel_rfl
theorem ag171 : isAggT Tryz.prog 171 = some false := by kernel_rfl
theorem zr171 : zeroT Tryz.prog 171 = some (.nilf) := by kernel_rfl
theorem sz172 : sizeT Tryz.prog 172 = some 1 := by kernel_rfl
theorem ag172 : isAggT Tryz.prog 172 = some false := by kernel_rfl
theorem zr172 : zeroT Tryz.prog 172 = some (.nilf) := by kernel_rfl
theorem sz173 : sizeT Tryz.prog 173 = some 1 := by kernel_rfl
theorem ag173 : isAggT Tryz.prog 173 = some false := by kernel_rfl
theorem zr173 : zeroT Tryz.prog 173 = some (.nilf) := by kernel_rfl
theorem sz174 : sizeT Tryz.prog 174 = some 1 := by kernel_rfl
theorem ag174 : isAggT Tryz.prog 174 = some false := by kernel_rfl
theorem zr174 : zeroT Tryz.prog 174 = some (.nilf) := by kernel_rfl
theorem sz175 : sizeT Tryz.prog 175 = some 1 := by kernel_rfl
theorem ag175 : isAggT Tryz.prog 175 = some false := by kernel_rfl
theorem sz176 : sizeT Tryz.prog 176 = some 1 := by kernel_rfl
theorem ag176 : isAggT Tryz.prog 176 = some false := by kernel_rfl
theorem zr176 : zeroT Tryz.prog 176 = some (.nilf) := by kernel_rfl
theorem sz177 : sizeT Tryz.prog 177 = some 1 := by kernel_rfl
theorem ag177 : isAggT Tryz.prog 177 = some false := by kernel_rfl
theorem sz178 : sizeT Tryz.prog 178 = some 1 := by kernel_rfl
theorem ag178 : isAggT Tryz.prog 178 = some false := by kernel_rfl
theorem zr178 : zeroT Tryz.prog 178 = some (.nilf) := by kernel_rfl
theorem sz179 : sizeT Tryz.prog 179 = some 1 := by kernel_rfl
theorem ag179 : isAggT Tryz.prog 179 = some false := by kernel_rfl
theorem sz180 : sizeT Tryz.prog 180 = some 1 := by kernel_rfl
theorem ag180 : isAggT Tryz.prog 180 = some false := by kernel_rfl
theorem zr180 : zeroT Tryz.prog 180 = some (.nilf) := by kernel_rfl
theorem sz181 : sizeT Tryz.prog 181 = some 1 := by kernel_rfl
theorem ag181 : isAggT Tryz.prog 181 = some false := by kernel_rfl
theorem zr181 : zeroT Tryz.prog 181 = some (.nilf) := by kernel_rfl
theorem sz182 : sizeT Tryz.prog 182 = some 1 := by kernel_rfl
theorem ag182 : isAggT Tryz.prog 182 = some false := by kernel_rfl
theorem zr182 : zeroT Tryz.prog 182 = some (.nilf) := by kernel_rfl
theorem sz183 : sizeT Tryz.prog 183 = some 1 := by kernel_rfl
theorem ag183 : isAggT Tryz.prog 183 = some false := by kernel_rfl
theorem zr183 : zeroT Tryz.prog 183 = some (.nils) := by kernel_rfl
theorem sz184 : sizeT Tryz.prog 184 = some 1 := by kernel_rfl
theorem ag184 : isAggT Tryz.prog 184 = some false := by kernel_rfl
theorem zr184 : zeroT Tryz.prog 184 = some (.nilf) := by kernel_rfl
theorem sz185 : sizeT Tryz.prog 185 = some 4 := by kernel_rfl
theorem ag185 : isAggT Tryz.prog 185 = some true := by kernel_rfl
theorem zr185 : zeroT Tryz.prog 185 = some (.agg [.str [], .int .i64 0, .int .i64 0, .str []]) := by kernel_rfl
theorem sz186 : sizeT Tryz.prog 186 = some 4 := by kernel_rfl
theorem ag186 : isAggT Tryz.prog 186 = some true := by kernel_rfl
theorem zr186 : zeroT Tryz.prog 186 = some (.agg [.str [], .int .i64 0, .int .i64 0, .str []]) := by kernel_rfl
theorem sz187 : sizeT Tryz.prog 187 = some 1 := by kernel_rfl
theorem ag187 : isAggT Tryz.prog 187 = some false := by kernel_rfl
theorem zr187 : zeroT Tryz.prog 187 = some (.nilf) := by kernel_rfl
theorem sz188 : sizeT Tryz.prog 188 = some 1 := by kernel_rfl
theorem ag188 : isAggT Tryz.prog 188 = some false := by kernel_rfl
theorem zr188 : zeroT Tryz.prog 188 = some (.nili) := by kernel_rfl
theorem sz189 : sizeT Tryz.prog 189 = some 1 := by kernel_rfl
theorem ag189 : isAggT Tryz.prog 189 = some false := by kernel_rfl
theorem zr189 : zeroT Tryz.prog 189 = some (.nili) := by kernel_rfl
theorem sz190 : sizeT Tryz.prog 190 = some 1 := by kernel_rfl
theorem ag190 : isAggT Tryz.prog 190 = some false := by kernel_rfl
theorem zr190 : zeroT Tryz.prog 190 = some (.nilf) := by kernel_rfl
theorem sz191 : sizeT Tryz.prog 191 = some 1 := by kernel_rfl
theorem ag191 : isAggT Tryz.prog 191 = some false := by kernel_rfl
theorem zr191 : zeroT Tryz.prog 191 = some (.nilf) := by kernel_rfl
theorem sz192 : sizeT Tryz.prog 192 = some 1 := by kernel_rfl
theorem ag192 : isAggT Tryz.prog 192 = some false := by kernel_rfl
theorem zr192 : zeroT Tryz.prog 192 = some (.nilp) := by kernel_rfl
theorem sz193 : sizeT Tryz.prog 193 = some 1 := by kernel_rfl
theorem ag193 : isAggT Tryz.prog 193 = some false := by kernel_rfl
theorem zr193 : zeroT Tryz.prog 193 = some (.nilf) := by kernel_rfl
theorem sz194 : sizeT Tryz.prog 194 = some 1 := by kernel_rfl
theorem ag194 : isAggT Tryz.prog 194 = some false := by kernel_rfl
theorem zr194 : zeroT Tryz.prog 194 = some (.nilf) := by kernel_rfl
theorem sz195 : sizeT Tryz.prog 195 = some 1 := by kernel_rfl
theorem ag195 : isAggT Tryz.prog 195 = some false := by kernel_rfl
theorem zr195 : zeroT Tryz.prog 195 = some (.nilf) := by kernel_rfl
theorem sz196 : sizeT Tryz.prog 196 = some 20 := by kernel_rfl
theorem ag196 : isAggT Tryz.prog 196 = some true := by kernel_rfl
theorem zr196 : zeroT Tryz.prog 196 = some (.agg [.int .u64 0, .int .u64 0, .int .u64 0, .int .u64 0, .int .u64 0, .int .u64 0, .int .u64 0, .int .u64 0, .int .u64 0, .int .u64 0, .int .u64 0, .int .u64 0, .int .u64 0, .int .u64 0, .int .u64 0, .int .u64 0, .int .u64 0, .int .u64 0, .int .u64 0, .int .u64 0]) := by kernel_rfl
theorem sz197 : sizeT Tryz.prog 197 = some 65 := by kernel_rfl
theorem ag197 : isAggT Tryz.prog 197 = some true := by kernel_rfl
theorem zr197 : zeroT Tryz.prog 197 = some (.agg [.int .u8 0, .int .u8 0, .int .u8 0, .int .u8 0, .int .u8 0, .int .u8 0, .int .u8 0, .int .u8 0, .int .u8 0, .int .u8 0, .int .u8 0, .int .u8 0, .int .u8 0, .int .u8 0, .int .u8 0, .int .u8 0, .int .u8 0, .int .u8 0, .int .u8 0, .int .u8 0, .int .u8 0, .int .u8 0, .int .u8 0, .int .u8 0, .int .u8 0, .int .u8 0, .int .u8 0, .int .u8 0, .int .u8 0, .int .u8 0, .int .u8 0, .int .u8 0, .int .u8 0, .int .u8 0, .int .u8 0, .int .u8 0, .int .u8 0, .int .u8 0, .int .u8 0, .int .u8 0, .int .u8 0, .int .u8 0, .int .u8 0, .int .u8 0, .int .u8 0, .int .u8 0, .int .u8 0, .int .u8 0, .int .u8 0, .int .u8 0, .int .u8 0, .int .u8 0, .int .u8 0, .int .u8 0, .int .u8 0, .int .u8 0, .int .u8 0, .int .u8 0, .int .u8 0, .int .u8 0, .int .u8 0, .int .u8 0, .int .u8 0, .int .u8 0, .int .u8 0]) := by kernel_rfl
theorem sz198 : sizeT Tryz.prog 198 = some 1 := by kernel_rfl
theorem ag198 : isAggT Tryz.prog 198 = some false := by kernel_rfl
theorem zr198 : zeroT Tryz.prog 198 = some (.nilf) := by kernel_rfl
theorem sz199 : sizeT Tryz.prog 199 = some 1 := by kernel_rfl
theorem ag199 : isAggT Tryz.prog 199 = some false := by kernel_rfl
theorem zr199 : zeroT Tryz.prog 199 = some (.nils) := by kernel_rfl
theorem sz200 : sizeT Tryz.prog 200 = some 1 := by kernel_rfl
theorem ag200 : isAggT Tryz.prog 200 = some false := by kernel_rfl
theorem sz201 : sizeT Tryz.prog 201 = some 1 := by kernel_rfl
theorem ag201 : isAggT Tryz.prog 201 = some false := by kernel_rfl
theorem zr201 : zeroT Tryz.prog 201 = some (.nilf) := by kernel_rfl
theorem sz202 : sizeT Tryz.prog 202 = some 1 := by kernel_rfl
theorem ag202 : isAggT Tryz.prog 202 = some false := by kernel_rfl
theorem zr202 : zeroT Tryz.prog 202 = some (.nilf) := by kernel_rfl
theorem sz203 : sizeT Tryz.prog 203 = some 2 := by kernel_rfl
theorem ag203 : isAggT Tryz.prog 203 = some true := by kernel_rfl
theorem zr203 : zeroT Tryz.prog 203 = some (.agg [.str [], .int .i64 0]) := by kernel_rfl
theorem sz204 : sizeT Tryz.prog 204 = some 2 := by kernel_rfl
theorem ag204 : isAggT Tryz.prog 204 = some true := by kernel_rfl
theorem zr204 : zeroT Tryz.prog 204 = some (.agg [.str [], .int .i64 0]) := by kernel_rfl
theorem sz205 : sizeT Tryz.prog 205 = some 1 := by kernel_rfl
theorem ag205 : isAggT Tryz.prog 205 = some false := by kernel_rfl
theorem zr205 : zeroT Tryz.prog 205 = some (.nilf) := by kernel_rfl
theorem sz206 : sizeT Tryz.prog 206 = some 1 := by kernel_rfl
theorem ag206 : isAggT Tryz.prog 206 = some false := by kernel_rfl
theorem zr206 : zeroT Tryz.prog 206 = some (.nilf) := by kernel_rfl
theorem sz207 : sizeT Tryz.prog 207 = some 1 := by kernel_rfl
theorem ag207 : isAggT Tryz.prog 207 = some false := by kernel_rfl
theorem sz208 : sizeT Tryz.prog 208 = some 1 := by kernel_rfl
theorem ag208 : isAggT Tryz.prog 208 = some false := by kernel_rfl
theorem zr208 : zeroT Tryz.prog 208 = some (.nilf) := by kernel_rfl
theorem sz209 : sizeT Tryz.prog 209 = some 1 := by kernel_rfl
theorem ag209 : isAggT Tryz.prog 209 = some false := by kernel_rfl
theorem zr209 : zeroT Tryz.prog 209 = some (.nilf) := by kernel_rfl
theorem sz210 : sizeT Tryz.prog 210 = some 1 := by kernel_rfl
theorem ag210 : isAggT Tryz.prog 210 = some false := by kernel_rfl
theorem zr210 : zeroT Tryz.prog 210 = some (.nilf) := by kernel_rfl
theorem sz211 : sizeT Tryz.prog 211 = some 1 := by kernel_rfl
theorem ag211 : isAggT Tryz.prog 211 = some false := by kernel_rfl
theorem zr211 : zeroT Tryz.prog 211 = some (.nilf) := by kernel_rfl
theorem sz212 : sizeT Tryz.prog 212 = some 1 := by kernel_rfl
theorem ag212 : isAggT Tryz.prog 212 = some false := by kernel_rfl
theorem zr212 : zeroT Tryz.prog 212 = some (.nilf) := by kernel_rfl
theorem sz213 : sizeT Tryz.prog 213 = some 1 := by kernel_rfl
theorem ag213 : isAggT Tryz.prog 213 = some false := by kernel_rfl
theorem zr213 : zeroT Tryz.prog 213 = some (.nilf) := by kernel_rfl
theorem sz214 : sizeT Tryz.prog 214 = some 1 := by kernel_rfl
theorem ag214 : isAggT Tryz.prog 214 = some false := by kernel_rfl
theorem zr214 : zeroT Tryz.prog 214 = some (.nilf) := by kernel_rfl
theorem sz215 : sizeT Tryz.prog 215 = some 1 := by kernel_rfl
theorem ag215 : isAggT Tryz.prog 215 = some false := by kernel_rfl
theorem zr215 : zeroT Tryz.prog 215 = some (.nilf) := by kernel_rfl
theorem sz216 : sizeT Tryz.prog 216 = some 1 := by kernel_rfl
theorem ag216 : isAggT Tryz.prog 216 = some false := by kernel_rfl
theorem zr216 : zeroT Tryz.prog 216 = some (.nilf) := by kernel_rfl
theorem sz217 : sizeT Tryz.prog 217 = some 1 := by kernel_rfl
theorem ag217 : isAggT Tryz.prog 217 = some false := by kernel_rfl
theorem sz218 : sizeT Tryz.prog 218 = some 1 := by kernel_rfl
theorem ag218 : isAggT Tryz.prog 218 = some false := by kernel_rfl
theorem zr218 : zeroT Tryz.prog 218 = some (.nilf) := by kernel_rfl
theorem sz219 : sizeT Tryz.prog 219 = some 1 := by kernel_rfl
theorem ag219 : isAggT Tryz.prog 219 = some false := by kernel_rfl
theorem zr219 : zeroT Tryz.prog 219 = some (.nilf) := by kernel_rfl
theorem sz220 : sizeT Tryz.prog 220 = some 1 := by kernel_rfl
theorem ag220 : isAggT Tryz.prog 220 = some false := by kernel_rfl
theorem zr220 : zeroT Tryz.prog 220 = some (.nilf) := by kernel_rfl
theorem sz221 : sizeT Tryz.prog 221 = some 1 := by kernel_rfl
theorem ag221 : isAggT Tryz.prog 221 = some false := by kernel_rfl
theorem zr221 : zeroT Tryz.prog 221 = some (.nilf) := by kernel_rfl
theorem sz222 : sizeT Tryz.prog 222 = some 1 := by kernel_rfl
theorem ag222 : isAggT Tryz.prog 222 = some false := by kernel_rfl
theorem zr222 : zeroT Tryz.prog 222 = some (.nils) := by kernel_rfl
theorem sz223 : sizeT Tryz.prog 223 = some 1 := by kernel_rfl
theorem ag223 : isAggT Tryz.prog 223 = some false := by kernel_rfl
theorem zr223 : zeroT Tryz.prog 223 = some (.nilf) := by kernel_rfl
theorem sz224 : sizeT Tryz.prog 224 = some 1 := by kernel_rfl
theorem ag224 : isAggT Tryz.prog 224 = some false := by kernel_rfl
theorem zr224 : zeroT Tryz.prog 224 = some (.nilf) := by kernel_rfl
theorem sz225 : sizeT Tryz.prog 225 = some 8 := by kernel_rfl
theorem ag225 : isAggT Tryz.prog 225 = some true := by kernel_rfl
theorem zr225 : zeroT Tryz.prog 225 = some (.agg [.int .i64 0, .int .i64 0, .int .i64 0, .nils, .nils, .nils, .nils, .int .i64 0]) := by kernel_rfl
theorem sz226 : sizeT Tryz.prog 226 = some 8 := by kernel_rfl
theorem ag226 : isAggT Tryz.prog 226 = some true := by kernel_rfl
theorem zr226 : zeroT Tryz.prog 226 = some (.agg [.int .i64 0, .int .i64 0, .int .i64 0, .nils, .nils, .nils, .nils, .int .i64 0]) := by kernel_rfl
theorem sz227 : sizeT Tryz.prog 227 = some 1 := by kernel_rfl
theorem ag227 : isAggT Tryz.prog 227 = some false := by kernel_rfl
theorem zr227 : zeroT Tryz.prog 227 = some (.nilf) := by kernel_rfl
theorem sz228 : sizeT Tryz.prog 228 = some 1 := by kernel_rfl
theorem ag228 : isAggT Tryz.prog 228 = some false := by kernel_rfl
theorem zr228 : zeroT Tryz.prog 228 = some (.nilf) := by kernel_rfl
theorem sz229 : sizeT Tryz.prog 229 = some 1 := by kernel_rfl
theorem ag229 : isAggT Tryz.prog 229 = some true := by kernel_rfl
theorem zr229 : zeroT Tryz.prog 229 = some (.agg [.nils]) := by kernel_rfl
theorem sz230 : sizeT Tryz.prog 230 = some 1 := by kernel_rfl
theorem ag230 : isAggT Tryz.prog 230 = some true := by kernel_rfl
theorem zr230 : zeroT Tryz.prog 230 = some (.agg [.nils]) := by kernel_rfl
theorem sz231 : sizeT Tryz.prog 231 = some 5 := by kernel_rfl
theorem ag231 : isAggT Tryz.prog 231 = some true := by kernel_rfl
theorem zr231 : zeroT Tryz.prog 231 = some (.agg [.str [], .bool false, .int .i64 0, .int .i64 0, .str []]) := by kernel_rfl
theorem sz232 : sizeT Tryz.prog 232 = some 5 := by kernel_rfl
theorem ag232 : isAggT Tryz.prog 232 = some true := by kernel_rfl
theorem zr232 : zeroT Tryz.prog 232 = some (.agg [.str [], .bool false, .int .i64 0, .int .i64 0, .str []]) := by kernel_rfl
theorem sz233 : sizeT Tryz.prog 233 = some 1 := by kernel_rfl
theorem ag233 : isAggT Tryz.prog 233 = some false := by kernel_rfl
theorem zr233 : zeroT Tryz.prog 233 = some (.nilf) := by kernel_rfl
theorem sz234 : sizeT Tryz.prog 234 = some 1 := by kernel_rfl
theorem ag234 : isAggT Tryz.prog 234 = some false := by kernel_rfl
theorem zr234 : zeroT Tryz.prog 234 = some (.nilp) := by kernel_rfl
theorem sz235 : sizeT Tryz.prog 235 = some 256 := by kernel_rfl
theorem ag235 : isAggT Tryz.prog 235 = some true := by kernel_rfl
theorem sz236 : sizeT Tryz.prog 236 = some 256 := by kernel_rfl
theorem ag236 : isAggT Tryz.prog 236 = some true := by kernel_rfl
theorem sz237 : sizeT Tryz.prog 237 = some 515 := by kernel_rfl
theorem ag237 : isAggT Tryz.prog 237 = some true := by kernel_rfl
theorem sz238 : sizeT Tryz.prog 238 = some 515 := by kernel_rfl
theorem ag238 : isAggT Tryz.prog 238 = some true := by kernel_rfl
theorem sz239 : sizeT Tryz.prog 239 = some 2 := by kernel_rfl
theorem ag239 : isAggT Tryz.prog 239 = some true := by kernel_rfl
theorem zr239 : zeroT Tryz.prog 239 = some (.agg [.int .i64 0, .int .i64 0]) := by kernel_rfl
theorem sz240 : sizeT Tryz.prog 240 = some 2 := by kernel_rfl
theorem ag240 : isAggT Tryz.prog 240 = some true := by kernel_rfl
theorem zr240 : zeroT Tryz.prog 240 = some (.agg [.int .i64 0, .int .i64 0]) := by kernel_rfl
theorem sz241 : sizeT Tryz.prog 241 = some 1 := by kernel_rfl
theorem ag241 : isAggT Tryz.prog 241 = some false := by kernel_rfl
theorem sz242 : sizeT Tryz.prog 242 = some 1 := by kernel_rfl
theorem ag242 : isAggT Tryz.prog 242 = some false := by kernel_rfl
theorem zr242 : zeroT Tryz.prog 242 = some (.nilf) := by kernel_rfl
theorem sz243 : sizeT Tryz.prog 243 = some 1 := by kernel_rfl
theorem ag243 : isAggT Tryz.prog 243 = some false := by kernel_rfl
theorem zr243 : zeroT Tryz.prog 243 = some (.nilf) := by kernel_rfl
theorem sz244 : sizeT Tryz.prog 244 = some 1 := by kernel_rfl
theorem ag244 : isAggT Tryz.prog 244 = some false := by kernel_rfl
theorem zr244 : zeroT Tryz.prog 244 = some (.nilf) := by kernel_rfl
theorem sz245 : sizeT Tryz.prog 245 = some 1 := by kernel_rfl
theorem ag245 : isAggT Tryz.prog 245 = some false := by kernel_rfl
theorem zr245 : zeroT Tryz.prog 245 = some (.nilf) := by kernel_rfl
theorem sz246 : sizeT Tryz.prog 246 = some 1 := by kernel_rfl
theorem ag246 : isAggT Tryz.prog 246 = some false := by kernel_rfl
theorem zr246 : zeroT Tryz.prog 246 = some (.nilm) := by kernel_rfl
theorem sz247 : sizeT Tryz.prog 247 = some 1 := by kernel_rfl
theorem ag247 : isAggT Tryz.prog 247 = some false := by kernel_rfl
theorem zr247 : zeroT Tryz.prog 247 = some (.nilm) := by kernel_rfl
theorem sz248 : sizeT Tryz.prog 248 = some 1 := by kernel_rfl
theorem ag248 : isAggT Tryz.prog 248 = some false := by kernel_rfl
theorem zr248 : zeroT Tryz.prog 248 = some (.nilf) := by kernel_rfl
theorem sz249 : sizeT Tryz.prog 249 = some 1 := by kernel_rfl
theorem ag249 : isAggT Tryz.prog 249 = some false := by kernel_rfl
theorem zr249 : zeroT Tryz.prog 249 = some (.nilf) := by kernel_rfl
theorem sz250 : sizeT Tryz.prog 250 = some 1 := by kernel_rfl
theorem ag250 : isAggT Tryz.prog 250 = some false := by kernel_rfl
theorem zr250 : zeroT Tryz.prog 250 = some (.nilf) := by kernel_rfl
theorem sz251 : sizeT Tryz.prog 251 = some 1 := by kernel_rfl
theorem ag251 : isAggT Tryz.prog 251 = some false := by kernel_rfl
theorem zr251 : zeroT Tryz.prog 251 = some (.nilf) := by kernel_rfl
theorem sz252 : sizeT Tryz.prog 252 = some 1 := by kernel_rfl
theorem ag252 : isAggT Tryz.prog 252 = some false := by kernel_rfl
theorem zr252 : zeroT Tryz.prog 252 = some (.nilf) := by kernel_rfl
theorem sz253 : sizeT Tryz.prog 253 = some 1 := by kernel_rfl
theorem ag253 : isAggT Tryz.prog 253 = some false := by kernel_rfl
theorem zr253 : zeroT Tryz.prog 253 = some (.nilp) := by kernel_rfl
theorem sz254 : sizeT Tryz.prog 254 = some 1 := by kernel_rfl
theorem ag254 : isAggT Tryz.prog 254 = some false := by kernel_rfl
theorem sz255 : sizeT Tryz.prog 255 = some 1 := by kernel_rfl
theorem ag255 : isAggT Tryz.prog 255 = some false := by kernel_rfl
theorem zr255 : zeroT Tryz.prog 255 = some (.nilf) := by kernel_rfl
theorem sz256 : sizeT Tryz.prog 256 = some 2 := by kernel_rfl
theorem ag256 : isAggT Tryz.prog 256 = some true := by kernel_rfl
theorem zr256 : zeroT Tryz.prog 256 = some (.agg [.int .i64 0, .int .i64 0]) := by kernel_rfl
theorem sz257 : sizeT Tryz.prog 257 = some 2 := by kernel_rfl
theorem ag257 : isAggT Tryz.prog 257 = some true := by kernel_rfl
theorem zr257 : zeroT Tryz.prog 257 = some (.agg [.int .i64 0, .int .i64 0]) := by kernel_rfl
theorem sz258 : sizeT Tryz.prog 258 = some 1 := by kernel_rfl
theorem ag258 : isAggT Tryz.prog 258 = some false := by kernel_rfl
theorem zr258 : zeroT Tryz.prog 258 = some (.nilf) := by kernel_rfl
theorem sz259 : sizeT Tryz.prog 259 = some 1 := by kernel_rfl
theorem ag259 : isAggT Tryz.prog 259 = some false := by kernel_rfl
theorem zr259 : zeroT Tryz.prog 259 = some (.nilm) := by kernel_rfl
theorem sz260 : sizeT Tryz.prog 260 = some 12 := by kernel_rfl
theorem ag260 : isAggT Tryz.prog 260 = some true := by kernel_rfl
theorem zr260 : zeroT Tryz.prog 260 = some (.agg [.int .i64 0, .nils, .nils, .nils, .nili, .nils, .int .i64 0, .int .i64 0, .nils, .nils, .nilm, .nilm]) := by kernel_rfl
theorem sz261 : sizeT Tryz.prog 261 = some 12 := by kernel_rfl
theorem ag261 : isAggT Tryz.prog 261 = some true := by kernel_rfl
theorem zr261 : zeroT Tryz.prog 261 = some (.agg [.int .i64 0, .nils, .nils, .nils, .nili, .nils, .int .i64 0, .int .i64 0, .nils, .nils, .nilm, .nilm]) := by kernel_rfl
theorem sz262 : sizeT Tryz.prog 262 = some 1 := by kernel_rfl
theorem ag262 : isAggT Tryz.prog 262 = some false := by kernel_rfl
theorem zr262 : zeroT Tryz.prog 262 = some (.nilf) := by kernel_rfl
theorem sz263 : sizeT Tryz.prog 263 = some 32 := by kernel_rfl
theorem ag263 : isAggT Tryz.prog 263 = some true := by kernel_rfl
theorem zr263 : zeroT Tryz.prog 263 = some (.agg [.int .u8 0, .int .u8 0, .int .u8 0, .int .u8 0, .int .u8 0, .int .u8 0, .int .u8 0, .int .u8 0, .int .u8 0, .int .u8 0, .int .u8 0, .int .u8 0, .int .u8 0, .int .u8 0, .int .u8 0, .int .u8 0, .int .u8 0, .int .u8 0, .int .u8 0, .int .u8 0, .int .u8 0, .int .u8 0, .int .u8 0, .int .u8 0, .int .u8 0, .int .u8 0, .int .u8 0, .int .u8 0, .int .u8 0, .int .u8 0, .int .u8 0, .int .u8 0]) := by kernel_rfl
theorem sz264 : sizeT Tryz.prog 264 = some 64 := by kernel_rfl
theorem ag264 : isAggT Tryz.prog 264 = some true := by kernel_rfl
theorem zr264 : zeroT Tryz.prog 264 = some (.agg [.int .u8 0, .int .u8 0, .int .u8 0, .int .u8 0, .int .u8 0, .int .u8 0, .int .u8 0, .int .u8 0, .int .u8 0, .int .u8 0, .int .u8 0, .int .u8 0, .int .u8 0, .int .u8 0, .int .u8 0, .int .u8 0, .int .u8 0, .int .u8 0, .int .u8 0, .int .u8 0, .int .u8 0, .int .u8 0, .int .u8 0, .int .u8 0, .int .u8 0, .int .u8 0, .int .u8 0, .int .u8 0, .int .u8 0, .int .u8 0, .int .u8 0, .int .u8 0, .int .u8 0, .int .u8 0, .int .u8 0, .int .u8 0, .int .u8 0, .int .u8 0, .int .u8 0, .int .u8 0, .int .u8 0, .int .u8 0, .int .u8 0, .int .u8 0, .int .u8 0, .int .u8 0, .int .u8 0, .int .u8 0, .int .u8 0, .int .u8 0, .int .u8 0, .int .u8 0, .int .u8 0, .int .u8 0, .int .u8 0, .int .u8 0, .int .u8 0, .int .u8 0, .int .u8 0, .int .u8 0, .int .u8 0, .int .u8 0, .int .u8 0, .int .u8 0]) := by kernel_rfl
theorem sz265 : sizeT Tryz.prog 265 = some 1 := by kernel_rfl
theorem ag265 : isAggT Tryz.prog 265 = some false := by kernel_rfl
theorem zr265 : zeroT Tryz.prog 265 = some (.nilf) := by kernel_rfl
theorem sz266 : sizeT Tryz.prog 266 = some 1 := by kernel_rfl
theorem ag266 : isAggT Tryz.prog 266 = some false := by kernel_rfl
theorem zr266 : zeroT Tryz.prog 266 = some (.nilf) := by kernel_rfl
theorem sz267 : sizeT Tryz.prog 267 = some 1 := by kernel_rfl
theorem ag267 : isAggT Tryz.prog 267 = some false := by kernel_rfl
theorem zr267 : zeroT Tryz.prog 267 = some (.nilf) := by kernel_rfl
theorem sz268 : sizeT Tryz.prog 268 = some 1 := by kernel_rfl
theorem ag268 : isAggT Tryz.prog 268 = some false := by kernel_rfl
theorem zr268 : zeroT Tryz.prog 268 = some (.nilf) := by kernel_rfl
theorem sz269 : sizeT Tryz.prog 269 = some 1 := by kernel_rfl
theorem ag269 : isAggT Tryz.prog 269 = some false := by kernel_rfl
theorem sz270 : sizeT Tryz.prog 270 = some 1 := by kernel_rfl
theorem ag270 : isAggT Tryz.prog 270 = some false := by kernel_rfl
theorem zr270 : zeroT Tryz.prog 270 = some (.int .i64 0) := by kernel_rfl
theorem sz271 : sizeT Tryz.prog 271 = some 4 := by kernel_rfl
theorem ag271 : isAggT Tryz.prog 271 = some true := by kernel_rfl
theorem zr271 : zeroT Tryz.prog 271 = some (.agg [.str [], .int .i64 0, .int .i64 0, .int .i64 0]) := by kernel_rfl
theorem sz272 : sizeT Tryz.prog 272 = some 4 := by kernel_rfl
theorem ag272 : isAggT Tryz.prog 272 = some true := by kernel_rfl
theorem zr272 : zeroT Tryz.prog 272 = some (.agg [.str [], .int .i64 0, .int .i64 0, .int .i64 0]) := by kernel_rfl
theorem sz273 : sizeT Tryz.prog 273 = some 1 := by kernel_rfl
theorem ag273 : isAggT Tryz.prog 273 = some false := by kernel_rfl
theorem zr273 : zeroT Tryz.prog 273 = some (.nilf) := by kernel_rfl
theorem sz274 : sizeT Tryz.prog 274 = some 1 := by kernel_rfl
theorem ag274 : isAggT Tryz.prog 274 = some false := by kernel_rfl
theorem zr274 : zeroT Tryz.prog 274 = some (.nilf) := by kernel_rfl
theorem sz275 : sizeT Tryz.prog 275 = some 1 := by kernel_rfl
theorem ag275 : isAggT Tryz.prog 275 = some false := by kernel_rfl
theorem zr275 : zeroT Tryz.prog 275 = some (.nilf) := by kernel_rfl
theorem sz276 : sizeT Tryz.prog 276 = some 1 := by kernel_rfl
theorem ag276 : isAggT Tryz.prog 276 = some false := by kernel_rfl
theorem zr276 : zeroT Tryz.prog 276 = some (.nilf) := by kernel_rfl
theorem sz277 : sizeT Tryz.prog 277 = some 1 := by kernel_rfl
theorem ag277 : isAggT Tryz.prog 277 = some false := by kernel_rfl
theorem zr277 : zeroT Tryz.prog 277 = some (.nilf) := by kernel_rfl
theorem sz278 : sizeT Tryz.prog 278 = some 1 := by kernel_rfl
theorem ag278 : isAggT Tryz.prog 278 = some false := by kernel_rfl
theorem zr278 : zeroT Tryz.prog 278 = some (.nilf) := by kernel_rfl
theorem sz279 : sizeT Tryz.prog 279 = some 1 := by kernel_rfl
theorem ag279 : isAggT Tryz.prog 279 = some false := by kernel_rfl
theorem zr279 : zeroT Tryz.prog 279 = some (.nilf) := by kernel_rfl
theorem sz280 : sizeT Tryz.prog 280 = some 128 := by kernel_rfl
theorem ag280 : isAggT Tryz.prog 280 = some true := by kernel_rfl
theorem zr280 : zeroT Tryz.prog 280 = some (.agg [.str [], .int .i64 0, .int .i64 0, .int .i64 0, .str [], .int .i64 0, .int .i64 0, .int .i64 0, .str [], .int .i64 0, .int .i64 0, .int .i64 0, .str [], .int .i64 0, .int .i64 0, .int .i64 0, .str [], .int .i64 0, .int .i64 0, .int .i64 0, .str [], .int .i64 0, .int .i64 0, .int .i64 0, .str [], .int .i64 0, .int .i64 0, .int .i64 0, .str [], .int .i64 0, .int .i64 0, .int .i64 0, .str [], .int .i64 0, .int .i64 0, .int .i64 0, .str [], .int .i64 0, .int .i64 0, .int .i64 0, .str [], .int .i64 0, .int .i64 0, .int .i64 0, .str [], .int .i64 0, .int .i64 0, .int .i64 0, .str [], .int .i64 0, .int .i64 0, .int .i64 0, .str [], .int .i64 0, .int .i64 0, .int .i64 0, .str [], .int .i64 0, .int .i64 0, .int .i64 0, .str [], .int .i64 0, .int .i64 0, .int .i64 0, .str [], .int .i64 0, .int .i64 0, .int .i64 0, .str [], .int .i64 0, .int .i64 0, .int .i64 0, .str [], .int .i64 0, .int .i64 0, .int .i64 0, .str [], .int .i64 0, .int .i64 0, .int .i64 0, .str [], .int .i64 0, .int .i64 0, .int .i64 0, .str [], .int .i64 0, .int .i64 0, .int .i64 0, .str [], .int .i64 0, .int .i64 0, .int .i64 0, .str [], .int .i64 0, .int .i64 0, .int .i64 0, .str [], .int .i64 0, .int .i64 0, .int .i64 0, .str [], .int .i64 0, .int .i64 0, .int .i64 0, .str [], .int .i64 0, .int .i64 0, .int .i64 0, .str [], .int .i64 0, .int .i64 0, .int .i64 0, .str [], .int .i64 0, .int .i64 0, .int .i64 0, .str [], .int .i64 0, .int .i64 0, .int .i64 0, .str [], .int .i64 0, .int .i64 0, .int .i64 0, .str [], .int .i64 0, .int .i64 0, .int .i64 0]) := by kernel_rfl
theorem sz281 : sizeT Tryz.prog 281 = some 1 := by kernel_rfl
theorem ag281 : isAggT Tryz.prog 281 = some false := by kernel_rfl
theorem zr281 : zeroT Tryz.prog 281 = some (.nilf) := by kernel_rfl
theorem sz282 : sizeT Tryz.prog 282 = some 1 := by kernel_rfl
theorem ag282 : isAggT Tryz.prog 282 = some false := by kernel_rfl
theorem zr282 : zeroT Tryz.prog 282 = some (.nilf) := by kernel_rfl
theorem sz283 : sizeT Tryz.prog 283 = some 1 := by kernel_rfl
theorem ag283 : isAggT Tryz.prog 283 = some false := by kernel_rfl
theorem zr283 : zeroT Tryz.prog 283 = some (.nilf) := by kernel_rfl
theorem sz284 : sizeT Tryz.prog 284 = some 1 := by kernel_rfl
theorem ag284 : isAggT Tryz.prog 284 = some false := by kernel_rfl
theorem zr284 : zeroT Tryz.prog 284 = some (.nilf) := by kernel_rfl
theorem sz285 : sizeT Tryz.prog 285 = some 1 := by kernel_rfl
theorem ag285 : isAggT Tryz.prog 285 = some false := by kernel_rfl
theorem zr285 : zeroT Tryz.prog 285 = some (.nilf) := by kernel_rfl
theorem sz286 : sizeT Tryz.prog 286 = some 1 := by kernel_rfl
theorem ag286 : isAggT Tryz.prog 286 = some false := by kernel_rfl
theorem zr286 : zeroT Tryz.prog 286 = some (.nilf) := by kernel_rfl
theorem sz287 : sizeT Tryz.prog 287 = some 1 := by kernel_rfl
theorem ag287 : isAggT Tryz.prog 287 = some false := by kernel_rfl
theorem zr287 : zeroT Tryz.prog 287 = some (.nilf) := by kernel_rfl
theorem sz288 : sizeT Tryz.prog 288 = some 1 := by kernel_rfl
theorem ag288 : isAggT Tryz.prog 288 = some false := by kernel_rfl
theorem zr288 : zeroT Tryz.prog 288 = some (.nilf) := by kernel_rfl
theorem sz289 : sizeT Tryz.prog 289 = some 1 := by kernel_rfl
theorem ag289 : isAggT Tryz.prog 289 = some false := by kernel_rfl
theorem zr289 : zeroT Tryz.prog 289 = some (.nilf) := by kernel_rfl
theorem sz290 : sizeT Tryz.prog 290 = some 1 := by kernel_rfl
theorem ag290 : isAggT Tryz.prog 290 = some false := by kernel_rfl
theorem zr290 : zeroT Tryz.prog 290 = some (.nilf) := by kernel_rfl
theorem sz291 : sizeT Tryz.prog 291 = some 1 := by kernel_rfl
theorem ag291 : isAggT Tryz.prog 291 = some false := by kernel_rfl
theorem zr291 : zeroT Tryz.prog 291 = some (.nilf) := by kernel_rfl
theorem sz292 : sizeT Tryz.prog 292 = some 1 := by kernel_rfl
theorem ag292 : isAggT Tryz.prog 292 = some false := by kernel_rfl
theorem zr292 : zeroT Tryz.prog 292 = some (.nilf) := by kernel_rfl
theorem sz293 : sizeT Tryz.prog 293 = some 1 := by kernel_rfl
theorem ag293 : isAggT Tryz.prog 293 = some false := by kernel_rfl
theorem zr293 : zeroT Tryz.prog 293 = some (.nilf) := by kernel_rfl
theorem sz294 : sizeT Tryz.prog 294 = some 1 := by kernel_rfl
theorem ag294 : isAggT Tryz.prog 294 = some false := by kernel_rfl
theorem zr294 : zeroT Tryz.prog 294 = some (.nilf) := by kernel_rfl
theorem sz295 : sizeT Tryz.prog 295 = some 1 := by kernel_rfl
theorem ag295 : isAggT Tryz.prog 295 = some false := by kernel_rfl
theorem zr295 : zeroT Tryz.prog 295 = some (.nilf) := by kernel_rfl
theorem sz296 : sizeT Tryz.prog 296 = some 1 := by kernel_rfl
theorem ag296 : isAggT Tryz.prog 296 = some false := by kernel_rfl
theorem zr296 : zeroT Tryz.prog 296 = some (.nilf) := by kernel_rfl
theorem sz297 : sizeT Tryz.prog 297 = some 1 := by kernel_rfl
theorem ag297 : isAggT Tryz.prog 297 = some false := by kernel_rfl
theorem sz298 : sizeT Tryz.prog 298 = some 1 := by kernel_rfl
theorem ag298 : isAggT Tryz.prog 298 = some false := by kernel_rfl
theorem zr298 : zeroT Tryz.prog 298 = some (.nilf) := by kernel_rfl
theorem sz299 : sizeT Tryz.prog 299 = some 1 := by kernel_rfl
theorem ag299 : isAggT Tryz.prog 299 = some false := by kernel_rfl
theorem zr299 : zeroT Tryz.prog 299 = some (.nilf) := by kernel_rfl
theorem sz300 : sizeT Tryz.prog 300 = some 1 := by kernel_rfl
theorem ag300 : isAggT Tryz.prog 300 = some false := by kernel_rfl
theorem zr300 : zeroT Tryz.prog 300 = some (.nilf) := by kernel_rfl
theorem sz301 : sizeT Tryz.prog 301 = some 1 := by kernel_rfl
theorem ag301 : isAggT Tryz.prog 301 = some false := by kernel_rfl
theorem zr301 : zeroT Tryz.prog 301 = some (.nilf) := by kernel_rfl
theorem sz302 : sizeT Tryz.prog 302 = some 1 := by kernel_rfl
theorem ag302 : isAggT Tryz.prog 302 = some false := by kernel_rfl
theorem zr302 : zeroT Tryz.prog 302 = some (.nilf) := by kernel_rfl
theorem sz303 : sizeT Tryz.prog 303 = some 1 := by kernel_rfl
theorem ag303 : isAggT Tryz.prog 303 = some false := by kernel_rfl
theorem zr303 : zeroT Tryz.prog 303 = some (.nilf) := by kernel_rfl
theorem sz304 : sizeT Tryz.prog 304 = some 1 := by kernel_rfl
theorem ag304 : isAggT Tryz.prog 304 = some false := by kernel_rfl
theorem zr304 : zeroT Tryz.prog 304 = some (.nilf) := by kernel_rfl
theorem sz305 : sizeT Tryz.prog 305 = some 1 := by kernel_rfl
theorem ag305 : isAggT Tryz.prog 305 = some false := by kernel_rfl
theorem zr305 : zeroT Tryz.prog 305 = some (.nilf) := by kernel_rfl
theorem sz306 : sizeT Tryz.prog 306 = some 1 := by kernel_rfl
theorem ag306 : isAggT Tryz.prog 306 = some false := by kernel_rfl
theorem zr306 : zeroT Tryz.prog 306 = some (.nilf) := by kernel_rfl
theorem sz307 : sizeT Tryz.prog 307 = some 1 := by kernel_rfl
theorem ag307 : isAggT Tryz.prog 307 = some false := by kernel_rfl
theorem sz308 : sizeT Tryz.prog 308 = some 1 := by kernel_rfl
theorem ag308 : isAggT Tryz.prog 308 = some false := by kernel_rfl
theorem zr308 : zeroT Tryz.prog 308 = some (.nilf) := by kernel_rfl
theorem sz309 : sizeT Tryz.prog 309 = some 1 := by kernel_rfl
theorem ag309 : isAggT Tryz.prog 309 = some false := by kernel_rfl
theorem sz310 : sizeT Tryz.prog 310 = some 1 := by kernel_rfl
theorem ag310 : isAggT Tryz.prog 310 = some false := by kernel_rfl
theorem zr310 : zeroT Tryz.prog 310 = some (.nilf) := by kernel_rfl
theorem sz311 : sizeT Tryz.prog 311 = some 1 := by kernel_rfl
theorem ag311 : isAggT Tryz.prog 311 = some false := by kernel_rfl
theorem zr311 : zeroT Tryz.prog 311 = some (.nilf) := by kernel_rfl
theorem sz312 : sizeT Tryz.prog 312 = some 1 := by kernel_rfl
theorem ag312 : isAggT Tryz.prog 312 = some false := by kernel_rfl
theorem sz313 : sizeT Tryz.prog 313 = some 1 := by kernel_rfl
theorem ag313 : isAggT Tryz.prog 313 = some false := by kernel_rfl
theorem zr313 : zeroT Tryz.prog 313 = some (.nilf) := by kernel_rfl
theorem sz314 : sizeT Tryz.prog 314 = some 1 := by kernel_rfl
theorem ag314 : isAggT Tryz.prog 314 = some false := by kernel_rfl
theorem zr314 : zeroT Tryz.prog 314 = some (.nilf) := by kernel_rfl
theorem sz315 : sizeT Tryz.prog 315 = some 1 := by kernel_rfl
theorem ag315 : isAggT Tryz.prog 315 = some false := by kernel_rfl
theorem sz316 : sizeT Tryz.prog 316 = some 1 := by kernel_rfl
theorem ag316 : isAggT Tryz.prog 316 = some false := by kernel_rfl
theorem zr316 : zeroT Tryz.prog 316 = some (.nilf) := by kernel_rfl
theorem sz317 : sizeT Tryz.prog 317 = some 1 := by kernel_rfl
theorem ag317 : isAggT Tryz.prog 317 = some false := by kernel_rfl
theorem zr317 : zeroT Tryz.prog 317 = some (.nilf) := by kernel_rfl
theorem sz318 : sizeT Tryz.prog 318 = some 1 := by kernel_rfl
theorem ag318 : isAggT Tryz.prog 318 = some false := by kernel_rfl
theorem zr318 : zeroT Tryz.prog 318 = some (.int .i64 0) := by kernel_rfl
theorem sz319 : sizeT Tryz.prog 319 = some 1 := by kernel_rfl
theorem ag319 : isAggT Tryz.prog 319 = some false := by kernel_rfl
theorem sz320 : sizeT Tryz.prog 320 = some 1 := by kernel_rfl
theorem ag320 : isAggT Tryz.prog 320 = some false := by kernel_rfl
theorem zr320 : zeroT Tryz.prog 320 = some (.nilf) := by kernel_rfl
theorem sz321 : sizeT Tryz.prog 321 = some 1 := by kernel_rfl
theorem ag321 : isAggT Tryz.prog 321 = some false := by kernel_rfl
theorem zr321 : zeroT Tryz.prog 321 = some (.nilp) := by kernel_rfl
theorem sz322 : sizeT Tryz.prog 322 = some 1 := by kernel_rfl
theorem ag322 : isAggT Tryz.prog 322 = some false := by kernel_rfl
theorem zr322 : zeroT Tryz.prog 322 = some (.nilf) := by kernel_rfl
theorem sz323 : sizeT Tryz.prog 323 = some 1 := by kernel_rfl
theorem ag323 : isAggT Tryz.prog 323 = some false := by kernel_rfl
theorem zr323 : zeroT Tryz.prog 323 = some (.nilf) := by kernel_rfl
theorem sz324 : sizeT Tryz.prog 324 = some 1 := by kernel_rfl
theorem ag324 : isAggT Tryz.prog 324 = some false := by kernel_rfl
theorem zr324 : zeroT Tryz.prog 324 = some (.nilf) := by kernel_rfl
theorem sz325 : sizeT Tryz.prog 325 = some 1 := by kernel_rfl
theorem ag325 : isAggT Tryz.prog 325 = some false := by kernel_rfl
theorem zr325 : zeroT Tryz.prog 325 = some (.nilf) := by kernel_rfl
theorem sz326 : sizeT Tryz.prog 326 = some 3 := by kernel_rfl
theorem ag326 : isAggT Tryz.prog 326 = some true := by kernel_rfl
theorem zr326 : zeroT Tryz.prog 326 = some (.agg [.str [], .str [], .nili]) := by kernel_rfl
theorem sz327 : sizeT Tryz.prog 327 = some 3 := by kernel_rfl
theorem ag327 : isAggT Tryz.prog 327 = some true := by kernel_rfl
theorem zr327 : zeroT Tryz.prog 327 = some (.agg [.str [], .str [], .nili]) := by kernel_rfl
theorem sz328 : sizeT Tryz.prog 328 = some 1 := by kernel_rfl
theorem ag328 : isAggT Tryz.prog 328 = some false := by kernel_rfl
theorem zr328 : zeroT Tryz.prog 328 = some (.nilf) := by kernel_rfl
theorem sz329 : sizeT Tryz.prog 329 = some 1 := by kernel_rfl
theorem ag329 : isAggT Tryz.prog 329 = some false := by kernel_rfl
theorem zr329 : zeroT Tryz.prog 329 = some (.nilp) := by kernel_rfl
theorem sz330 : sizeT Tryz.prog 330 = some 1 := by kernel_rfl
theorem ag330 : isAggT Tryz.prog 330 = some true := by kernel_rfl
theorem zr330 : zeroT Tryz.prog 330 = some (.agg [.str []]) := by kernel_rfl
theorem sz331 : sizeT Tryz.prog 331 = some 1 := by kernel_rfl
theorem ag331 : isAggT Tryz.prog 331 = some true := by kernel_rfl
theorem zr331 : zeroT Tryz.prog 331 = some (.agg [.str []]) := by kernel_rfl
theorem sz332 : sizeT Tryz.prog 332 = some 4 := by kernel_rfl
theorem ag332 : isAggT Tryz.prog 332 = some true := by kernel_rfl
theorem zr332 : zeroT Tryz.prog 332 = some (.agg [.nilp, .nilp, .nilp, .str []]) := by kernel_rfl
theorem sz333 : sizeT Tryz.prog 333 = some 4 := by kernel_rfl
theorem ag333 : isAggT Tryz.prog 333 = some true := by kernel_rfl
theorem zr333 : zeroT Tryz.prog 333 = some (.agg [.nilp, .nilp, .nilp, .str []]) := by kernel_rfl
theorem sz334 : sizeT Tryz.prog 334 = some 0 := by kernel_rfl
theorem ag334 : isAggT Tryz.prog 334 = some true := by kernel_rfl
theorem zr334 : zeroT Tryz.prog 334 = some (.agg []) := by kernel_rfl
theorem sz335 : sizeT Tryz.prog 335 = some 0 := by kernel_rfl
theorem ag335 : isAggT Tryz.prog 335 = some true := by kernel_rfl
theorem zr335 : zeroT Tryz.prog 335 = some (.agg []) := by kernel_rfl
theorem sz336 : sizeT Tryz.prog 336 = some 0 := by kernel_rfl
theorem ag336 : isAggT Tryz.prog 336 = some true := by kernel_rfl
theorem zr336 : zeroT Tryz.prog 336 = some (.agg []) := by kernel_rfl
theorem sz337 : sizeT Tryz.prog 337 = some 1 := by kernel_rfl
theorem ag337 : isAggT Tryz.prog 337 = some false := by kernel_rfl
theorem zr337 : zeroT Tryz.prog 337 = some (.nilf) := by kernel_rfl
theorem sz338 : sizeT Tryz.prog 338 = some 1 := by kernel_rfl
theorem ag338 : isAggT Tryz.prog 338 = some false := by kernel_rfl
theorem zr338 : zeroT Tryz.prog 338 = some (.int .u8 0) := by kernel_rfl
theorem sz339 : sizeT Tryz.prog 339 = some 1 := by kernel_rfl
theorem ag339 : isAggT Tryz.prog 339 = some false := by kernel_rfl
theorem zr339 : zeroT Tryz.prog 339 = some (.int .u8 0) := by kernel_rfl
theorem sz340 : sizeT Tryz.prog 340 = some 1 := by kernel_rfl
theorem ag340 : isAggT Tryz.prog 340 = some false := by kernel_rfl
theorem zr340 : zeroT Tryz.prog 340 = some (.nilf) := by kernel_rfl
theorem sz341 : sizeT Tryz.prog 341 = some 1 := by kernel_rfl
theorem ag341 : isAggT Tryz.prog 341 = some false := by kernel_rfl
theorem zr341 : zeroT Tryz.prog 341 = some (.int .i32 0) := by kernel_rfl
theorem sz342 : sizeT Tryz.prog 342 = some 1 := by kernel_rfl
theorem ag342 : isAggT Tryz.prog 342 = some false := by kernel_rfl
theorem zr342 : zeroT Tryz.prog 342 = some (.int .i32 0) := by kernel_rfl
theorem sz343 : sizeT Tryz.prog 343 = some 11 := by kernel_rfl
theorem ag343 : isAggT Tryz.prog 343 = some true := by kernel_rfl
theorem zr343 : zeroT Tryz.prog 343 = some (.agg [.int .u64 0, .int .u64 0, .int .u32 0, .int .u8 0, .int .u8 0, .int .u8 0, .int .u8 0, .nilf, .nilp, .int .i32 0, .int .i32 0]) := by kernel_rfl
theorem sz344 : sizeT Tryz.prog 344 = some 11 := by kernel_rfl
theorem ag344 : isAggT Tryz.prog 344 = some true := by kernel_rfl
theorem zr344 : zeroT Tryz.prog 344 = some (.agg [.int .u64 0, .int .u64 0, .int .u32 0, .int .u8 0, .int .u8 0, .int .u8 0, .int .u8 0, .nilf, .nilp, .int .i32 0, .int .i32 0]) := by kernel_rfl
end Go.Proofs.YtgjddbcnnelgpaaGreatDoor
