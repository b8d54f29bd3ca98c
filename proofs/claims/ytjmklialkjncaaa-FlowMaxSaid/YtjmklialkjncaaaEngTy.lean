/- What this program's types are to the abstract machine. Printed by a program of this work; no condition. -/
import Derived.Test.YtjmklialkjncaaaEngSh
import Derived.Test.YtjmklialkjncaaaChecked
namespace Go.Proofs.Ytjmklialkjncaaa.Eng

theorem agg1 : isAggT Try.prog 1 = some false := by kernel_rfl
theorem sz1 : szOf Try.prog 1 = some 1 := by kernel_rfl
theorem by1 : byOf Try.prog 1 = some 8 := by kernel_rfl
theorem zero1 : zeroOf Try.prog 1 = some (.nilFunc) := by kernel_rfl
-- kind 1 : func
theorem agg2 : isAggT Try.prog 2 = some false := by kernel_rfl
theorem sz2 : szOf Try.prog 2 = some 1 := by kernel_rfl
theorem by2 : byOf Try.prog 2 = some 8 := by kernel_rfl
theorem zero2 : zeroOf Try.prog 2 = some (.int .i64 0) := by kernel_rfl
-- kind 2 : int
theorem agg3 : isAggT Try.prog 3 = some false := by kernel_rfl
theorem sz3 : szOf Try.prog 3 = some 1 := by kernel_rfl
theorem by3 : byOf Try.prog 3 = some 8 := by kernel_rfl
theorem zero3 : zeroOf Try.prog 3 = some (.int .i64 0) := by kernel_rfl
-- kind 3 : int
theorem agg4 : isAggT Try.prog 4 = some false := by kernel_rfl
theorem sz4 : szOf Try.prog 4 = some 1 := by kernel_rfl
theorem by4 : byOf Try.prog 4 = some 1 := by kernel_rfl
theorem zero4 : zeroOf Try.prog 4 = some (.bool false) := by kernel_rfl
-- kind 4 : bool
theorem agg5 : isAggT Try.prog 5 = some false := by kernel_rfl
theorem sz5 : szOf Try.prog 5 = some 1 := by kernel_rfl
theorem by5 : byOf Try.prog 5 = some 1 := by kernel_rfl
theorem zero5 : zeroOf Try.prog 5 = some (.int .u8 0) := by kernel_rfl
-- kind 5 : int
theorem agg6 : isAggT Try.prog 6 = some false := by kernel_rfl
theorem sz6 : szOf Try.prog 6 = some 1 := by kernel_rfl
theorem by6 : byOf Try.prog 6 = some 1 := by kernel_rfl
theorem zero6 : zeroOf Try.prog 6 = some (.int .u8 0) := by kernel_rfl
-- kind 6 : int
theorem agg7 : isAggT Try.prog 7 = some true := by kernel_rfl
theorem sz7 : szOf Try.prog 7 = some 4 := by kernel_rfl
theorem by7 : byOf Try.prog 7 = some 24 := by kernel_rfl
theorem zero7 : zeroOf Try.prog 7 = some (.agg #[.int .i64 0, .int .i64 0, .bool false, .int .u8 0]) := by kernel_rfl
-- kind 7 : struct
-- struct 7 : 2 3 4 6
theorem places7 : placesOf Try.prog 7 = some [(0, 1), (1, 1), (2, 1), (3, 1)] := by kernel_rfl
theorem agg8 : isAggT Try.prog 8 = some true := by kernel_rfl
theorem sz8 : szOf Try.prog 8 = some 4 := by kernel_rfl
theorem by8 : byOf Try.prog 8 = some 24 := by kernel_rfl
theorem zero8 : zeroOf Try.prog 8 = some (.agg #[.int .i64 0, .int .i64 0, .bool false, .int .u8 0]) := by kernel_rfl
-- kind 8 : struct
-- struct 8 : 2 3 4 6
theorem places8 : placesOf Try.prog 8 = some [(0, 1), (1, 1), (2, 1), (3, 1)] := by kernel_rfl
theorem agg9 : isAggT Try.prog 9 = some false := by kernel_rfl
theorem sz9 : szOf Try.prog 9 = some 1 := by kernel_rfl
theorem by9 : byOf Try.prog 9 = some 16 := by kernel_rfl
theorem zero9 : zeroOf Try.prog 9 = some (.string ByteArray.empty) := by kernel_rfl
-- kind 9 : string
theorem agg10 : isAggT Try.prog 10 = some false := by kernel_rfl
theorem sz10 : szOf Try.prog 10 = some 1 := by kernel_rfl
theorem by10 : byOf Try.prog 10 = some 16 := by kernel_rfl
theorem zero10 : zeroOf Try.prog 10 = some (.string ByteArray.empty) := by kernel_rfl
-- kind 10 : string
theorem agg11 : isAggT Try.prog 11 = some false := by kernel_rfl
theorem sz11 : szOf Try.prog 11 = some 1 := by kernel_rfl
theorem by11 : byOf Try.prog 11 = some 16 := by kernel_rfl
theorem zero11 : zeroOf Try.prog 11 = some (.string ByteArray.empty) := by kernel_rfl
-- kind 11 : string
theorem agg12 : isAggT Try.prog 12 = some false := by kernel_rfl
theorem sz12 : szOf Try.prog 12 = some 1 := by kernel_rfl
theorem by12 : byOf Try.prog 12 = some 8 := by kernel_rfl
theorem zero12 : zeroOf Try.prog 12 = some (.int .u64 0) := by kernel_rfl
-- kind 12 : int
theorem agg13 : isAggT Try.prog 13 = some true := by kernel_rfl
theorem sz13 : szOf Try.prog 13 = some 2 := by kernel_rfl
theorem by13 : byOf Try.prog 13 = some 24 := by kernel_rfl
theorem zero13 : zeroOf Try.prog 13 = some (.agg #[.string ByteArray.empty, .int .u64 0]) := by kernel_rfl
-- kind 13 : struct
-- struct 13 : 9 12
theorem places13 : placesOf Try.prog 13 = some [(0, 1), (1, 1)] := by kernel_rfl
theorem agg14 : isAggT Try.prog 14 = some true := by kernel_rfl
theorem sz14 : szOf Try.prog 14 = some 2 := by kernel_rfl
theorem by14 : byOf Try.prog 14 = some 24 := by kernel_rfl
theorem zero14 : zeroOf Try.prog 14 = some (.agg #[.string ByteArray.empty, .int .u64 0]) := by kernel_rfl
-- kind 14 : struct
-- struct 14 : 9 12
theorem places14 : placesOf Try.prog 14 = some [(0, 1), (1, 1)] := by kernel_rfl
theorem agg15 : isAggT Try.prog 15 = some false := by kernel_rfl
theorem sz15 : szOf Try.prog 15 = some 1 := by kernel_rfl
theorem by15 : byOf Try.prog 15 = some 8 := by kernel_rfl
theorem zero15 : zeroOf Try.prog 15 = some (.pointer none) := by kernel_rfl
-- kind 15 : pointer
theorem agg16 : isAggT Try.prog 16 = some false := by kernel_rfl
theorem sz16 : szOf Try.prog 16 = some 1 := by kernel_rfl
theorem by16 : byOf Try.prog 16 = some 8 := by kernel_rfl
theorem zero16 : zeroOf Try.prog 16 = some (.pointer none) := by kernel_rfl
-- kind 16 : pointer
theorem agg17 : isAggT Try.prog 17 = some false := by kernel_rfl
theorem sz17 : szOf Try.prog 17 = some 1 := by kernel_rfl
theorem by17 : byOf Try.prog 17 = some 8 := by kernel_rfl
theorem zero17 : zeroOf Try.prog 17 = some (.pointer none) := by kernel_rfl
-- kind 17 : pointer
theorem agg18 : isAggT Try.prog 18 = some true := by kernel_rfl
theorem sz18 : szOf Try.prog 18 = some 1 := by kernel_rfl
theorem by18 : byOf Try.prog 18 = some 8 := by kernel_rfl
theorem zero18 : zeroOf Try.prog 18 = some (.agg #[.pointer none]) := by kernel_rfl
-- kind 18 : struct
-- struct 18 : 17
theorem places18 : placesOf Try.prog 18 = some [(0, 1)] := by kernel_rfl
theorem agg19 : isAggT Try.prog 19 = some true := by kernel_rfl
theorem sz19 : szOf Try.prog 19 = some 1 := by kernel_rfl
theorem by19 : byOf Try.prog 19 = some 8 := by kernel_rfl
theorem zero19 : zeroOf Try.prog 19 = some (.agg #[.pointer none]) := by kernel_rfl
-- kind 19 : struct
-- struct 19 : 17
theorem places19 : placesOf Try.prog 19 = some [(0, 1)] := by kernel_rfl
theorem agg20 : isAggT Try.prog 20 = some false := by kernel_rfl
theorem sz20 : szOf Try.prog 20 = some 1 := by kernel_rfl
theorem by20 : byOf Try.prog 20 = some 16 := by kernel_rfl
theorem zero20 : zeroOf Try.prog 20 = some (.nilIface) := by kernel_rfl
-- kind 20 : interface
theorem agg21 : isAggT Try.prog 21 = some false := by kernel_rfl
theorem sz21 : szOf Try.prog 21 = some 1 := by kernel_rfl
theorem by21 : byOf Try.prog 21 = some 4 := by kernel_rfl
theorem zero21 : zeroOf Try.prog 21 = some (.int .i32 0) := by kernel_rfl
-- kind 21 : int
theorem agg22 : isAggT Try.prog 22 = some false := by kernel_rfl
theorem sz22 : szOf Try.prog 22 = some 1 := by kernel_rfl
theorem by22 : byOf Try.prog 22 = some 24 := by kernel_rfl
theorem zero22 : zeroOf Try.prog 22 = some (.slice none 0 0) := by kernel_rfl
theorem elem22 : elemOf Try.prog 22 = some 3 := by kernel_rfl
theorem isrow22 : isRowT Try.prog 22 = true := by kernel_rfl
-- kind 22 : slice
theorem agg23 : isAggT Try.prog 23 = some false := by kernel_rfl
theorem sz23 : szOf Try.prog 23 = some 1 := by kernel_rfl
theorem by23 : byOf Try.prog 23 = some 24 := by kernel_rfl
theorem zero23 : zeroOf Try.prog 23 = some (.slice none 0 0) := by kernel_rfl
theorem elem23 : elemOf Try.prog 23 = some 63 := by kernel_rfl
theorem isrow23 : isRowT Try.prog 23 = true := by kernel_rfl
-- kind 23 : slice
theorem agg24 : isAggT Try.prog 24 = some true := by kernel_rfl
theorem sz24 : szOf Try.prog 24 = some 4 := by kernel_rfl
theorem by24 : byOf Try.prog 24 = some 48 := by kernel_rfl
theorem zero24 : zeroOf Try.prog 24 = some (.agg #[.int .i64 0, .int .i64 0, .int .i64 0, .slice none 0 0]) := by kernel_rfl
-- kind 24 : struct
-- struct 24 : 3 3 3 23
theorem places24 : placesOf Try.prog 24 = some [(0, 1), (1, 1), (2, 1), (3, 1)] := by kernel_rfl
theorem agg25 : isAggT Try.prog 25 = some true := by kernel_rfl
theorem sz25 : szOf Try.prog 25 = some 4 := by kernel_rfl
theorem by25 : byOf Try.prog 25 = some 48 := by kernel_rfl
theorem zero25 : zeroOf Try.prog 25 = some (.agg #[.int .i64 0, .int .i64 0, .int .i64 0, .slice none 0 0]) := by kernel_rfl
-- kind 25 : struct
-- struct 25 : 3 3 3 23
theorem places25 : placesOf Try.prog 25 = some [(0, 1), (1, 1), (2, 1), (3, 1)] := by kernel_rfl
theorem agg26 : isAggT Try.prog 26 = some false := by kernel_rfl
theorem sz26 : szOf Try.prog 26 = some 1 := by kernel_rfl
theorem by26 : byOf Try.prog 26 = some 8 := by kernel_rfl
theorem zero26 : zeroOf Try.prog 26 = some (.nilFunc) := by kernel_rfl
-- kind 26 : func
theorem agg27 : isAggT Try.prog 27 = some false := by kernel_rfl
theorem sz27 : szOf Try.prog 27 = some 1 := by kernel_rfl
theorem by27 : byOf Try.prog 27 = some 8 := by kernel_rfl
theorem zero27 : zeroOf Try.prog 27 = some (.nilFunc) := by kernel_rfl
-- kind 27 : func
theorem agg28 : isAggT Try.prog 28 = some false := by kernel_rfl
theorem sz28 : szOf Try.prog 28 = some 1 := by kernel_rfl
theorem by28 : byOf Try.prog 28 = some 8 := by kernel_rfl
theorem zero28 : zeroOf Try.prog 28 = some (.nilFunc) := by kernel_rfl
-- kind 28 : func
theorem agg29 : isAggT Try.prog 29 = some false := by kernel_rfl
theorem sz29 : szOf Try.prog 29 = some 1 := by kernel_rfl
theorem by29 : byOf Try.prog 29 = some 24 := by kernel_rfl
theorem zero29 : zeroOf Try.prog 29 = some (.slice none 0 0) := by kernel_rfl
theorem elem29 : elemOf Try.prog 29 = some 25 := by kernel_rfl
theorem isrow29 : isRowT Try.prog 29 = true := by kernel_rfl
-- kind 29 : slice
theorem agg30 : isAggT Try.prog 30 = some false := by kernel_rfl
theorem sz30 : szOf Try.prog 30 = some 1 := by kernel_rfl
theorem by30 : byOf Try.prog 30 = some 8 := by kernel_rfl
theorem zero30 : zeroOf Try.prog 30 = some (.int .i64 0) := by kernel_rfl
-- kind 30 : int
theorem agg31 : isAggT Try.prog 31 = some false := by kernel_rfl
theorem sz31 : szOf Try.prog 31 = some 1 := by kernel_rfl
theorem by31 : byOf Try.prog 31 = some 8 := by kernel_rfl
theorem zero31 : zeroOf Try.prog 31 = some (.nilFunc) := by kernel_rfl
-- kind 31 : func
theorem agg33 : isAggT Try.prog 33 = some false := by kernel_rfl
theorem sz33 : szOf Try.prog 33 = some 1 := by kernel_rfl
theorem by33 : byOf Try.prog 33 = some 8 := by kernel_rfl
theorem zero33 : zeroOf Try.prog 33 = some (.nilFunc) := by kernel_rfl
-- kind 33 : func
theorem agg34 : isAggT Try.prog 34 = some false := by kernel_rfl
theorem sz34 : szOf Try.prog 34 = some 1 := by kernel_rfl
theorem by34 : byOf Try.prog 34 = some 24 := by kernel_rfl
theorem zero34 : zeroOf Try.prog 34 = some (.slice none 0 0) := by kernel_rfl
theorem elem34 : elemOf Try.prog 34 = some 44 := by kernel_rfl
theorem isrow34 : isRowT Try.prog 34 = true := by kernel_rfl
-- kind 34 : slice
theorem agg35 : isAggT Try.prog 35 = some true := by kernel_rfl
theorem sz35 : szOf Try.prog 35 = some 4 := by kernel_rfl
theorem by35 : byOf Try.prog 35 = some 48 := by kernel_rfl
theorem zero35 : zeroOf Try.prog 35 = some (.agg #[.int .i64 0, .int .i64 0, .int .i64 0, .slice none 0 0]) := by kernel_rfl
-- kind 35 : struct
-- struct 35 : 3 3 3 34
theorem places35 : placesOf Try.prog 35 = some [(0, 1), (1, 1), (2, 1), (3, 1)] := by kernel_rfl
theorem agg36 : isAggT Try.prog 36 = some true := by kernel_rfl
theorem sz36 : szOf Try.prog 36 = some 4 := by kernel_rfl
theorem by36 : byOf Try.prog 36 = some 48 := by kernel_rfl
theorem zero36 : zeroOf Try.prog 36 = some (.agg #[.int .i64 0, .int .i64 0, .int .i64 0, .slice none 0 0]) := by kernel_rfl
-- kind 36 : struct
-- struct 36 : 3 3 3 34
theorem places36 : placesOf Try.prog 36 = some [(0, 1), (1, 1), (2, 1), (3, 1)] := by kernel_rfl
theorem agg37 : isAggT Try.prog 37 = some false := by kernel_rfl
theorem sz37 : szOf Try.prog 37 = some 1 := by kernel_rfl
theorem by37 : byOf Try.prog 37 = some 8 := by kernel_rfl
theorem zero37 : zeroOf Try.prog 37 = some (.nilFunc) := by kernel_rfl
-- kind 37 : func
theorem agg39 : isAggT Try.prog 39 = some false := by kernel_rfl
theorem sz39 : szOf Try.prog 39 = some 1 := by kernel_rfl
theorem by39 : byOf Try.prog 39 = some 8 := by kernel_rfl
theorem zero39 : zeroOf Try.prog 39 = some (.nilFunc) := by kernel_rfl
-- kind 39 : func
theorem agg40 : isAggT Try.prog 40 = some false := by kernel_rfl
theorem sz40 : szOf Try.prog 40 = some 1 := by kernel_rfl
theorem by40 : byOf Try.prog 40 = some 8 := by kernel_rfl
theorem zero40 : zeroOf Try.prog 40 = some (.nilFunc) := by kernel_rfl
-- kind 40 : func
theorem agg41 : isAggT Try.prog 41 = some false := by kernel_rfl
theorem sz41 : szOf Try.prog 41 = some 1 := by kernel_rfl
theorem by41 : byOf Try.prog 41 = some 8 := by kernel_rfl
theorem zero41 : zeroOf Try.prog 41 = some (.nilFunc) := by kernel_rfl
-- kind 41 : func
theorem agg42 : isAggT Try.prog 42 = some false := by kernel_rfl
theorem sz42 : szOf Try.prog 42 = some 1 := by kernel_rfl
theorem by42 : byOf Try.prog 42 = some 8 := by kernel_rfl
theorem zero42 : zeroOf Try.prog 42 = some (.nilFunc) := by kernel_rfl
-- kind 42 : func
theorem agg43 : isAggT Try.prog 43 = some true := by kernel_rfl
theorem sz43 : szOf Try.prog 43 = some 4 := by kernel_rfl
theorem by43 : byOf Try.prog 43 = some 32 := by kernel_rfl
theorem zero43 : zeroOf Try.prog 43 = some (.agg #[.int .i64 0, .int .i64 0, .int .i64 0, .int .i64 0]) := by kernel_rfl
-- kind 43 : struct
-- struct 43 : 3 3 3 3
theorem places43 : placesOf Try.prog 43 = some [(0, 1), (1, 1), (2, 1), (3, 1)] := by kernel_rfl
theorem agg44 : isAggT Try.prog 44 = some true := by kernel_rfl
theorem sz44 : szOf Try.prog 44 = some 4 := by kernel_rfl
theorem by44 : byOf Try.prog 44 = some 32 := by kernel_rfl
theorem zero44 : zeroOf Try.prog 44 = some (.agg #[.int .i64 0, .int .i64 0, .int .i64 0, .int .i64 0]) := by kernel_rfl
-- kind 44 : struct
-- struct 44 : 3 3 3 3
theorem places44 : placesOf Try.prog 44 = some [(0, 1), (1, 1), (2, 1), (3, 1)] := by kernel_rfl
theorem agg45 : isAggT Try.prog 45 = some false := by kernel_rfl
theorem sz45 : szOf Try.prog 45 = some 1 := by kernel_rfl
theorem by45 : byOf Try.prog 45 = some 8 := by kernel_rfl
theorem zero45 : zeroOf Try.prog 45 = some (.nilFunc) := by kernel_rfl
-- kind 45 : func
theorem agg46 : isAggT Try.prog 46 = some false := by kernel_rfl
theorem sz46 : szOf Try.prog 46 = some 1 := by kernel_rfl
theorem by46 : byOf Try.prog 46 = some 24 := by kernel_rfl
theorem zero46 : zeroOf Try.prog 46 = some (.slice none 0 0) := by kernel_rfl
theorem elem46 : elemOf Try.prog 46 = some 4 := by kernel_rfl
theorem isrow46 : isRowT Try.prog 46 = true := by kernel_rfl
-- kind 46 : slice
theorem agg48 : isAggT Try.prog 48 = some false := by kernel_rfl
theorem sz48 : szOf Try.prog 48 = some 1 := by kernel_rfl
theorem by48 : byOf Try.prog 48 = some 8 := by kernel_rfl
theorem zero48 : zeroOf Try.prog 48 = some (.nilFunc) := by kernel_rfl
-- kind 48 : func
theorem agg49 : isAggT Try.prog 49 = some false := by kernel_rfl
theorem sz49 : szOf Try.prog 49 = some 1 := by kernel_rfl
theorem by49 : byOf Try.prog 49 = some 24 := by kernel_rfl
theorem zero49 : zeroOf Try.prog 49 = some (.slice none 0 0) := by kernel_rfl
theorem elem49 : elemOf Try.prog 49 = some 46 := by kernel_rfl
theorem isrow49 : isRowT Try.prog 49 = true := by kernel_rfl
-- kind 49 : slice
theorem agg50 : isAggT Try.prog 50 = some false := by kernel_rfl
theorem sz50 : szOf Try.prog 50 = some 1 := by kernel_rfl
theorem by50 : byOf Try.prog 50 = some 24 := by kernel_rfl
theorem zero50 : zeroOf Try.prog 50 = some (.slice none 0 0) := by kernel_rfl
theorem elem50 : elemOf Try.prog 50 = some 22 := by kernel_rfl
theorem isrow50 : isRowT Try.prog 50 = true := by kernel_rfl
-- kind 50 : slice
theorem agg51 : isAggT Try.prog 51 = some false := by kernel_rfl
theorem sz51 : szOf Try.prog 51 = some 1 := by kernel_rfl
theorem by51 : byOf Try.prog 51 = some 8 := by kernel_rfl
theorem zero51 : zeroOf Try.prog 51 = some (.nilFunc) := by kernel_rfl
-- kind 51 : func
theorem agg53 : isAggT Try.prog 53 = some false := by kernel_rfl
theorem sz53 : szOf Try.prog 53 = some 1 := by kernel_rfl
theorem by53 : byOf Try.prog 53 = some 8 := by kernel_rfl
theorem zero53 : zeroOf Try.prog 53 = some (.nilFunc) := by kernel_rfl
-- kind 53 : func
theorem agg54 : isAggT Try.prog 54 = some false := by kernel_rfl
theorem sz54 : szOf Try.prog 54 = some 1 := by kernel_rfl
theorem by54 : byOf Try.prog 54 = some 8 := by kernel_rfl
theorem zero54 : zeroOf Try.prog 54 = some (.nilFunc) := by kernel_rfl
-- kind 54 : func
theorem agg55 : isAggT Try.prog 55 = some false := by kernel_rfl
theorem sz55 : szOf Try.prog 55 = some 1 := by kernel_rfl
theorem by55 : byOf Try.prog 55 = some 8 := by kernel_rfl
theorem zero55 : zeroOf Try.prog 55 = some (.nilFunc) := by kernel_rfl
-- kind 55 : func
theorem agg56 : isAggT Try.prog 56 = some false := by kernel_rfl
theorem sz56 : szOf Try.prog 56 = some 1 := by kernel_rfl
theorem by56 : byOf Try.prog 56 = some 8 := by kernel_rfl
theorem zero56 : zeroOf Try.prog 56 = some (.nilFunc) := by kernel_rfl
-- kind 56 : func
theorem agg57 : isAggT Try.prog 57 = some false := by kernel_rfl
theorem sz57 : szOf Try.prog 57 = some 1 := by kernel_rfl
theorem by57 : byOf Try.prog 57 = some 8 := by kernel_rfl
theorem zero57 : zeroOf Try.prog 57 = some (.nilFunc) := by kernel_rfl
-- kind 57 : func
theorem agg58 : isAggT Try.prog 58 = some false := by kernel_rfl
theorem sz58 : szOf Try.prog 58 = some 1 := by kernel_rfl
theorem by58 : byOf Try.prog 58 = some 8 := by kernel_rfl
theorem zero58 : zeroOf Try.prog 58 = some (.nilFunc) := by kernel_rfl
-- kind 58 : func
theorem agg59 : isAggT Try.prog 59 = some false := by kernel_rfl
theorem sz59 : szOf Try.prog 59 = some 1 := by kernel_rfl
theorem by59 : byOf Try.prog 59 = some 8 := by kernel_rfl
theorem zero59 : zeroOf Try.prog 59 = some (.nilFunc) := by kernel_rfl
-- kind 59 : func
theorem agg60 : isAggT Try.prog 60 = some false := by kernel_rfl
theorem sz60 : szOf Try.prog 60 = some 1 := by kernel_rfl
theorem by60 : byOf Try.prog 60 = some 8 := by kernel_rfl
theorem zero60 : zeroOf Try.prog 60 = some (.nilFunc) := by kernel_rfl
-- kind 60 : func
theorem agg61 : isAggT Try.prog 61 = some false := by kernel_rfl
theorem sz61 : szOf Try.prog 61 = some 1 := by kernel_rfl
theorem by61 : byOf Try.prog 61 = some 8 := by kernel_rfl
theorem zero61 : zeroOf Try.prog 61 = some (.nilFunc) := by kernel_rfl
-- kind 61 : func
theorem agg62 : isAggT Try.prog 62 = some false := by kernel_rfl
theorem sz62 : szOf Try.prog 62 = some 1 := by kernel_rfl
theorem by62 : byOf Try.prog 62 = some 8 := by kernel_rfl
theorem zero62 : zeroOf Try.prog 62 = some (.nilFunc) := by kernel_rfl
-- kind 62 : func
theorem agg63 : isAggT Try.prog 63 = some true := by kernel_rfl
theorem sz63 : szOf Try.prog 63 = some 4 := by kernel_rfl
theorem by63 : byOf Try.prog 63 = some 32 := by kernel_rfl
theorem zero63 : zeroOf Try.prog 63 = some (.agg #[.int .i64 0, .int .i64 0, .int .i64 0, .int .i64 0]) := by kernel_rfl
-- kind 63 : struct
-- struct 63 : 3 3 3 3
theorem places63 : placesOf Try.prog 63 = some [(0, 1), (1, 1), (2, 1), (3, 1)] := by kernel_rfl
theorem agg65 : isAggT Try.prog 65 = some false := by kernel_rfl
theorem sz65 : szOf Try.prog 65 = some 1 := by kernel_rfl
theorem by65 : byOf Try.prog 65 = some 8 := by kernel_rfl
theorem zero65 : zeroOf Try.prog 65 = some (.nilFunc) := by kernel_rfl
-- kind 65 : func
theorem agg66 : isAggT Try.prog 66 = some false := by kernel_rfl
theorem sz66 : szOf Try.prog 66 = some 1 := by kernel_rfl
theorem by66 : byOf Try.prog 66 = some 8 := by kernel_rfl
theorem zero66 : zeroOf Try.prog 66 = some (.nilFunc) := by kernel_rfl
-- kind 66 : func
theorem agg67 : isAggT Try.prog 67 = some false := by kernel_rfl
theorem sz67 : szOf Try.prog 67 = some 1 := by kernel_rfl
theorem by67 : byOf Try.prog 67 = some 8 := by kernel_rfl
theorem zero67 : zeroOf Try.prog 67 = some (.nilFunc) := by kernel_rfl
-- kind 67 : func
theorem agg68 : isAggT Try.prog 68 = some false := by kernel_rfl
theorem sz68 : szOf Try.prog 68 = some 1 := by kernel_rfl
theorem by68 : byOf Try.prog 68 = some 8 := by kernel_rfl
theorem zero68 : zeroOf Try.prog 68 = some (.nilFunc) := by kernel_rfl
-- kind 68 : func
theorem agg69 : isAggT Try.prog 69 = some false := by kernel_rfl
theorem sz69 : szOf Try.prog 69 = some 1 := by kernel_rfl
theorem by69 : byOf Try.prog 69 = some 8 := by kernel_rfl
theorem zero69 : zeroOf Try.prog 69 = some (.nilFunc) := by kernel_rfl
-- kind 69 : func
theorem agg70 : isAggT Try.prog 70 = some false := by kernel_rfl
theorem sz70 : szOf Try.prog 70 = some 1 := by kernel_rfl
theorem by70 : byOf Try.prog 70 = some 8 := by kernel_rfl
theorem zero70 : zeroOf Try.prog 70 = some (.nilFunc) := by kernel_rfl
-- kind 70 : func
theorem agg71 : isAggT Try.prog 71 = some false := by kernel_rfl
theorem sz71 : szOf Try.prog 71 = some 1 := by kernel_rfl
theorem by71 : byOf Try.prog 71 = some 8 := by kernel_rfl
theorem zero71 : zeroOf Try.prog 71 = some (.nilFunc) := by kernel_rfl
-- kind 71 : func
theorem agg72 : isAggT Try.prog 72 = some false := by kernel_rfl
theorem sz72 : szOf Try.prog 72 = some 1 := by kernel_rfl
theorem by72 : byOf Try.prog 72 = some 24 := by kernel_rfl
theorem zero72 : zeroOf Try.prog 72 = some (.slice none 0 0) := by kernel_rfl
theorem elem72 : elemOf Try.prog 72 = some 74 := by kernel_rfl
theorem isrow72 : isRowT Try.prog 72 = true := by kernel_rfl
-- kind 72 : slice
theorem agg73 : isAggT Try.prog 73 = some false := by kernel_rfl
theorem sz73 : szOf Try.prog 73 = some 1 := by kernel_rfl
theorem by73 : byOf Try.prog 73 = some 8 := by kernel_rfl
theorem zero73 : zeroOf Try.prog 73 = some (.nilFunc) := by kernel_rfl
-- kind 73 : func
theorem agg74 : isAggT Try.prog 74 = some false := by kernel_rfl
theorem sz74 : szOf Try.prog 74 = some 1 := by kernel_rfl
theorem by74 : byOf Try.prog 74 = some 24 := by kernel_rfl
theorem zero74 : zeroOf Try.prog 74 = some (.slice none 0 0) := by kernel_rfl
theorem elem74 : elemOf Try.prog 74 = some 79 := by kernel_rfl
theorem isrow74 : isRowT Try.prog 74 = true := by kernel_rfl
-- kind 74 : slice
theorem agg76 : isAggT Try.prog 76 = some false := by kernel_rfl
theorem sz76 : szOf Try.prog 76 = some 1 := by kernel_rfl
theorem by76 : byOf Try.prog 76 = some 8 := by kernel_rfl
theorem zero76 : zeroOf Try.prog 76 = some (.nilFunc) := by kernel_rfl
-- kind 76 : func
theorem agg77 : isAggT Try.prog 77 = some false := by kernel_rfl
theorem sz77 : szOf Try.prog 77 = some 1 := by kernel_rfl
theorem by77 : byOf Try.prog 77 = some 8 := by kernel_rfl
theorem zero77 : zeroOf Try.prog 77 = some (.nilFunc) := by kernel_rfl
-- kind 77 : func
theorem agg78 : isAggT Try.prog 78 = some true := by kernel_rfl
theorem sz78 : szOf Try.prog 78 = some 3 := by kernel_rfl
theorem by78 : byOf Try.prog 78 = some 24 := by kernel_rfl
theorem zero78 : zeroOf Try.prog 78 = some (.agg #[.int .i64 0, .int .i64 0, .bool false]) := by kernel_rfl
-- kind 78 : struct
-- struct 78 : 3 3 4
theorem places78 : placesOf Try.prog 78 = some [(0, 1), (1, 1), (2, 1)] := by kernel_rfl
theorem agg79 : isAggT Try.prog 79 = some true := by kernel_rfl
theorem sz79 : szOf Try.prog 79 = some 3 := by kernel_rfl
theorem by79 : byOf Try.prog 79 = some 24 := by kernel_rfl
theorem zero79 : zeroOf Try.prog 79 = some (.agg #[.int .i64 0, .int .i64 0, .bool false]) := by kernel_rfl
-- kind 79 : struct
-- struct 79 : 3 3 4
theorem places79 : placesOf Try.prog 79 = some [(0, 1), (1, 1), (2, 1)] := by kernel_rfl
theorem agg80 : isAggT Try.prog 80 = some false := by kernel_rfl
theorem sz80 : szOf Try.prog 80 = some 1 := by kernel_rfl
theorem by80 : byOf Try.prog 80 = some 8 := by kernel_rfl
theorem zero80 : zeroOf Try.prog 80 = some (.nilFunc) := by kernel_rfl
-- kind 80 : func
theorem agg81 : isAggT Try.prog 81 = some false := by kernel_rfl
theorem sz81 : szOf Try.prog 81 = some 1 := by kernel_rfl
theorem by81 : byOf Try.prog 81 = some 8 := by kernel_rfl
theorem zero81 : zeroOf Try.prog 81 = some (.nilFunc) := by kernel_rfl
-- kind 81 : func
theorem agg82 : isAggT Try.prog 82 = some false := by kernel_rfl
theorem sz82 : szOf Try.prog 82 = some 1 := by kernel_rfl
theorem by82 : byOf Try.prog 82 = some 8 := by kernel_rfl
theorem zero82 : zeroOf Try.prog 82 = some (.nilFunc) := by kernel_rfl
-- kind 82 : func
theorem agg84 : isAggT Try.prog 84 = some false := by kernel_rfl
theorem sz84 : szOf Try.prog 84 = some 1 := by kernel_rfl
theorem by84 : byOf Try.prog 84 = some 8 := by kernel_rfl
theorem zero84 : zeroOf Try.prog 84 = some (.nilFunc) := by kernel_rfl
-- kind 84 : func
theorem agg85 : isAggT Try.prog 85 = some false := by kernel_rfl
theorem sz85 : szOf Try.prog 85 = some 1 := by kernel_rfl
theorem by85 : byOf Try.prog 85 = some 8 := by kernel_rfl
theorem zero85 : zeroOf Try.prog 85 = some (.nilFunc) := by kernel_rfl
-- kind 85 : func
theorem agg86 : isAggT Try.prog 86 = some false := by kernel_rfl
theorem sz86 : szOf Try.prog 86 = some 1 := by kernel_rfl
theorem by86 : byOf Try.prog 86 = some 8 := by kernel_rfl
theorem zero86 : zeroOf Try.prog 86 = some (.nilFunc) := by kernel_rfl
-- kind 86 : func
theorem agg87 : isAggT Try.prog 87 = some false := by kernel_rfl
theorem sz87 : szOf Try.prog 87 = some 1 := by kernel_rfl
theorem by87 : byOf Try.prog 87 = some 8 := by kernel_rfl
theorem zero87 : zeroOf Try.prog 87 = some (.nilFunc) := by kernel_rfl
-- kind 87 : func
theorem agg88 : isAggT Try.prog 88 = some false := by kernel_rfl
theorem sz88 : szOf Try.prog 88 = some 1 := by kernel_rfl
theorem by88 : byOf Try.prog 88 = some 8 := by kernel_rfl
theorem zero88 : zeroOf Try.prog 88 = some (.nilFunc) := by kernel_rfl
-- kind 88 : func
theorem agg89 : isAggT Try.prog 89 = some false := by kernel_rfl
theorem sz89 : szOf Try.prog 89 = some 1 := by kernel_rfl
theorem by89 : byOf Try.prog 89 = some 8 := by kernel_rfl
theorem zero89 : zeroOf Try.prog 89 = some (.nilFunc) := by kernel_rfl
-- kind 89 : func
theorem agg90 : isAggT Try.prog 90 = some false := by kernel_rfl
theorem sz90 : szOf Try.prog 90 = some 1 := by kernel_rfl
theorem by90 : byOf Try.prog 90 = some 8 := by kernel_rfl
theorem zero90 : zeroOf Try.prog 90 = some (.nilFunc) := by kernel_rfl
-- kind 90 : func
theorem agg91 : isAggT Try.prog 91 = some false := by kernel_rfl
theorem sz91 : szOf Try.prog 91 = some 1 := by kernel_rfl
theorem by91 : byOf Try.prog 91 = some 8 := by kernel_rfl
theorem zero91 : zeroOf Try.prog 91 = some (.nilFunc) := by kernel_rfl
-- kind 91 : func
theorem agg92 : isAggT Try.prog 92 = some false := by kernel_rfl
theorem sz92 : szOf Try.prog 92 = some 1 := by kernel_rfl
theorem by92 : byOf Try.prog 92 = some 8 := by kernel_rfl
theorem zero92 : zeroOf Try.prog 92 = some (.nilFunc) := by kernel_rfl
-- kind 92 : func
theorem agg94 : isAggT Try.prog 94 = some false := by kernel_rfl
theorem sz94 : szOf Try.prog 94 = some 1 := by kernel_rfl
theorem by94 : byOf Try.prog 94 = some 8 := by kernel_rfl
theorem zero94 : zeroOf Try.prog 94 = some (.nilFunc) := by kernel_rfl
-- kind 94 : func
theorem agg95 : isAggT Try.prog 95 = some false := by kernel_rfl
theorem sz95 : szOf Try.prog 95 = some 1 := by kernel_rfl
theorem by95 : byOf Try.prog 95 = some 8 := by kernel_rfl
theorem zero95 : zeroOf Try.prog 95 = some (.nilFunc) := by kernel_rfl
-- kind 95 : func
theorem agg96 : isAggT Try.prog 96 = some false := by kernel_rfl
theorem sz96 : szOf Try.prog 96 = some 1 := by kernel_rfl
theorem by96 : byOf Try.prog 96 = some 8 := by kernel_rfl
theorem zero96 : zeroOf Try.prog 96 = some (.nilFunc) := by kernel_rfl
-- kind 96 : func
theorem agg97 : isAggT Try.prog 97 = some false := by kernel_rfl
theorem sz97 : szOf Try.prog 97 = some 1 := by kernel_rfl
theorem by97 : byOf Try.prog 97 = some 8 := by kernel_rfl
theorem zero97 : zeroOf Try.prog 97 = some (.nilFunc) := by kernel_rfl
-- kind 97 : func
theorem agg98 : isAggT Try.prog 98 = some false := by kernel_rfl
theorem sz98 : szOf Try.prog 98 = some 1 := by kernel_rfl
theorem by98 : byOf Try.prog 98 = some 8 := by kernel_rfl
theorem zero98 : zeroOf Try.prog 98 = some (.nilFunc) := by kernel_rfl
-- kind 98 : func
theorem agg99 : isAggT Try.prog 99 = some false := by kernel_rfl
theorem sz99 : szOf Try.prog 99 = some 1 := by kernel_rfl
theorem by99 : byOf Try.prog 99 = some 8 := by kernel_rfl
theorem zero99 : zeroOf Try.prog 99 = some (.nilFunc) := by kernel_rfl
-- kind 99 : func
theorem agg100 : isAggT Try.prog 100 = some true := by kernel_rfl
theorem sz100 : szOf Try.prog 100 = some 4 := by kernel_rfl
theorem by100 : byOf Try.prog 100 = some 40 := by kernel_rfl
theorem zero100 : zeroOf Try.prog 100 = some (.agg #[.pointer none, .pointer none, .pointer none, .string ByteArray.empty]) := by kernel_rfl
-- kind 100 : struct
-- struct 100 : 17 17 17 9
theorem places100 : placesOf Try.prog 100 = some [(0, 1), (1, 1), (2, 1), (3, 1)] := by kernel_rfl
theorem agg101 : isAggT Try.prog 101 = some true := by kernel_rfl
theorem sz101 : szOf Try.prog 101 = some 4 := by kernel_rfl
theorem by101 : byOf Try.prog 101 = some 40 := by kernel_rfl
theorem zero101 : zeroOf Try.prog 101 = some (.agg #[.pointer none, .pointer none, .pointer none, .string ByteArray.empty]) := by kernel_rfl
-- kind 101 : struct
-- struct 101 : 17 17 17 9
theorem places101 : placesOf Try.prog 101 = some [(0, 1), (1, 1), (2, 1), (3, 1)] := by kernel_rfl
theorem agg102 : isAggT Try.prog 102 = some true := by kernel_rfl
theorem sz102 : szOf Try.prog 102 = some 0 := by kernel_rfl
theorem by102 : byOf Try.prog 102 = some 0 := by kernel_rfl
theorem zero102 : zeroOf Try.prog 102 = some (.agg #[]) := by kernel_rfl
-- kind 102 : array
theorem agg103 : isAggT Try.prog 103 = some true := by kernel_rfl
theorem sz103 : szOf Try.prog 103 = some 0 := by kernel_rfl
theorem by103 : byOf Try.prog 103 = some 0 := by kernel_rfl
theorem zero103 : zeroOf Try.prog 103 = some (.agg #[]) := by kernel_rfl
-- kind 103 : struct
-- struct 103 : 102
theorem places103 : placesOf Try.prog 103 = some [(0, 0)] := by kernel_rfl
theorem agg104 : isAggT Try.prog 104 = some true := by kernel_rfl
theorem sz104 : szOf Try.prog 104 = some 0 := by kernel_rfl
theorem by104 : byOf Try.prog 104 = some 0 := by kernel_rfl
theorem zero104 : zeroOf Try.prog 104 = some (.agg #[]) := by kernel_rfl
-- kind 104 : struct
-- struct 104 : 102
theorem places104 : placesOf Try.prog 104 = some [(0, 0)] := by kernel_rfl
theorem agg105 : isAggT Try.prog 105 = some false := by kernel_rfl
theorem sz105 : szOf Try.prog 105 = some 1 := by kernel_rfl
theorem by105 : byOf Try.prog 105 = some 8 := by kernel_rfl
theorem zero105 : zeroOf Try.prog 105 = some (.nilFunc) := by kernel_rfl
-- kind 105 : func
theorem agg106 : isAggT Try.prog 106 = some false := by kernel_rfl
theorem sz106 : szOf Try.prog 106 = some 1 := by kernel_rfl
theorem by106 : byOf Try.prog 106 = some 4 := by kernel_rfl
theorem zero106 : zeroOf Try.prog 106 = some (.int .u32 0) := by kernel_rfl
-- kind 106 : int
theorem agg107 : isAggT Try.prog 107 = some false := by kernel_rfl
theorem sz107 : szOf Try.prog 107 = some 1 := by kernel_rfl
theorem by107 : byOf Try.prog 107 = some 1 := by kernel_rfl
theorem zero107 : zeroOf Try.prog 107 = some (.int .u8 0) := by kernel_rfl
-- kind 107 : int
theorem agg108 : isAggT Try.prog 108 = some false := by kernel_rfl
theorem sz108 : szOf Try.prog 108 = some 1 := by kernel_rfl
theorem by108 : byOf Try.prog 108 = some 1 := by kernel_rfl
theorem zero108 : zeroOf Try.prog 108 = some (.int .u8 0) := by kernel_rfl
-- kind 108 : int
theorem agg109 : isAggT Try.prog 109 = some false := by kernel_rfl
theorem sz109 : szOf Try.prog 109 = some 1 := by kernel_rfl
theorem by109 : byOf Try.prog 109 = some 8 := by kernel_rfl
theorem zero109 : zeroOf Try.prog 109 = some (.nilFunc) := by kernel_rfl
-- kind 109 : func
theorem agg110 : isAggT Try.prog 110 = some false := by kernel_rfl
theorem sz110 : szOf Try.prog 110 = some 1 := by kernel_rfl
theorem by110 : byOf Try.prog 110 = some 8 := by kernel_rfl
theorem zero110 : zeroOf Try.prog 110 = some (.pointer none) := by kernel_rfl
-- kind 110 : pointer
theorem agg111 : isAggT Try.prog 111 = some false := by kernel_rfl
theorem sz111 : szOf Try.prog 111 = some 1 := by kernel_rfl
theorem by111 : byOf Try.prog 111 = some 4 := by kernel_rfl
theorem zero111 : zeroOf Try.prog 111 = some (.int .i32 0) := by kernel_rfl
-- kind 111 : int
theorem agg112 : isAggT Try.prog 112 = some false := by kernel_rfl
theorem sz112 : szOf Try.prog 112 = some 1 := by kernel_rfl
theorem by112 : byOf Try.prog 112 = some 4 := by kernel_rfl
theorem zero112 : zeroOf Try.prog 112 = some (.int .i32 0) := by kernel_rfl
-- kind 112 : int
theorem agg113 : isAggT Try.prog 113 = some true := by kernel_rfl
theorem sz113 : szOf Try.prog 113 = some 11 := by kernel_rfl
theorem by113 : byOf Try.prog 113 = some 48 := by kernel_rfl
theorem zero113 : zeroOf Try.prog 113 = some (.agg #[.int .u64 0, .int .u64 0, .int .u32 0, .int .u8 0, .int .u8 0, .int .u8 0, .int .u8 0, .nilFunc, .pointer none, .int .i32 0, .int .i32 0]) := by kernel_rfl
-- kind 113 : struct
-- struct 113 : 12 12 106 107 5 5 108 109 110 111 112
theorem places113 : placesOf Try.prog 113 = some [(0, 1), (1, 1), (2, 1), (3, 1), (4, 1), (5, 1), (6, 1), (7, 1), (8, 1), (9, 1), (10, 1)] := by kernel_rfl
theorem agg114 : isAggT Try.prog 114 = some true := by kernel_rfl
theorem sz114 : szOf Try.prog 114 = some 11 := by kernel_rfl
theorem by114 : byOf Try.prog 114 = some 48 := by kernel_rfl
theorem zero114 : zeroOf Try.prog 114 = some (.agg #[.int .u64 0, .int .u64 0, .int .u32 0, .int .u8 0, .int .u8 0, .int .u8 0, .int .u8 0, .nilFunc, .pointer none, .int .i32 0, .int .i32 0]) := by kernel_rfl
-- kind 114 : struct
-- struct 114 : 12 12 106 107 5 5 108 109 110 111 112
theorem places114 : placesOf Try.prog 114 = some [(0, 1), (1, 1), (2, 1), (3, 1), (4, 1), (5, 1), (6, 1), (7, 1), (8, 1), (9, 1), (10, 1)] := by kernel_rfl

end Go.Proofs.Ytjmklialkjncaaa.Eng
