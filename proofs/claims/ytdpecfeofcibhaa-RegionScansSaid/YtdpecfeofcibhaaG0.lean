/- Printed by gen2.py: what functions of the program come to. -/
import Derived.Test.YtdpecfeofcibhaaA18
import Derived.Test.YtdpecfeofcibhaaProg
import Derived.KernelRfl
set_option maxRecDepth 100000
namespace Go.Abs
open Go.Proofs

noncomputable abbrev PR : Program := Try.prog

/-- The slots that are kept. -/
def keeps : Nat → Keep
  | 5 => ([(5, 57, 4)], [])
  | 6 => ([(7, 2575, 783), (17, 127491, 61954)], [])
  | 7 => ([(8, 169, 4)], [])
  | 8 => ([(2, 135, 67)], [])
  | 11 => ([(9, 1557, 1557), (20, 34325, 516)], [])
  | 12 => ([(4, 35, 16)], [])
  | 13 => ([(4, 35, 16)], [])
  | 14 => ([(3, 105, 48)], [])
  | 15 => ([(3, 105, 48)], [])
  | 16 => ([(3, 912, 28)], [])
  | 17 => ([(3, 49, 28)], [])
  | 18 => ([(5, 48, 28)], [])
  | 19 => ([(5, 49, 16)], [])
  | 20 => ([(4, 35, 16)], [])
  | 22 => ([(2, 135, 67)], [])
  | 29 => ([(2, 897, 0)], [])
  | 30 => ([(1, 5, 0)], [])
  | 32 => ([(4, 519, 256)], [])
  | 34 => ([(8, 1540, 256)], [])
  | 35 => ([(4, 35, 16)], [])
  | 36 => ([(5, 2056, 8)], [])
  | 37 => ([(3, 25, 8), (6, 57, 57)], [])
  | 38 => ([(6, 25769803810, 32)], [])
  | 41 => ([(5, 469770243, 4096)], [])
  | 42 => ([(5, 14344, 8)], [])
  | 43 => ([(3, 460815, 3087)], [])
  | 46 => ([(5, 49219, 112)], [])
  | 48 => ([(5, 50, 16), (9, 242, 114)], [])
  | 50 => ([(4, 8255, 4096)], [])
  | 55 => ([(12, 227, 35)], [])
  | 56 => ([(3, 195, 112)], [])
  | 57 => ([(3, 229384, 8)], [])
  | 59 => ([(6, 209, 205)], [])
  | 60 => ([(3, 99, 32)], [])
  | 61 => ([(5, 3221225555, 114)], [])
  | 64 => ([(2, 9, 4)], [])
  | 65 => ([(6, 451, 242)], [])
  | 66 => ([(5, 2375, 450)], [])
  | 67 => ([(14, 33849922949209616891773253, 349)], [])
  | 69 => ([(2, 1793, 49)], [])
  | 71 => ([(6, 1798, 770)], [])
  | 72 => ([(7, 103079215875, 256)], [])
  | 73 => ([(7, 771, 256)], [])
  | 75 => ([(2, 35, 19)], [])
  | 76 => ([(2, 35, 16)], [])
  | 79 => ([(2, 35, 19)], [])
  | 81 => ([(1, 389, 0)], [])
  | 86 => ([(3, 25, 8)], [])
  | 88 => ([(3, 49, 28), (7, 241, 61)], [])
  | 96 => ([(2, 224, 4)], [])
  | 100 => ([(13, 516, 512)], [])
  | 106 => ([(3, 45, 12)], [])
  | 107 => ([(2, 783, 0)], [])
  | 109 => ([(3, 776, 8)], [])
  | 114 => ([(3, 98, 32)], [])
  | 117 => ([(1, 71, 0), (4, 199, 71)], [])
  | 118 => ([(4, 961, 449), (8, 1217, 0)], [])
  | 119 => ([(5, 963, 0)], [])
  | 121 => ([(2, 193, 0)], [])
  | 122 => ([(3, 391, 64), (5, 391, 391), (14, 903, 391), (20, 1415, 391)], [])
  | 124 => ([(3, 1539, 512), (3, 1539, 1539), (5, 1539, 1539)], [])
  | 125 => ([(3, 3075, 3075), (5, 3075, 3075), (13, 3075, 2051), (13, 3075, 3075), (15, 3075, 3075)], [])
  | 128 => ([(2, 897, 1)], [])
  | 130 => ([(3, 96, 32)], [])
  | 132 => ([(1, 269, 0)], [])
  | 138 => ([(2, 1793, 1), (6, 263937, 1793)], [])
  | _ => ([], [])

def M : FuncId → Keep := keeps

/-- depot/depotlaw25.RegionScans -/
def depotlaw25_RegionScans (pages_1 : Option Sl) (x__02 : Int) (x__13 : Int) (x__24 : Int) (h : AH) (K : Bool → AH → Prop) : Prop := ACall PR M 3 [.slice pages_1, .agg [.int .i64 x__02, .int .i64 x__13, .int .i64 x__24]] h fun v1 h2 =>
  chkBool v1 fun b3 =>
  K b3 h2
/-- depot/depotlaw25.RegionKills -/
def depotlaw25_RegionKills (l_1 : Option Sl) (payload_2 : Option Sl) (h : AH) (K : Bool → AH → Prop) : Prop := ACall PR M 4 [.slice l_1, .slice payload_2] h fun v1 h2 =>
  chkBool v1 fun b3 =>
  K b3 h2
/-- depot/depotlaw32.PlainDoes -/
def depotlaw32_PlainDoes (l_1 : Option Sl) (h : AH) (K : Bool → AH → Prop) : Prop := ACall PR M 5 [.slice l_1] h fun v1 h2 =>
  chkBool v1 fun b3 =>
  K b3 h2
/-- depot/depotlaw25.RegionTorn -/
def depotlaw25_RegionTorn (items_1 : Option Sl) (seal_2 : Bool) (after_3 : Int) (keep_4 : Int) (h : AH) (K : Bool → AH → Prop) : Prop := ACall PR M 6 [.slice items_1, .bool seal_2, .int .i64 after_3, .int .i64 keep_4] h fun v1 h2 =>
  chkBool v1 fun b3 =>
  K b3 h2
/-- depot/depotlaw25.RegionWrites -/
def depotlaw25_RegionWrites (l_1 : Option Sl) (h : AH) (K : Bool → AH → Prop) : Prop := ACall PR M 7 [.slice l_1] h fun v1 h2 =>
  chkBool v1 fun b3 =>
  K b3 h2
/-- depot/depotref24.Few -/
def depotref24_Few (l_1 : Option Sl) (most_2 : Int) (bytes_3 : Int) (h : AH) (K : Bool → AH → Prop) : Prop := ACall PR M 8 [.slice l_1, .int .i64 most_2, .int .i64 bytes_3] h fun v1 h2 =>
  chkBool v1 fun b3 =>
  K b3 h2
/-- depot/depotlaw25.regions -/
def depotlaw25_regions  (h : AH) (K : Bool → AH → Prop) : Prop := ACall PR M 9 [] h fun v1 h2 =>
  chkBool v1 fun b3 =>
  K b3 h2
/-- depot/region.Scan -/
def region_Scan (pages_1 : Option Sl) (h : AH) (K : Int → Bool → Option Sl → Bool → AH → Prop) : Prop := ACall PR M 10 [.slice pages_1] h fun v1 h2 =>
  asTup v1 fun l3 =>
  asCons l3 fun v4 l5 =>
  asAgg v4 fun l6 =>
  asCons l6 fun v7 l8 =>
  chkInt .i64 v7 fun n9 =>
  asCons l8 fun v10 l11 =>
  chkBool v10 fun b12 =>
  asCons l11 fun v13 l14 =>
  chkSl v13 fun x15 =>
  asNil l14 <|
  asCons l5 fun v16 l17 =>
  chkBool v16 fun b18 =>
  asNil l17 <|
  K n9 b12 x15 b18 h2
/-- depot/depotref25.Scan -/
def depotref25_Scan (pages_1 : Option Sl) (h : AH) (K : Int → Bool → Option Sl → Bool → AH → Prop) : Prop := ACall PR M 11 [.slice pages_1] h fun v1 h2 =>
  asTup v1 fun l3 =>
  asCons l3 fun v4 l5 =>
  asAgg v4 fun l6 =>
  asCons l6 fun v7 l8 =>
  chkInt .i64 v7 fun n9 =>
  asCons l8 fun v10 l11 =>
  chkBool v10 fun b12 =>
  asCons l11 fun v13 l14 =>
  chkSl v13 fun x15 =>
  asNil l14 <|
  asCons l5 fun v16 l17 =>
  chkBool v16 fun b18 =>
  asNil l17 <|
  K n9 b12 x15 b18 h2
/-- depot/depotref25.Items -/
def depotref25_Items (a_1 : Option Sl) (b_2 : Option Sl) (h : AH) (K : Bool → AH → Prop) : Prop := ACall PR M 12 [.slice a_1, .slice b_2] h fun v1 h2 =>
  chkBool v1 fun b3 =>
  K b3 h2
/-- depot/depotref24.Same -/
def depotref24_Same (a_1 : Option Sl) (b_2 : Option Sl) (h : AH) (K : Bool → AH → Prop) : Prop := ACall PR M 13 [.slice a_1, .slice b_2] h fun v1 h2 =>
  chkBool v1 fun b3 =>
  K b3 h2
/-- depot/region.Parts -/
def region_Parts (pages_1 : Option Sl) (x__02 : Int) (x__13 : Int) (x__24 : Int) (h : AH) (K : Option Sl → AH → Prop) : Prop := ACall PR M 14 [.slice pages_1, .agg [.int .i64 x__02, .int .i64 x__13, .int .i64 x__24]] h fun v1 h2 =>
  chkSl v1 fun x3 =>
  K x3 h2
/-- depot/depotref25.Parts -/
def depotref25_Parts (pages_1 : Option Sl) (x__02 : Int) (x__13 : Int) (x__24 : Int) (h : AH) (K : Option Sl → AH → Prop) : Prop := ACall PR M 15 [.slice pages_1, .agg [.int .i64 x__02, .int .i64 x__13, .int .i64 x__24]] h fun v1 h2 =>
  chkSl v1 fun x3 =>
  K x3 h2
/-- depot/region.KillLoad -/
def region_KillLoad (l_1 : Option Sl) (h : AH) (K : Option Sl → Int → AH → Prop) : Prop := ACall PR M 16 [.slice l_1] h fun v1 h2 =>
  asTup v1 fun l3 =>
  asCons l3 fun v4 l5 =>
  chkSl v4 fun x6 =>
  asCons l5 fun v7 l8 =>
  chkInt .i64 v7 fun n9 =>
  asNil l8 <|
  K x6 n9 h2
/-- depot/depotref25.KillLoad -/
def depotref25_KillLoad (l_1 : Option Sl) (h : AH) (K : Option Sl → Int → AH → Prop) : Prop := ACall PR M 17 [.slice l_1] h fun v1 h2 =>
  asTup v1 fun l3 =>
  asCons l3 fun v4 l5 =>
  chkSl v4 fun x6 =>
  asCons l5 fun v7 l8 =>
  chkInt .i64 v7 fun n9 =>
  asNil l8 <|
  K x6 n9 h2
/-- depot/region.Kills -/
def region_Kills (payload_1 : Option Sl) (h : AH) (K : Option Sl → Int → AH → Prop) : Prop := ACall PR M 18 [.slice payload_1] h fun v1 h2 =>
  asTup v1 fun l3 =>
  asCons l3 fun v4 l5 =>
  chkSl v4 fun x6 =>
  asCons l5 fun v7 l8 =>
  chkInt .i64 v7 fun n9 =>
  asNil l8 <|
  K x6 n9 h2
/-- depot/depotref25.Kills -/
def depotref25_Kills (payload_1 : Option Sl) (h : AH) (K : Option Sl → Int → AH → Prop) : Prop := ACall PR M 19 [.slice payload_1] h fun v1 h2 =>
  asTup v1 fun l3 =>
  asCons l3 fun v4 l5 =>
  chkSl v4 fun x6 =>
  asCons l5 fun v7 l8 =>
  chkInt .i64 v7 fun n9 =>
  asNil l8 <|
  K x6 n9 h2
/-- depot/depotref25.Places -/
def depotref25_Places (a_1 : Option Sl) (b_2 : Option Sl) (h : AH) (K : Bool → AH → Prop) : Prop := ACall PR M 20 [.slice a_1, .slice b_2] h fun v1 h2 =>
  chkBool v1 fun b3 =>
  K b3 h2
/-- depot/depotref03.Same -/
def depotref03_Same (a_1 : Option Sl) (b_2 : Option Sl) (h : AH) (K : Bool → AH → Prop) : Prop := ACall PR M 21 [.slice a_1, .slice b_2] h fun v1 h2 =>
  chkBool v1 fun b3 =>
  K b3 h2
/-- depot/depotref32.Few -/
def depotref32_Few (l_1 : Option Sl) (most_2 : Int) (bytes_3 : Int) (h : AH) (K : Bool → AH → Prop) : Prop := ACall PR M 22 [.slice l_1, .int .i64 most_2, .int .i64 bytes_3] h fun v1 h2 =>
  chkBool v1 fun b3 =>
  K b3 h2
/-- depot/depotlaw32.plains -/
def depotlaw32_plains  (h : AH) (K : Bool → AH → Prop) : Prop := ACall PR M 23 [] h fun v1 h2 =>
  chkBool v1 fun b3 =>
  K b3 h2
/-- depot/plain.New -/
def plain_New  (h : AH) (K : Option (Nat × Nat) → AH → Prop) : Prop := ACall PR M 24 [] h fun v1 h2 =>
  chkPtr v1 fun p3 =>
  K p3 h2
/-- (*depot/plain.Plain).Put -/
def plain_Plain_Put (p_1 : Option (Nat × Nat)) (key_2 : List UInt8) (value_3 : List UInt8) (h : AH) (K : AH → Prop) : Prop := ACall PR M 25 [.ptr p_1, .str key_2, .str value_3] h fun v1 h2 =>
  asTup v1 fun l3 =>
  asNil l3 <|
  K h2
/-- (*depot/depotref32.Plain).Put -/
def depotref32_Plain_Put (p_1 : Option (Nat × Nat)) (key_2 : List UInt8) (value_3 : List UInt8) (h : AH) (K : AH → Prop) : Prop := ACall PR M 26 [.ptr p_1, .str key_2, .str value_3] h fun v1 h2 =>
  asTup v1 fun l3 =>
  asNil l3 <|
  K h2
/-- (*depot/plain.Plain).Delete -/
def plain_Plain_Delete (p_1 : Option (Nat × Nat)) (key_2 : List UInt8) (h : AH) (K : AH → Prop) : Prop := ACall PR M 27 [.ptr p_1, .str key_2] h fun v1 h2 =>
  asTup v1 fun l3 =>
  asNil l3 <|
  K h2
/-- (*depot/depotref32.Plain).Delete -/
def depotref32_Plain_Delete (p_1 : Option (Nat × Nat)) (key_2 : List UInt8) (h : AH) (K : AH → Prop) : Prop := ACall PR M 28 [.ptr p_1, .str key_2] h fun v1 h2 =>
  asTup v1 fun l3 =>
  asNil l3 <|
  K h2
/-- (*depot/plain.Plain).Flushed -/
def plain_Plain_Flushed (p_1 : Option (Nat × Nat)) (h : AH) (K : AH → Prop) : Prop := ACall PR M 29 [.ptr p_1] h fun v1 h2 =>
  asTup v1 fun l3 =>
  asNil l3 <|
  K h2
/-- (*depot/depotref32.Plain).Flushed -/
def depotref32_Plain_Flushed (p_1 : Option (Nat × Nat)) (h : AH) (K : AH → Prop) : Prop := ACall PR M 30 [.ptr p_1] h fun v1 h2 =>
  asTup v1 fun l3 =>
  asNil l3 <|
  K h2
/-- (*depot/plain.Plain).May -/
def plain_Plain_May (p_1 : Option (Nat × Nat)) (key_2 : List UInt8) (value_3 : List UInt8) (has_4 : Bool) (h : AH) (K : Bool → AH → Prop) : Prop := ACall PR M 31 [.ptr p_1, .str key_2, .str value_3, .bool has_4] h fun v1 h2 =>
  chkBool v1 fun b3 =>
  K b3 h2
/-- (*depot/depotref32.Plain).May -/
def depotref32_Plain_May (p_1 : Option (Nat × Nat)) (key_2 : List UInt8) (value_3 : List UInt8) (has_4 : Bool) (h : AH) (K : Bool → AH → Prop) : Prop := ACall PR M 32 [.ptr p_1, .str key_2, .str value_3, .bool has_4] h fun v1 h2 =>
  chkBool v1 fun b3 =>
  K b3 h2
/-- (*depot/plain.Plain).Crashed -/
def plain_Plain_Crashed (p_1 : Option (Nat × Nat)) (key_2 : List UInt8) (value_3 : List UInt8) (has_4 : Bool) (h : AH) (K : Bool → AH → Prop) : Prop := ACall PR M 33 [.ptr p_1, .str key_2, .str value_3, .bool has_4] h fun v1 h2 =>
  chkBool v1 fun b3 =>
  K b3 h2
/-- (*depot/depotref32.Plain).Crashed -/
def depotref32_Plain_Crashed (p_1 : Option (Nat × Nat)) (key_2 : List UInt8) (value_3 : List UInt8) (has_4 : Bool) (h : AH) (K : Bool → AH → Prop) : Prop := ACall PR M 34 [.ptr p_1, .str key_2, .str value_3, .bool has_4] h fun v1 h2 =>
  chkBool v1 fun b3 =>
  K b3 h2
/-- depot/depotref06.Same -/
def depotref06_Same (a_1 : Option Sl) (b_2 : Option Sl) (h : AH) (K : Bool → AH → Prop) : Prop := ACall PR M 35 [.slice a_1, .slice b_2] h fun v1 h2 =>
  chkBool v1 fun b3 =>
  K b3 h2
/-- (*depot/plain.Plain).Keys -/
def plain_Plain_Keys (p_1 : Option (Nat × Nat)) (h : AH) (K : Option Sl → AH → Prop) : Prop := ACall PR M 36 [.ptr p_1] h fun v1 h2 =>
  chkSl v1 fun x3 =>
  K x3 h2
/-- (*depot/depotref32.Plain).Keys -/
def depotref32_Plain_Keys (p_1 : Option (Nat × Nat)) (h : AH) (K : Option Sl → AH → Prop) : Prop := ACall PR M 37 [.ptr p_1] h fun v1 h2 =>
  chkSl v1 fun x3 =>
  K x3 h2
/-- depot/flash.New -/
def flash_New (c__01 : Int) (c__12 : Int) (c__23 : Int) (c__34 : Int) (h : AH) (K : Option (Nat × Nat) → Int → AH → Prop) : Prop := ACall PR M 38 [.agg [.int .i64 c__01, .int .i64 c__12, .int .i64 c__23, .int .i64 c__34]] h fun v1 h2 =>
  asTup v1 fun l3 =>
  asCons l3 fun v4 l5 =>
  chkPtr v4 fun p6 =>
  asCons l5 fun v7 l8 =>
  chkInt .i64 v7 fun n9 =>
  asNil l8 <|
  K p6 n9 h2
/-- (*depot/flash.Flash).Arm -/
def flash_Flash_Arm (f_1 : Option (Nat × Nat)) (after_2 : Int) (keep_3 : Int) (h : AH) (K : AH → Prop) : Prop := ACall PR M 39 [.ptr f_1, .int .i64 after_2, .int .i64 keep_3] h fun v1 h2 =>
  asTup v1 fun l3 =>
  asNil l3 <|
  K h2
/-- depot/region.Open -/
def region_Open (f_1 : Option (Nat × Nat)) (block_2 : Int) (epoch_3 : Int) (h : AH) (K : Int → AH → Prop) : Prop := ACall PR M 40 [.ptr f_1, .int .i64 block_2, .int .i64 epoch_3] h fun v1 h2 =>
  chkInt .i64 v1 fun n3 =>
  K n3 h2
/-- depot/region.Append -/
def region_Append (f_1 : Option (Nat × Nat)) (block_2 : Int) (epoch_3 : Int) (at_4 : Int) (kind_5 : Int) (parts_6 : Option Sl) (h : AH) (K : Int → AH → Prop) : Prop := ACall PR M 41 [.ptr f_1, .int .i64 block_2, .int .i64 epoch_3, .int .i64 at_4, .int .i64 kind_5, .slice parts_6] h fun v1 h2 =>
  chkInt .i64 v1 fun n3 =>
  K n3 h2
/-- (*depot/flash.Flash).Torn -/
def flash_Flash_Torn (f_1 : Option (Nat × Nat)) (h : AH) (K : Option Sl → AH → Prop) : Prop := ACall PR M 42 [.ptr f_1] h fun v1 h2 =>
  chkSl v1 fun x3 =>
  K x3 h2
/-- depot/region.Seal -/
def region_Seal (f_1 : Option (Nat × Nat)) (block_2 : Int) (epoch_3 : Int) (at_4 : Int) (l_5 : Option Sl) (h : AH) (K : Int → AH → Prop) : Prop := ACall PR M 43 [.ptr f_1, .int .i64 block_2, .int .i64 epoch_3, .int .i64 at_4, .slice l_5] h fun v1 h2 =>
  chkInt .i64 v1 fun n3 =>
  K n3 h2
/-- (*depot/flash.Flash).Restart -/
def flash_Flash_Restart (f_1 : Option (Nat × Nat)) (h : AH) (K : AH → Prop) : Prop := ACall PR M 44 [.ptr f_1] h fun v1 h2 =>
  asTup v1 fun l3 =>
  asNil l3 <|
  K h2
/-- depot/depotref25.Parsed -/
def depotref25_Parsed (b_1 : Option Sl) (h : AH) (K : Bool → AH → Prop) : Prop := ACall PR M 45 [.slice b_1] h fun v1 h2 =>
  chkBool v1 fun b3 =>
  K b3 h2
/-- depot/region.Load -/
def region_Load (f_1 : Option (Nat × Nat)) (block_2 : Int) (h : AH) (K : Option Sl → Int → AH → Prop) : Prop := ACall PR M 46 [.ptr f_1, .int .i64 block_2] h fun v1 h2 =>
  asTup v1 fun l3 =>
  asCons l3 fun v4 l5 =>
  chkSl v4 fun x6 =>
  asCons l5 fun v7 l8 =>
  chkInt .i64 v7 fun n9 =>
  asNil l8 <|
  K x6 n9 h2
/-- depot/depotlaw25.device -/
def depotlaw25_device  (h : AH) (K : Int → Int → Int → Int → AH → Prop) : Prop := ACall PR M 47 [] h fun v1 h2 =>
  asAgg v1 fun l3 =>
  ints4 .i64 l3 fun n4 n5 n6 n7 =>
  K n4 n5 n6 n7 h2
/-- depot/depotref21.New -/
def depotref21_New (c__01 : Int) (c__12 : Int) (c__23 : Int) (c__34 : Int) (h : AH) (K : Option (Nat × Nat) → Int → AH → Prop) : Prop := ACall PR M 48 [.agg [.int .i64 c__01, .int .i64 c__12, .int .i64 c__23, .int .i64 c__34]] h fun v1 h2 =>
  asTup v1 fun l3 =>
  asCons l3 fun v4 l5 =>
  chkPtr v4 fun p6 =>
  asCons l5 fun v7 l8 =>
  chkInt .i64 v7 fun n9 =>
  asNil l8 <|
  K p6 n9 h2
/-- depot/depotref25.Open -/
def depotref25_Open (f_1 : Option (Nat × Nat)) (block_2 : Int) (epoch_3 : Int) (h : AH) (K : Int → AH → Prop) : Prop := ACall PR M 49 [.ptr f_1, .int .i64 block_2, .int .i64 epoch_3] h fun v1 h2 =>
  chkInt .i64 v1 fun n3 =>
  K n3 h2
/-- depot/depotref25.Append -/
def depotref25_Append (f_1 : Option (Nat × Nat)) (block_2 : Int) (epoch_3 : Int) (page_4 : Int) (kind_5 : Int) (parts_6 : Option Sl) (h : AH) (K : Int → AH → Prop) : Prop := ACall PR M 50 [.ptr f_1, .int .i64 block_2, .int .i64 epoch_3, .int .i64 page_4, .int .i64 kind_5, .slice parts_6] h fun v1 h2 =>
  chkInt .i64 v1 fun n3 =>
  K n3 h2
/-- depot/depotref25.Seal -/
def depotref25_Seal (f_1 : Option (Nat × Nat)) (block_2 : Int) (epoch_3 : Int) (page_4 : Int) (l_5 : Option Sl) (h : AH) (K : Int → AH → Prop) : Prop := ACall PR M 51 [.ptr f_1, .int .i64 block_2, .int .i64 epoch_3, .int .i64 page_4, .slice l_5] h fun v1 h2 =>
  chkInt .i64 v1 fun n3 =>
  K n3 h2
/-- (*depot/depotref21.Flash).Arm -/
def depotref21_Flash_Arm (f_1 : Option (Nat × Nat)) (after_2 : Int) (keep_3 : Int) (h : AH) (K : AH → Prop) : Prop := ACall PR M 52 [.ptr f_1, .int .i64 after_2, .int .i64 keep_3] h fun v1 h2 =>
  asTup v1 fun l3 =>
  asNil l3 <|
  K h2
/-- (*depot/depotref21.Flash).Restart -/
def depotref21_Flash_Restart (f_1 : Option (Nat × Nat)) (h : AH) (K : AH → Prop) : Prop := ACall PR M 53 [.ptr f_1] h fun v1 h2 =>
  asTup v1 fun l3 =>
  asNil l3 <|
  K h2
/-- (*depot/flash.Flash).Erase -/
def flash_Flash_Erase (f_1 : Option (Nat × Nat)) (b_2 : Int) (h : AH) (K : Int → AH → Prop) : Prop := ACall PR M 54 [.ptr f_1, .int .i64 b_2] h fun v1 h2 =>
  chkInt .i64 v1 fun n3 =>
  K n3 h2
/-- (*depot/depotref21.Flash).Erase -/
def depotref21_Flash_Erase (f_1 : Option (Nat × Nat)) (b_2 : Int) (h : AH) (K : Int → AH → Prop) : Prop := ACall PR M 55 [.ptr f_1, .int .i64 b_2] h fun v1 h2 =>
  chkInt .i64 v1 fun n3 =>
  K n3 h2
/-- depot/depotref25.Load -/
def depotref25_Load (f_1 : Option (Nat × Nat)) (block_2 : Int) (h : AH) (K : Option Sl → Int → AH → Prop) : Prop := ACall PR M 56 [.ptr f_1, .int .i64 block_2] h fun v1 h2 =>
  asTup v1 fun l3 =>
  asCons l3 fun v4 l5 =>
  chkSl v4 fun x6 =>
  asCons l5 fun v7 l8 =>
  chkInt .i64 v7 fun n9 =>
  asNil l8 <|
  K x6 n9 h2
/-- depot/region.look -/
def region_look (pages_1 : Option Sl) (h : AH) (K : Option (Nat × Nat) → AH → Prop) : Prop := ACall PR M 57 [.slice pages_1] h fun v1 h2 =>
  chkPtr v1 fun p3 =>
  K p3 h2
/-- (*depot/region.scanner).says -/
def region_scanner_says (s_1 : Option (Nat × Nat)) (at_2 : Int) (h__03 : Int) (h__14 : Int) (h__25 : Int) (h__36 : Int) (h__47 : Int) (h : AH) (K : Option Sl → Bool → AH → Prop) : Prop := ACall PR M 58 [.ptr s_1, .int .i64 at_2, .agg [.int .i64 h__03, .int .i64 h__14, .int .i64 h__25, .int .i64 h__36, .int .i64 h__47]] h fun v1 h2 =>
  asTup v1 fun l3 =>
  asCons l3 fun v4 l5 =>
  chkSl v4 fun x6 =>
  asCons l5 fun v7 l8 =>
  chkBool v7 fun b9 =>
  asNil l8 <|
  K x6 b9 h2
/-- (*depot/region.scanner).seal -/
def region_scanner_seal (s_1 : Option (Nat × Nat)) (h : AH) (K : Option Sl → Bool → AH → Prop) : Prop := ACall PR M 59 [.ptr s_1] h fun v1 h2 =>
  asTup v1 fun l3 =>
  asCons l3 fun v4 l5 =>
  chkSl v4 fun x6 =>
  asCons l5 fun v7 l8 =>
  chkBool v7 fun b9 =>
  asNil l8 <|
  K x6 b9 h2
/-- (*depot/region.scanner).each -/
def region_scanner_each (s_1 : Option (Nat × Nat)) (find_2 : FuncId) (find_2a : List AV) (find_2c : List AV) (h : AH) (K : Option Sl → AH → Prop) : Prop := ACall PR M 60 [.ptr s_1, .fn find_2 find_2a find_2c] h fun v1 h2 =>
  chkSl v1 fun x3 =>
  K x3 h2
/-- (*depot/region.scanner).at -/
def region_scanner_at (s_1 : Option (Nat × Nat)) (p_2 : Int) (h : AH) (K : Int → Int → Int → Bool → AH → Prop) : Prop := ACall PR M 61 [.ptr s_1, .int .i64 p_2] h fun v1 h2 =>
  asTup v1 fun l3 =>
  asCons l3 fun v4 l5 =>
  asAgg v4 fun l6 =>
  ints3 .i64 l6 fun n7 n8 n9 =>
  asCons l5 fun v10 l11 =>
  chkBool v10 fun b12 =>
  asNil l11 <|
  K n7 n8 n9 b12 h2
/-- depot/depotref23.Parse -/
def depotref23_Parse (b_1 : Option Sl) (h : AH) (K : Int → Int → Int → Int → Int → Option Sl → Int → AH → Prop) : Prop := ACall PR M 62 [.slice b_1] h fun v1 h2 =>
  asTup v1 fun l3 =>
  asCons l3 fun v4 l5 =>
  asAgg v4 fun l6 =>
  ints5 .i64 l6 fun n7 n8 n9 n10 n11 =>
  asCons l5 fun v12 l13 =>
  chkSl v12 fun x14 =>
  asCons l13 fun v15 l16 =>
  chkInt .i64 v15 fun n17 =>
  asNil l16 <|
  K n7 n8 n9 n10 n11 x14 n17 h2
/-- depot/depotref25.is -/
def depotref25_is (pages_1 : Option Sl) (at_2 : Int) (h__03 : Int) (h__14 : Int) (h__25 : Int) (h__36 : Int) (h__47 : Int) (h : AH) (K : Option Sl → Bool → AH → Prop) : Prop := ACall PR M 63 [.slice pages_1, .int .i64 at_2, .agg [.int .i64 h__03, .int .i64 h__14, .int .i64 h__25, .int .i64 h__36, .int .i64 h__47]] h fun v1 h2 =>
  asTup v1 fun l3 =>
  asCons l3 fun v4 l5 =>
  chkSl v4 fun x6 =>
  asCons l5 fun v7 l8 =>
  chkBool v7 fun b9 =>
  asNil l8 <|
  K x6 b9 h2
/-- depot/depotref23.Blank -/
def depotref23_Blank (b_1 : Option Sl) (h : AH) (K : Bool → AH → Prop) : Prop := ACall PR M 64 [.slice b_1] h fun v1 h2 =>
  chkBool v1 fun b3 =>
  K b3 h2
/-- depot/depotref25.sealed -/
def depotref25_sealed (p_1 : Option Sl) (at_2 : Int) (h : AH) (K : Option Sl → Bool → AH → Prop) : Prop := ACall PR M 65 [.slice p_1, .int .i64 at_2] h fun v1 h2 =>
  asTup v1 fun l3 =>
  asCons l3 fun v4 l5 =>
  chkSl v4 fun x6 =>
  asCons l5 fun v7 l8 =>
  chkBool v7 fun b9 =>
  asNil l8 <|
  K x6 b9 h2
/-- depot/depotref25.found -/
def depotref25_found (pages_1 : Option Sl) (at_2 : Int) (epoch_3 : Int) (h : AH) (K : Int → Int → Int → Bool → AH → Prop) : Prop := ACall PR M 66 [.slice pages_1, .int .i64 at_2, .int .i64 epoch_3] h fun v1 h2 =>
  asTup v1 fun l3 =>
  asCons l3 fun v4 l5 =>
  asAgg v4 fun l6 =>
  ints3 .i64 l6 fun n7 n8 n9 =>
  asCons l5 fun v10 l11 =>
  chkBool v10 fun b12 =>
  asNil l11 <|
  K n7 n8 n9 b12 h2
/-- depot/page.Parse -/
def page_Parse (b_1 : Option Sl) (h : AH) (K : Int → Int → Int → Int → Int → Option Sl → Int → AH → Prop) : Prop := ACall PR M 67 [.slice b_1] h fun v1 h2 =>
  asTup v1 fun l3 =>
  asCons l3 fun v4 l5 =>
  asAgg v4 fun l6 =>
  ints5 .i64 l6 fun n7 n8 n9 n10 n11 =>
  asCons l5 fun v12 l13 =>
  chkSl v12 fun x14 =>
  asCons l13 fun v15 l16 =>
  chkInt .i64 v15 fun n17 =>
  asNil l16 <|
  K n7 n8 n9 n10 n11 x14 n17 h2
/-- depot/region.right -/
def region_right (x__01 : Int) (x__12 : Int) (x__23 : Int) (h : AH) (K : Bool → AH → Prop) : Prop := ACall PR M 68 [.agg [.int .i64 x__01, .int .i64 x__12, .int .i64 x__23]] h fun v1 h2 =>
  chkBool v1 fun b3 =>
  K b3 h2
/-- depot/region.bytes -/
def region_bytes (b_1 : Option Sl) (l_2 : Option Sl) (h : AH) (K : Option Sl → Bool → AH → Prop) : Prop := ACall PR M 69 [.slice b_1, .slice l_2] h fun v1 h2 =>
  asTup v1 fun l3 =>
  asCons l3 fun v4 l5 =>
  chkSl v4 fun x6 =>
  asCons l5 fun v7 l8 =>
  chkBool v7 fun b9 =>
  asNil l8 <|
  K x6 b9 h2
/-- depot/wire.Put -/
def wire_Put (b_1 : Option Sl) (n_2 : Int) (width_3 : Int) (h : AH) (K : Option Sl → Int → AH → Prop) : Prop := ACall PR M 70 [.slice b_1, .int .i64 n_2, .int .i64 width_3] h fun v1 h2 =>
  asTup v1 fun l3 =>
  asCons l3 fun v4 l5 =>
  chkSl v4 fun x6 =>
  asCons l5 fun v7 l8 =>
  chkInt .i64 v7 fun n9 =>
  asNil l8 <|
  K x6 n9 h2
/-- depot/depotref03.Put -/
def depotref03_Put (b_1 : Option Sl) (n_2 : Int) (width_3 : Int) (h : AH) (K : Option Sl → Int → AH → Prop) : Prop := ACall PR M 71 [.slice b_1, .int .i64 n_2, .int .i64 width_3] h fun v1 h2 =>
  asTup v1 fun l3 =>
  asCons l3 fun v4 l5 =>
  chkSl v4 fun x6 =>
  asCons l5 fun v7 l8 =>
  chkInt .i64 v7 fun n9 =>
  asNil l8 <|
  K x6 n9 h2
/-- depot/wire.Get -/
def wire_Get (b_1 : Option Sl) (at_2 : Int) (width_3 : Int) (h : AH) (K : Int → Int → AH → Prop) : Prop := ACall PR M 72 [.slice b_1, .int .i64 at_2, .int .i64 width_3] h fun v1 h2 =>
  asTup v1 fun l3 =>
  asCons l3 fun v4 l5 =>
  chkInt .i64 v4 fun n6 =>
  asCons l5 fun v7 l8 =>
  chkInt .i64 v7 fun n9 =>
  asNil l8 <|
  K n6 n9 h2
/-- depot/depotref03.Get -/
def depotref03_Get (b_1 : Option Sl) (at_2 : Int) (width_3 : Int) (h : AH) (K : Int → Int → AH → Prop) : Prop := ACall PR M 73 [.slice b_1, .int .i64 at_2, .int .i64 width_3] h fun v1 h2 =>
  asTup v1 fun l3 =>
  asCons l3 fun v4 l5 =>
  chkInt .i64 v4 fun n6 =>
  asCons l5 fun v7 l8 =>
  chkInt .i64 v7 fun n9 =>
  asNil l8 <|
  K n6 n9 h2
/-- (*depot/plain.Plain).find -/
def plain_Plain_find (p_1 : Option (Nat × Nat)) (key_2 : List UInt8) (h : AH) (K : Option (Nat × Nat) → AH → Prop) : Prop := ACall PR M 74 [.ptr p_1, .str key_2] h fun v1 h2 =>
  chkPtr v1 fun p3 =>
  K p3 h2
/-- (*depot/depotref32.Plain).at -/
def depotref32_Plain_at (p_1 : Option (Nat × Nat)) (key_2 : List UInt8) (h : AH) (K : Option (Nat × Nat) → AH → Prop) : Prop := ACall PR M 75 [.ptr p_1, .str key_2] h fun v1 h2 =>
  chkPtr v1 fun p3 =>
  K p3 h2
/-- (*depot/depotref32.Plain).known -/
def depotref32_Plain_known (p_1 : Option (Nat × Nat)) (key_2 : List UInt8) (h : AH) (K : Bool → AH → Prop) : Prop := ACall PR M 76 [.ptr p_1, .str key_2] h fun v1 h2 =>
  chkBool v1 fun b3 =>
  K b3 h2
/-- (*depot/plain.known).settle -/
def plain_known_settle (k_1 : Option (Nat × Nat)) (h : AH) (K : AH → Prop) : Prop := ACall PR M 77 [.ptr k_1] h fun v1 h2 =>
  asTup v1 fun l3 =>
  asNil l3 <|
  K h2
/-- slices.Sort[[]string,string] -/
def slices_Sort_string (x_1 : Option Sl) (h : AH) (K : AH → Prop) : Prop := ACall PR M 78 [.slice x_1] h fun v1 h2 =>
  asTup v1 fun l3 =>
  asNil l3 <|
  K h2
/-- depot/depotref32.before -/
def depotref32_before (a_1 : List UInt8) (b_2 : List UInt8) (h : AH) (K : Bool → AH → Prop) : Prop := ACall PR M 79 [.str a_1, .str b_2] h fun v1 h2 =>
  chkBool v1 fun b3 =>
  K b3 h2
/-- depot/flash.within -/
def flash_within (n_1 : Int) (least_2 : Int) (most_3 : Int) (h : AH) (K : Bool → AH → Prop) : Prop := ACall PR M 80 [.int .i64 n_1, .int .i64 least_2, .int .i64 most_3] h fun v1 h2 =>
  chkBool v1 fun b3 =>
  K b3 h2
/-- (*depot/flash.block).wipe -/
def flash_block_wipe (b_1 : Option (Nat × Nat)) (n_2 : Int) (size_3 : Int) (h : AH) (K : AH → Prop) : Prop := ACall PR M 81 [.ptr b_1, .int .i64 n_2, .int .i64 size_3] h fun v1 h2 =>
  asTup v1 fun l3 =>
  asNil l3 <|
  K h2
/-- depot/region.program -/
def region_program (f_1 : Option (Nat × Nat)) (block_2 : Int) (h__03 : Int) (h__14 : Int) (h__25 : Int) (h__36 : Int) (h__47 : Int) (payload_8 : Option Sl) (h : AH) (K : Int → AH → Prop) : Prop := ACall PR M 82 [.ptr f_1, .int .i64 block_2, .agg [.int .i64 h__03, .int .i64 h__14, .int .i64 h__25, .int .i64 h__36, .int .i64 h__47], .slice payload_8] h fun v1 h2 =>
  chkInt .i64 v1 fun n3 =>
  K n3 h2
/-- (*depot/flash.Flash).Config -/
def flash_Flash_Config (f_1 : Option (Nat × Nat)) (h : AH) (K : Int → Int → Int → Int → AH → Prop) : Prop := ACall PR M 83 [.ptr f_1] h fun v1 h2 =>
  asAgg v1 fun l3 =>
  ints4 .i64 l3 fun n4 n5 n6 n7 =>
  K n4 n5 n6 n7 h2
/-- (*depot/flash.Flash).Read -/
def flash_Flash_Read (f_1 : Option (Nat × Nat)) (b_2 : Int) (p_3 : Int) (h : AH) (K : Option Sl → Int → AH → Prop) : Prop := ACall PR M 84 [.ptr f_1, .int .i64 b_2, .int .i64 p_3] h fun v1 h2 =>
  asTup v1 fun l3 =>
  asCons l3 fun v4 l5 =>
  chkSl v4 fun x6 =>
  asCons l5 fun v7 l8 =>
  chkInt .i64 v7 fun n9 =>
  asNil l8 <|
  K x6 n9 h2
/-- depot/depotref21.Right -/
def depotref21_Right (c__01 : Int) (c__12 : Int) (c__23 : Int) (c__34 : Int) (h : AH) (K : Bool → AH → Prop) : Prop := ACall PR M 85 [.agg [.int .i64 c__01, .int .i64 c__12, .int .i64 c__23, .int .i64 c__34]] h fun v1 h2 =>
  chkBool v1 fun b3 =>
  K b3 h2
/-- depot/depotref21.blank -/
def depotref21_blank (n_1 : Int) (h : AH) (K : List UInt8 → AH → Prop) : Prop := ACall PR M 86 [.int .i64 n_1] h fun v1 h2 =>
  chkStr v1 fun s3 =>
  K s3 h2
/-- depot/depotref25.one -/
def depotref25_one (f_1 : Option (Nat × Nat)) (block_2 : Int) (h__03 : Int) (h__14 : Int) (h__25 : Int) (h__36 : Int) (h__47 : Int) (payload_8 : Option Sl) (h : AH) (K : Int → AH → Prop) : Prop := ACall PR M 87 [.ptr f_1, .int .i64 block_2, .agg [.int .i64 h__03, .int .i64 h__14, .int .i64 h__25, .int .i64 h__36, .int .i64 h__47], .slice payload_8] h fun v1 h2 =>
  chkInt .i64 v1 fun n3 =>
  K n3 h2
/-- depot/depotref25.SealLoad -/
def depotref25_SealLoad (l_1 : Option Sl) (h : AH) (K : Option Sl → Int → AH → Prop) : Prop := ACall PR M 88 [.slice l_1] h fun v1 h2 =>
  asTup v1 fun l3 =>
  asCons l3 fun v4 l5 =>
  chkSl v4 fun x6 =>
  asCons l5 fun v7 l8 =>
  chkInt .i64 v7 fun n9 =>
  asNil l8 <|
  K x6 n9 h2
/-- (*depot/flash.Flash).find -/
def flash_Flash_find (f_1 : Option (Nat × Nat)) (b_2 : Int) (p_3 : Int) (h : AH) (K : Option (Nat × Nat) → Int → AH → Prop) : Prop := ACall PR M 89 [.ptr f_1, .int .i64 b_2, .int .i64 p_3] h fun v1 h2 =>
  asTup v1 fun l3 =>
  asCons l3 fun v4 l5 =>
  chkPtr v4 fun p6 =>
  asCons l5 fun v7 l8 =>
  chkInt .i64 v7 fun n9 =>
  asNil l8 <|
  K p6 n9 h2
/-- (*depot/flash.tearer).tears -/
def flash_tearer_tears (t_1 : Option (Nat × Nat)) (h : AH) (K : Bool → AH → Prop) : Prop := ACall PR M 90 [.ptr t_1] h fun v1 h2 =>
  chkBool v1 fun b3 =>
  K b3 h2
/-- (*depot/flash.tearer).kept -/
def flash_tearer_kept (t_1 : Option (Nat × Nat)) (all_2 : Int) (h : AH) (K : Int → AH → Prop) : Prop := ACall PR M 91 [.ptr t_1, .int .i64 all_2] h fun v1 h2 =>
  chkInt .i64 v1 fun n3 =>
  K n3 h2
/-- (*depot/flash.block).worn -/
def flash_block_worn (b_1 : Option (Nat × Nat)) (life_2 : Int) (h : AH) (K : Bool → AH → Prop) : Prop := ACall PR M 92 [.ptr b_1, .int .i64 life_2] h fun v1 h2 =>
  chkBool v1 fun b3 =>
  K b3 h2
/-- (*depot/depotref21.Flash).there -/
def depotref21_Flash_there (f_1 : Option (Nat × Nat)) (b_2 : Int) (p_3 : Int) (h : AH) (K : Bool → AH → Prop) : Prop := ACall PR M 93 [.ptr f_1, .int .i64 b_2, .int .i64 p_3] h fun v1 h2 =>
  chkBool v1 fun b3 =>
  K b3 h2
/-- (*depot/depotref21.Flash).tears -/
def depotref21_Flash_tears (f_1 : Option (Nat × Nat)) (h : AH) (K : Bool → AH → Prop) : Prop := ACall PR M 94 [.ptr f_1] h fun v1 h2 =>
  chkBool v1 fun b3 =>
  K b3 h2
/-- (*depot/depotref21.Flash).Read -/
def depotref21_Flash_Read (f_1 : Option (Nat × Nat)) (b_2 : Int) (p_3 : Int) (h : AH) (K : Option Sl → Int → AH → Prop) : Prop := ACall PR M 95 [.ptr f_1, .int .i64 b_2, .int .i64 p_3] h fun v1 h2 =>
  asTup v1 fun l3 =>
  asCons l3 fun v4 l5 =>
  chkSl v4 fun x6 =>
  asCons l5 fun v7 l8 =>
  chkInt .i64 v7 fun n9 =>
  asNil l8 <|
  K x6 n9 h2
/-- depot/page.Blank -/
def page_Blank (b_1 : Option Sl) (h : AH) (K : Bool → AH → Prop) : Prop := ACall PR M 96 [.slice b_1] h fun v1 h2 =>
  chkBool v1 fun b3 =>
  K b3 h2
/-- depot/region.item -/
def region_item (kind_1 : Int) (h : AH) (K : Bool → AH → Prop) : Prop := ACall PR M 97 [.int .i64 kind_1] h fun v1 h2 =>
  chkBool v1 fun b3 =>
  K b3 h2
/-- depot/depotref23.sized -/
def depotref23_sized (n_1 : Int) (h : AH) (K : Bool → AH → Prop) : Prop := ACall PR M 98 [.int .i64 n_1] h fun v1 h2 =>
  chkBool v1 fun b3 =>
  K b3 h2
/-- depot/depotref04.Sum -/
def depotref04_Sum (b_1 : Option Sl) (h : AH) (K : Int → AH → Prop) : Prop := ACall PR M 99 [.slice b_1] h fun v1 h2 =>
  chkInt .i64 v1 fun n3 =>
  K n3 h2
/-- depot/depotref23.Image -/
def depotref23_Image (h__01 : Int) (h__12 : Int) (h__23 : Int) (h__34 : Int) (h__45 : Int) (payload_6 : Option Sl) (size_7 : Int) (h : AH) (K : Option Sl → Int → AH → Prop) : Prop := ACall PR M 100 [.agg [.int .i64 h__01, .int .i64 h__12, .int .i64 h__23, .int .i64 h__34, .int .i64 h__45], .slice payload_6, .int .i64 size_7] h fun v1 h2 =>
  asTup v1 fun l3 =>
  asCons l3 fun v4 l5 =>
  chkSl v4 fun x6 =>
  asCons l5 fun v7 l8 =>
  chkInt .i64 v7 fun n9 =>
  asNil l8 <|
  K x6 n9 h2
/-- depot/page.sized -/
def page_sized (n_1 : Int) (h : AH) (K : Bool → AH → Prop) : Prop := ACall PR M 101 [.int .i64 n_1] h fun v1 h2 =>
  chkBool v1 fun b3 =>
  K b3 h2
/-- depot/crc.Check -/
def crc_Check (b_1 : Option Sl) (sum_2 : Int) (h : AH) (K : Bool → AH → Prop) : Prop := ACall PR M 102 [.slice b_1, .int .i64 sum_2] h fun v1 h2 =>
  chkBool v1 fun b3 =>
  K b3 h2
/-- depot/page.at -/
def page_at (b_1 : Option Sl) (from_2 : Int) (width_3 : Int) (h : AH) (K : Int → AH → Prop) : Prop := ACall PR M 103 [.slice b_1, .int .i64 from_2, .int .i64 width_3] h fun v1 h2 =>
  chkInt .i64 v1 fun n3 =>
  K n3 h2
/-- depot/page.Room -/
def page_Room (size_1 : Int) (h : AH) (K : Int → AH → Prop) : Prop := ACall PR M 104 [.int .i64 size_1] h fun v1 h2 =>
  chkInt .i64 v1 fun n3 =>
  K n3 h2
/-- depot/page.check -/
def page_check (h__01 : Int) (h__12 : Int) (h__23 : Int) (h__34 : Int) (h__45 : Int) (h : AH) (K : Int → AH → Prop) : Prop := ACall PR M 105 [.agg [.int .i64 h__01, .int .i64 h__12, .int .i64 h__23, .int .i64 h__34, .int .i64 h__45]] h fun v1 h2 =>
  chkInt .i64 v1 fun n3 =>
  K n3 h2
/-- depot/wire.of -/
def wire_of (n_1 : Int) (h : AH) (K : Int → Int → Int → Int → Int → Int → Int → Int → AH → Prop) : Prop := ACall PR M 106 [.int .i64 n_1] h fun v1 h2 =>
  asAgg v1 fun l3 =>
  ints8 .u8 l3 fun n4 n5 n6 n7 n8 n9 n10 n11 =>
  K n4 n5 n6 n7 n8 n9 n10 n11 h2
/-- slices.pdqsortOrdered[string] -/
def slices_pdqsortOrdered_string (data_1 : Option Sl) (a_2 : Int) (b_3 : Int) (limit_4 : Int) (h : AH) (K : AH → Prop) : Prop := ACall PR M 107 [.slice data_1, .int .i64 a_2, .int .i64 b_3, .int .i64 limit_4] h fun v1 h2 =>
  asTup v1 fun l3 =>
  asNil l3 <|
  K h2
/-- math/bits.Len -/
def math_bits_Len (x_1 : Int) (h : AH) (K : Int → AH → Prop) : Prop := ACall PR M 108 [.int .u64 x_1] h fun v1 h2 =>
  chkInt .i64 v1 fun n3 =>
  K n3 h2
/-- depot/flash.blank -/
def flash_blank (size_1 : Int) (h : AH) (K : Option Sl → AH → Prop) : Prop := ACall PR M 109 [.int .i64 size_1] h fun v1 h2 =>
  chkSl v1 fun x3 =>
  K x3 h2
/-- depot/page.Image -/
def page_Image (h__01 : Int) (h__12 : Int) (h__23 : Int) (h__34 : Int) (h__45 : Int) (payload_6 : Option Sl) (size_7 : Int) (h : AH) (K : Option Sl → Int → AH → Prop) : Prop := ACall PR M 110 [.agg [.int .i64 h__01, .int .i64 h__12, .int .i64 h__23, .int .i64 h__34, .int .i64 h__45], .slice payload_6, .int .i64 size_7] h fun v1 h2 =>
  asTup v1 fun l3 =>
  asCons l3 fun v4 l5 =>
  chkSl v4 fun x6 =>
  asCons l5 fun v7 l8 =>
  chkInt .i64 v7 fun n9 =>
  asNil l8 <|
  K x6 n9 h2
/-- (*depot/flash.Flash).Program -/
def flash_Flash_Program (f_1 : Option (Nat × Nat)) (b_2 : Int) (p_3 : Int) (data_4 : Option Sl) (h : AH) (K : Int → AH → Prop) : Prop := ACall PR M 111 [.ptr f_1, .int .i64 b_2, .int .i64 p_3, .slice data_4] h fun v1 h2 =>
  chkInt .i64 v1 fun n3 =>
  K n3 h2
/-- (*depot/depotref21.Flash).Program -/
def depotref21_Flash_Program (f_1 : Option (Nat × Nat)) (b_2 : Int) (p_3 : Int) (data_4 : Option Sl) (h : AH) (K : Int → AH → Prop) : Prop := ACall PR M 112 [.ptr f_1, .int .i64 b_2, .int .i64 p_3, .slice data_4] h fun v1 h2 =>
  chkInt .i64 v1 fun n3 =>
  K n3 h2
/-- (*depot/flash.Flash).at -/
def flash_Flash_at (f_1 : Option (Nat × Nat)) (b_2 : Int) (h : AH) (K : Option (Nat × Nat) → AH → Prop) : Prop := ACall PR M 113 [.ptr f_1, .int .i64 b_2] h fun v1 h2 =>
  chkPtr v1 fun p3 =>
  K p3 h2
/-- depot/depotref04.More -/
def depotref04_More (sum_1 : Int) (b_2 : Option Sl) (h : AH) (K : Int → AH → Prop) : Prop := ACall PR M 114 [.int .i64 sum_1, .slice b_2] h fun v1 h2 =>
  chkInt .i64 v1 fun n3 =>
  K n3 h2
/-- depot/depotref23.right -/
def depotref23_right (h__01 : Int) (h__12 : Int) (h__23 : Int) (h__34 : Int) (h__45 : Int) (h : AH) (K : Int → AH → Prop) : Prop := ACall PR M 115 [.agg [.int .i64 h__01, .int .i64 h__12, .int .i64 h__23, .int .i64 h__34, .int .i64 h__45]] h fun v1 h2 =>
  chkInt .i64 v1 fun n3 =>
  K n3 h2
/-- depot/crc.Sum -/
def crc_Sum (b_1 : Option Sl) (h : AH) (K : Int → AH → Prop) : Prop := ACall PR M 116 [.slice b_1] h fun v1 h2 =>
  chkInt .i64 v1 fun n3 =>
  K n3 h2
/-- slices.insertionSortOrdered[string] -/
def slices_insertionSortOrdered_string (data_1 : Option Sl) (a_2 : Int) (b_3 : Int) (h : AH) (K : AH → Prop) : Prop := ACall PR M 117 [.slice data_1, .int .i64 a_2, .int .i64 b_3] h fun v1 h2 =>
  asTup v1 fun l3 =>
  asNil l3 <|
  K h2
/-- slices.heapSortOrdered[string] -/
def slices_heapSortOrdered_string (data_1 : Option Sl) (a_2 : Int) (b_3 : Int) (h : AH) (K : AH → Prop) : Prop := ACall PR M 118 [.slice data_1, .int .i64 a_2, .int .i64 b_3] h fun v1 h2 =>
  asTup v1 fun l3 =>
  asNil l3 <|
  K h2
/-- slices.breakPatternsOrdered[string] -/
def slices_breakPatternsOrdered_string (data_1 : Option Sl) (a_2 : Int) (b_3 : Int) (h : AH) (K : AH → Prop) : Prop := ACall PR M 119 [.slice data_1, .int .i64 a_2, .int .i64 b_3] h fun v1 h2 =>
  asTup v1 fun l3 =>
  asNil l3 <|
  K h2
/-- slices.choosePivotOrdered[string] -/
def slices_choosePivotOrdered_string (data_1 : Option Sl) (a_2 : Int) (b_3 : Int) (h : AH) (K : Int → Int → AH → Prop) : Prop := ACall PR M 120 [.slice data_1, .int .i64 a_2, .int .i64 b_3] h fun v1 h2 =>
  asTup v1 fun l3 =>
  asCons l3 fun v4 l5 =>
  chkInt .i64 v4 fun n6 =>
  asCons l5 fun v7 l8 =>
  chkInt .i64 v7 fun n9 =>
  asNil l8 <|
  K n6 n9 h2
/-- slices.reverseRangeOrdered[string] -/
def slices_reverseRangeOrdered_string (data_1 : Option Sl) (a_2 : Int) (b_3 : Int) (h : AH) (K : AH → Prop) : Prop := ACall PR M 121 [.slice data_1, .int .i64 a_2, .int .i64 b_3] h fun v1 h2 =>
  asTup v1 fun l3 =>
  asNil l3 <|
  K h2
/-- slices.partialInsertionSortOrdered[string] -/
def slices_partialInsertionSortOrdered_string (data_1 : Option Sl) (a_2 : Int) (b_3 : Int) (h : AH) (K : Bool → AH → Prop) : Prop := ACall PR M 122 [.slice data_1, .int .i64 a_2, .int .i64 b_3] h fun v1 h2 =>
  chkBool v1 fun b3 =>
  K b3 h2
/-- cmp.Less[string] -/
def cmp_Less_string (x_1 : List UInt8) (y_2 : List UInt8) (h : AH) (K : Bool → AH → Prop) : Prop := ACall PR M 123 [.str x_1, .str y_2] h fun v1 h2 =>
  chkBool v1 fun b3 =>
  K b3 h2
/-- slices.partitionEqualOrdered[string] -/
def slices_partitionEqualOrdered_string (data_1 : Option Sl) (a_2 : Int) (b_3 : Int) (pivot_4 : Int) (h : AH) (K : Int → AH → Prop) : Prop := ACall PR M 124 [.slice data_1, .int .i64 a_2, .int .i64 b_3, .int .i64 pivot_4] h fun v1 h2 =>
  chkInt .i64 v1 fun n3 =>
  K n3 h2
/-- slices.partitionOrdered[string] -/
def slices_partitionOrdered_string (data_1 : Option Sl) (a_2 : Int) (b_3 : Int) (pivot_4 : Int) (h : AH) (K : Int → Bool → AH → Prop) : Prop := ACall PR M 125 [.slice data_1, .int .i64 a_2, .int .i64 b_3, .int .i64 pivot_4] h fun v1 h2 =>
  asTup v1 fun l3 =>
  asCons l3 fun v4 l5 =>
  chkInt .i64 v4 fun n6 =>
  asCons l5 fun v7 l8 =>
  chkBool v7 fun b9 =>
  asNil l8 <|
  K n6 b9 h2
/-- math/bits.Len32 -/
def math_bits_Len32 (x_1 : Int) (h : AH) (K : Int → AH → Prop) : Prop := ACall PR M 126 [.int .u32 x_1] h fun v1 h2 =>
  chkInt .i64 v1 fun n3 =>
  K n3 h2
/-- math/bits.Len64 -/
def math_bits_Len64 (x_1 : Int) (h : AH) (K : Int → AH → Prop) : Prop := ACall PR M 127 [.int .u64 x_1] h fun v1 h2 =>
  chkInt .i64 v1 fun n3 =>
  K n3 h2
/-- depot/page.put -/
def page_put (b_1 : Option Sl) (l_2 : Option Sl) (h : AH) (K : Option Sl → AH → Prop) : Prop := ACall PR M 128 [.slice b_1, .slice l_2] h fun v1 h2 =>
  chkSl v1 fun x3 =>
  K x3 h2
/-- depot/depotref04.low -/
def depotref04_low (n_1 : Int) (h : AH) (K : Int → AH → Prop) : Prop := ACall PR M 129 [.int .i64 n_1] h fun v1 h2 =>
  chkInt .u32 v1 fun n3 =>
  K n3 h2
/-- depot/depotref04.Step -/
def depotref04_Step (c_1 : Int) (x_2 : Int) (h : AH) (K : Int → AH → Prop) : Prop := ACall PR M 130 [.int .i64 c_1, .int .u8 x_2] h fun v1 h2 =>
  chkInt .i64 v1 fun n3 =>
  K n3 h2
/-- depot/crc.More -/
def crc_More (sum_1 : Int) (b_2 : Option Sl) (h : AH) (K : Int → AH → Prop) : Prop := ACall PR M 131 [.int .i64 sum_1, .slice b_2] h fun v1 h2 =>
  chkInt .i64 v1 fun n3 =>
  K n3 h2
/-- slices.siftDownOrdered[string] -/
def slices_siftDownOrdered_string (data_1 : Option Sl) (lo_2 : Int) (hi_3 : Int) (first_4 : Int) (h : AH) (K : AH → Prop) : Prop := ACall PR M 132 [.slice data_1, .int .i64 lo_2, .int .i64 hi_3, .int .i64 first_4] h fun v1 h2 =>
  asTup v1 fun l3 =>
  asNil l3 <|
  K h2
/-- slices.nextPowerOfTwo -/
def slices_nextPowerOfTwo (length_1 : Int) (h : AH) (K : Int → AH → Prop) : Prop := ACall PR M 133 [.int .i64 length_1] h fun v1 h2 =>
  chkInt .u64 v1 fun n3 =>
  K n3 h2
/-- (*slices.xorshift).Next -/
def slices_xorshift_Next (r_1 : Option (Nat × Nat)) (h : AH) (K : Int → AH → Prop) : Prop := ACall PR M 134 [.ptr r_1] h fun v1 h2 =>
  chkInt .u64 v1 fun n3 =>
  K n3 h2
/-- slices.medianAdjacentOrdered[string] -/
def slices_medianAdjacentOrdered_string (data_1 : Option Sl) (a_2 : Int) (swaps_3 : Option (Nat × Nat)) (h : AH) (K : Int → AH → Prop) : Prop := ACall PR M 135 [.slice data_1, .int .i64 a_2, .ptr swaps_3] h fun v1 h2 =>
  chkInt .i64 v1 fun n3 =>
  K n3 h2
/-- slices.medianOrdered[string] -/
def slices_medianOrdered_string (data_1 : Option Sl) (a_2 : Int) (b_3 : Int) (c_4 : Int) (swaps_5 : Option (Nat × Nat)) (h : AH) (K : Int → AH → Prop) : Prop := ACall PR M 136 [.slice data_1, .int .i64 a_2, .int .i64 b_3, .int .i64 c_4, .ptr swaps_5] h fun v1 h2 =>
  chkInt .i64 v1 fun n3 =>
  K n3 h2
/-- cmp.isNaN[string] -/
def cmp_isNaN_string (x_1 : List UInt8) (h : AH) (K : Bool → AH → Prop) : Prop := ACall PR M 137 [.str x_1] h fun v1 h2 =>
  chkBool v1 fun b3 =>
  K b3 h2
/-- depot/crc.steps -/
def crc_steps (s_1 : Int) (l_2 : Option Sl) (h : AH) (K : Int → AH → Prop) : Prop := ACall PR M 138 [.int .u32 s_1, .slice l_2] h fun v1 h2 =>
  chkInt .u32 v1 fun n3 =>
  K n3 h2
/-- slices.order2Ordered[string] -/
def slices_order2Ordered_string (data_1 : Option Sl) (a_2 : Int) (b_3 : Int) (swaps_4 : Option (Nat × Nat)) (h : AH) (K : Int → Int → AH → Prop) : Prop := ACall PR M 139 [.slice data_1, .int .i64 a_2, .int .i64 b_3, .ptr swaps_4] h fun v1 h2 =>
  asTup v1 fun l3 =>
  asCons l3 fun v4 l5 =>
  chkInt .i64 v4 fun n6 =>
  asCons l5 fun v7 l8 =>
  chkInt .i64 v7 fun n9 =>
  asNil l8 <|
  K n6 n9 h2
end Go.Abs
