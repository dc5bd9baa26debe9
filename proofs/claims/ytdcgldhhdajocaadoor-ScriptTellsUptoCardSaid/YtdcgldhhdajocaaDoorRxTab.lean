/-
  Rx: the plain program (written by gen/tab.py): its functions, and that each is what the program's own is told as.
-/
import Derived.Test.YtdcgldhhdajocaaDoorRxK
import Derived.Test.YtdcgldhhdajocaaDoorProg
import Derived.KernelRfl
namespace Go.Proofs.YtdcgldhhdajocaaDoor.Rx
open Go
/-- collator/collatorlaw04.ScriptTells -/
def K3 : List (List Nat) := [[0, 1, 2, 3, 4, 5, 6], [0, 1, 2, 3, 4, 5, 6, 15], [0, 1, 2, 3, 4, 5, 6, 15, 16], [0, 1, 2, 3, 4, 5, 6, 15, 16, 17], [0, 1, 2, 3, 4, 5, 6, 15, 16, 17, 59], [0, 1, 2, 3, 4, 5, 6, 15, 16, 17, 18], [0, 1, 2, 3, 4, 5, 6, 15, 16, 17, 18], [0, 1, 2, 3, 4, 5, 6, 15, 16, 17], [0, 1, 2, 3, 4, 5, 6, 15, 16, 17], [2, 3, 4, 5, 6, 15, 16, 19, 20], [2, 3, 4, 5, 6, 15, 19, 20, 90, 91, 92], [2, 3, 4, 5, 6, 15, 19, 20, 90, 91, 92, 93], [2, 3, 4, 5, 6, 15, 19, 20, 22, 90, 91, 92], [2, 3, 4, 5, 6, 15, 19, 20, 22, 23, 24, 90, 91, 92], [2, 3, 4, 5, 6, 15, 19, 20, 22, 23, 24, 25, 26, 90, 91, 92], [2, 3, 4, 5, 6, 15, 19, 20, 22, 23, 24, 25, 26, 27, 28, 90, 91, 92], [2, 3, 4, 5, 6, 15, 19, 20, 22, 23, 24, 25, 26, 27, 28, 29, 30, 90, 91, 92], [2, 3, 4, 5, 6, 15, 19, 20, 22, 90, 91, 92, 147], [14], [2, 3, 4, 5, 6, 15, 19, 20, 22, 90, 91, 92, 156, 157, 158], [2, 3, 4, 5, 6, 15, 19, 20, 22, 90, 91, 92, 156, 157, 158, 159], [2, 3, 4, 5, 6, 15, 19, 20, 22, 32, 90, 91, 92, 156, 157, 158], [2, 3, 4, 5, 6, 15, 19, 20, 22, 32, 33, 34, 90, 91, 92, 156, 157, 158], [2, 3, 4, 5, 6, 15, 19, 20, 22, 32, 33, 34, 35, 36, 90, 91, 92, 156, 157, 158], [2, 3, 4, 5, 6, 15, 19, 20, 22, 32, 33, 34, 35, 36, 37, 38, 90, 91, 92, 156, 157, 158], [2, 3, 4, 5, 6, 15, 19, 20, 22, 33, 34, 35, 36, 37, 38, 39, 40, 90, 91, 92, 156, 157, 158], [2, 3, 4, 5, 6, 15, 19, 20, 22, 90, 91, 92, 156, 157, 158, 205], [14], [2, 3, 4, 5, 6, 15, 19, 20, 22, 90, 91, 92, 156, 157, 158], [2, 3, 4, 5, 6, 15, 19, 20, 90, 91, 92], [4, 5, 6, 15, 41], [4, 5, 6, 15, 41, 43], [4, 5, 6, 15, 41, 43, 215], [4, 6, 15, 41, 44], [4, 15, 41, 43], [15, 246, 247, 248], [15, 246, 247, 248, 249], [15, 46, 246, 247, 248], [15, 46, 47, 48, 246, 247, 248], [15, 47, 48, 49, 50, 246, 247, 248], [15, 246, 247, 248, 270], [14], [15, 246, 247, 248], [14]]
def L3x0 : ACode := .seq (.seq (.reg [⟨(some 52), none, .mv (.t 17), []⟩,
    ⟨(some 53), none, .mv (.t 0), []⟩,
    ⟨(some 54), none, .len false (.t 53), []⟩,
    ⟨(some 55), none, .bin .lss (.t 52) (.t 54), []⟩,
    ⟨(some 56), none, .mv (.t 55), []⟩,
    ⟨(some 57), some (56, true), .mv (.t 17), []⟩,
    ⟨(some 58), some (56, true), .bin .lss (.t 57) (.c (.int .i64 6)), []⟩,
    ⟨(some 59), none, .pick (.t 56) (.t 58) (.c (.bool false)), []⟩] [0, 1, 2, 3, 4, 5, 6, 15, 16, 17, 59])
  (.cond (.t 59) (.skip)
   (.exit 0)))
 (.seq (.blk 1 (.seq (.reg [⟨(some 62), none, .mv (.t 0), []⟩,
     ⟨(some 63), none, .mv (.t 17), []⟩,
     ⟨(some 64), none, .iaddr 3 (.t 62) (.t 63), []⟩,
     ⟨(some 65), none, .load true 3 (.t 64), []⟩,
     ⟨(some 18), none, .alloc [(.int .i64 0), (.int .i64 0), (.sl 1 [] .nil)], []⟩,
     ⟨none, none, .store 3 (.t 18) (.t 65), []⟩] [0, 1, 2, 3, 4, 5, 6, 15, 16, 17, 18])
   (.seq (.reg [⟨(some 66), none, .faddr 2 (.t 18), []⟩,
      ⟨(some 67), none, .load false 1 (.t 66), []⟩,
      ⟨(some 68), none, .faddr 2 (.t 18), []⟩,
      ⟨(some 69), none, .load false 1 (.t 68), []⟩,
      ⟨(some 70), none, .len false (.t 69), []⟩,
      ⟨(some 71), none, .min [(.t 70), (.c (.int .i64 10))], []⟩,
      ⟨(some 72), none, .slice (some 1) (.t 67) none (some (.t 71)) none, []⟩,
      ⟨(some 73), none, .faddr 2 (.t 18), []⟩,
      ⟨none, none, .store 1 (.t 73) (.t 72), []⟩] [0, 1, 2, 3, 4, 5, 6, 15, 16, 17, 18])
    (.reg [⟨(some 74), none, .mv (.t 16), []⟩,
      ⟨(some 75), none, .load true 3 (.t 18), []⟩,
      ⟨(some 76), none, .mks 1 3 true [(.int .i64 0), (.int .i64 0), (.sl 1 [] .nil)] [(0, (.t 75))], []⟩,
      ⟨(some 77), none, .app none 3 40 (.t 74) (.t 76), []⟩,
      ⟨(some 16), none, .mv (.t 77), []⟩] [0, 1, 2, 3, 4, 5, 6, 15, 16, 17]))))
  (.reg [⟨(some 60), none, .mv (.t 17), []⟩,
    ⟨(some 61), none, .bin .add (.t 60) (.c (.int .i64 1)), []⟩,
    ⟨(some 17), none, .mv (.t 61), []⟩] [0, 1, 2, 3, 4, 5, 6, 15, 16, 17]))
def L3x1 : ACode := .seq (.reg [⟨(some 159), none, .bin .lss (.t 158) (.t 157), []⟩] [2, 3, 4, 5, 6, 15, 19, 20, 22, 90, 91, 92, 156, 157, 158, 159])
 (.seq (.cond (.t 159) (.skip)
   (.exit 4))
  (.seq (.blk 5 (.seq (.reg [⟨(some 160), none, .iaddr 1 (.t 156) (.t 158), []⟩,
      ⟨(some 161), none, .load false 1 (.t 160), []⟩,
      ⟨(some 32), none, .mv (.t 161), []⟩] [2, 3, 4, 5, 6, 15, 19, 20, 22, 32, 90, 91, 92, 156, 157, 158])
    (.seq (.reg [⟨(some 163), none, .mv (.t 22), []⟩,
       ⟨(some 164), none, .mv (.t 32), []⟩,
       ⟨(some 165), none, .call 21 [(.t 163), (.t 164)], []⟩,
       ⟨(some 162), none, .mv (.t 165), []⟩,
       ⟨(some 166), none, .ext (.t 162) 0, []⟩,
       ⟨(some 167), none, .ext (.t 162) 1, []⟩,
       ⟨(some 33), none, .mv (.t 166), []⟩,
       ⟨(some 34), none, .mv (.t 167), []⟩] [2, 3, 4, 5, 6, 15, 19, 20, 22, 32, 33, 34, 90, 91, 92, 156, 157, 158])
     (.seq (.reg [⟨(some 169), none, .mv (.t 22), []⟩,
        ⟨(some 170), none, .mv (.t 32), []⟩,
        ⟨(some 171), none, .call 22 [(.t 169), (.t 170)], []⟩,
        ⟨(some 168), none, .mv (.t 171), []⟩,
        ⟨(some 172), none, .ext (.t 168) 0, []⟩,
        ⟨(some 173), none, .ext (.t 168) 1, []⟩,
        ⟨(some 35), none, .mv (.t 172), []⟩,
        ⟨(some 36), none, .mv (.t 173), []⟩] [2, 3, 4, 5, 6, 15, 19, 20, 22, 32, 33, 34, 35, 36, 90, 91, 92, 156, 157, 158])
      (.seq (.reg [⟨(some 175), none, .mv (.t 22), []⟩,
         ⟨(some 176), none, .mv (.t 32), []⟩,
         ⟨(some 177), none, .call 23 [(.t 175), (.t 176)], []⟩,
         ⟨(some 174), none, .mv (.t 177), []⟩,
         ⟨(some 178), none, .ext (.t 174) 0, []⟩,
         ⟨(some 179), none, .ext (.t 174) 1, []⟩,
         ⟨(some 37), none, .mv (.t 178), []⟩,
         ⟨(some 38), none, .mv (.t 179), []⟩] [2, 3, 4, 5, 6, 15, 19, 20, 22, 32, 33, 34, 35, 36, 37, 38, 90, 91, 92, 156, 157, 158])
       (.seq (.reg [⟨(some 181), none, .mv (.t 22), []⟩,
          ⟨(some 182), none, .mv (.t 32), []⟩,
          ⟨(some 183), none, .call 24 [(.t 181), (.t 182)], []⟩,
          ⟨(some 180), none, .mv (.t 183), []⟩,
          ⟨(some 184), none, .ext (.t 180) 0, []⟩,
          ⟨(some 185), none, .ext (.t 180) 1, []⟩,
          ⟨(some 39), none, .mv (.t 184), []⟩,
          ⟨(some 40), none, .mv (.t 185), []⟩] [2, 3, 4, 5, 6, 15, 19, 20, 22, 33, 34, 35, 36, 37, 38, 39, 40, 90, 91, 92, 156, 157, 158])
        (.seq (.reg [⟨(some 186), none, .mv (.t 34), []⟩,
           ⟨(some 187), none, .mv (.t 36), []⟩,
           ⟨(some 188), none, .bin .neq (.t 186) (.t 187), []⟩,
           ⟨(some 189), none, .mv (.t 188), []⟩,
           ⟨(some 190), some (189, false), .mv (.t 33), []⟩,
           ⟨(some 191), some (189, false), .mv (.t 35), []⟩,
           ⟨(some 192), some (189, false), .call 25 [(.t 190), (.t 191)], []⟩,
           ⟨(some 193), some (189, false), .un .not (.t 192), []⟩,
           ⟨(some 194), none, .pick (.t 189) (.c (.bool true)) (.t 193), []⟩,
           ⟨(some 195), none, .mv (.t 194), []⟩,
           ⟨(some 196), some (195, false), .mv (.t 38), []⟩,
           ⟨(some 197), some (195, false), .mv (.t 40), []⟩,
           ⟨(some 198), some (195, false), .bin .neq (.t 196) (.t 197), []⟩,
           ⟨(some 199), none, .pick (.t 195) (.c (.bool true)) (.t 198), []⟩,
           ⟨(some 200), none, .mv (.t 199), []⟩,
           ⟨(some 201), some (200, false), .mv (.t 37), []⟩,
           ⟨(some 202), some (200, false), .mv (.t 39), []⟩,
           ⟨(some 203), some (200, false), .call 26 [(.t 201), (.t 202)], []⟩,
           ⟨(some 204), some (200, false), .un .not (.t 203), []⟩,
           ⟨(some 205), none, .pick (.t 200) (.c (.bool true)) (.t 204), []⟩] [2, 3, 4, 5, 6, 15, 19, 20, 22, 90, 91, 92, 156, 157, 158, 205])
         (.cond (.t 205) (.seq (.reg [⟨(some 14), none, .mv (.c (.bool false)), []⟩] [14])
           (.ret))
          (.skip)))))))))
   (.reg [⟨(some 206), none, .bin .add (.t 158) (.c (.int .i64 1)), []⟩,
     ⟨(some 158), none, .mv (.t 206), []⟩] [2, 3, 4, 5, 6, 15, 19, 20, 22, 90, 91, 92, 156, 157, 158])))
def L3x2 : ACode := .seq (.reg [⟨(some 93), none, .bin .lss (.t 92) (.t 91), []⟩] [2, 3, 4, 5, 6, 15, 19, 20, 90, 91, 92, 93])
 (.seq (.cond (.t 93) (.skip)
   (.exit 2))
  (.seq (.blk 3 (.seq (.reg [⟨(some 94), none, .iaddr 1 (.t 90) (.t 92), []⟩,
      ⟨(some 95), none, .load false 1 (.t 94), []⟩,
      ⟨(some 22), none, .mv (.t 95), []⟩] [2, 3, 4, 5, 6, 15, 19, 20, 22, 90, 91, 92])
    (.seq (.reg [⟨(some 97), none, .mv (.t 22), []⟩,
       ⟨(some 98), none, .call 12 [(.t 97)], []⟩,
       ⟨(some 96), none, .mv (.t 98), []⟩,
       ⟨(some 99), none, .ext (.t 96) 0, []⟩,
       ⟨(some 100), none, .ext (.t 96) 1, []⟩,
       ⟨(some 23), none, .mv (.t 99), []⟩,
       ⟨(some 24), none, .mv (.t 100), []⟩] [2, 3, 4, 5, 6, 15, 19, 20, 22, 23, 24, 90, 91, 92])
     (.seq (.reg [⟨(some 102), none, .mv (.t 22), []⟩,
        ⟨(some 103), none, .call 13 [(.t 102)], []⟩,
        ⟨(some 101), none, .mv (.t 103), []⟩,
        ⟨(some 104), none, .ext (.t 101) 0, []⟩,
        ⟨(some 105), none, .ext (.t 101) 1, []⟩,
        ⟨(some 25), none, .mv (.t 104), []⟩,
        ⟨(some 26), none, .mv (.t 105), []⟩] [2, 3, 4, 5, 6, 15, 19, 20, 22, 23, 24, 25, 26, 90, 91, 92])
      (.seq (.reg [⟨(some 107), none, .mv (.t 22), []⟩,
         ⟨(some 108), none, .call 14 [(.t 107)], []⟩,
         ⟨(some 106), none, .mv (.t 108), []⟩,
         ⟨(some 109), none, .ext (.t 106) 0, []⟩,
         ⟨(some 110), none, .ext (.t 106) 1, []⟩,
         ⟨(some 27), none, .mv (.t 109), []⟩,
         ⟨(some 28), none, .mv (.t 110), []⟩] [2, 3, 4, 5, 6, 15, 19, 20, 22, 23, 24, 25, 26, 27, 28, 90, 91, 92])
       (.seq (.reg [⟨(some 112), none, .mv (.t 22), []⟩,
          ⟨(some 113), none, .call 15 [(.t 112)], []⟩,
          ⟨(some 111), none, .mv (.t 113), []⟩,
          ⟨(some 114), none, .ext (.t 111) 0, []⟩,
          ⟨(some 115), none, .ext (.t 111) 1, []⟩,
          ⟨(some 29), none, .mv (.t 114), []⟩,
          ⟨(some 30), none, .mv (.t 115), []⟩] [2, 3, 4, 5, 6, 15, 19, 20, 22, 23, 24, 25, 26, 27, 28, 29, 30, 90, 91, 92])
        (.seq (.seq (.reg [⟨(some 116), none, .mv (.t 22), []⟩,
            ⟨(some 117), none, .call 16 [(.t 116)], []⟩,
            ⟨(some 118), none, .mv (.t 22), []⟩,
            ⟨(some 119), none, .call 17 [(.t 118)], []⟩,
            ⟨(some 120), none, .eqv true none (.t 117) (.t 119), []⟩,
            ⟨(some 121), none, .mv (.t 120), []⟩,
            ⟨(some 122), some (121, false), .mv (.t 23), []⟩,
            ⟨(some 123), some (121, false), .mv (.t 25), []⟩,
            ⟨(some 124), some (121, false), .bin .neq (.t 122) (.t 123), []⟩,
            ⟨(some 125), none, .pick (.t 121) (.c (.bool true)) (.t 124), []⟩,
            ⟨(some 126), none, .mv (.t 125), []⟩,
            ⟨(some 127), some (126, false), .mv (.t 24), []⟩,
            ⟨(some 128), some (126, false), .mv (.t 26), []⟩,
            ⟨(some 129), some (126, false), .bin .neq (.t 127) (.t 128), []⟩,
            ⟨(some 130), none, .pick (.t 126) (.c (.bool true)) (.t 129), []⟩,
            ⟨(some 131), none, .mv (.t 130), []⟩,
            ⟨(some 132), some (131, false), .mv (.t 22), []⟩,
            ⟨(some 133), some (131, false), .call 18 [(.t 132)], []⟩,
            ⟨(some 134), some (131, false), .mv (.t 22), []⟩,
            ⟨(some 135), some (131, false), .call 19 [(.t 134)], []⟩,
            ⟨(some 136), some (131, false), .bin .neq (.t 133) (.t 135), []⟩,
            ⟨(some 137), none, .pick (.t 131) (.c (.bool true)) (.t 136), []⟩,
            ⟨(some 138), none, .mv (.t 137), []⟩,
            ⟨(some 139), some (138, false), .mv (.t 27), []⟩,
            ⟨(some 140), some (138, false), .mv (.t 29), []⟩,
            ⟨(some 141), some (138, false), .bin .neq (.t 139) (.t 140), []⟩,
            ⟨(some 142), none, .pick (.t 138) (.c (.bool true)) (.t 141), []⟩,
            ⟨(some 143), none, .mv (.t 142), []⟩,
            ⟨(some 144), some (143, false), .mv (.t 28), []⟩,
            ⟨(some 145), some (143, false), .mv (.t 30), []⟩,
            ⟨(some 146), some (143, false), .bin .neq (.t 144) (.t 145), []⟩,
            ⟨(some 147), none, .pick (.t 143) (.c (.bool true)) (.t 146), []⟩] [2, 3, 4, 5, 6, 15, 19, 20, 22, 90, 91, 92, 147])
          (.cond (.t 147) (.seq (.reg [⟨(some 14), none, .mv (.c (.bool false)), []⟩] [14])
            (.ret))
           (.skip)))
         (.seq (.regD [⟨(some 148), none, .mv (.t 20), []⟩,
            ⟨(some 149), none, .mv (.t 3), []⟩,
            ⟨(some 150), none, .mv (.t 3), []⟩,
            ⟨(some 151), none, .len false (.t 150), []⟩,
            ⟨(some 152), none, .min [(.t 151), (.c (.int .i64 20))], []⟩,
            ⟨(some 153), none, .slice (some 1) (.t 149) none (some (.t 152)) none, []⟩,
            ⟨(some 154), none, .mv (.t 2), []⟩,
            ⟨(some 155), none, .call 20 [(.t 154), (.c (.int .i64 12))], []⟩,
            ⟨(some 156), none, .mks 3 1 false [(.sl 1 [] .nil)] [(0, (.t 148)), (1, (.t 153)), (2, (.t 155))], [7]⟩,
            ⟨(some 157), none, .len false (.t 156), [7]⟩,
            ⟨(some 158), none, .mv (.c (.int .i64 0)), []⟩] [2, 3, 4, 5, 6, 15, 19, 20, 22, 90, 91, 92, 156, 157, 158])
          (.blk 4 (.loop L3x1))))))))))
   (.reg [⟨(some 207), none, .bin .add (.t 92) (.c (.int .i64 1)), []⟩,
     ⟨(some 92), none, .mv (.t 207), []⟩] [2, 3, 4, 5, 6, 15, 19, 20, 90, 91, 92])))
def L3x3 : ACode := .seq (.reg [⟨(some 249), none, .bin .lss (.t 248) (.t 247), []⟩] [15, 246, 247, 248, 249])
 (.seq (.cond (.t 249) (.skip)
   (.exit 6))
  (.seq (.blk 7 (.seq (.reg [⟨(some 250), none, .iaddr 1 (.t 246) (.t 248), []⟩,
      ⟨(some 251), none, .load false 1 (.t 250), []⟩,
      ⟨(some 46), none, .mv (.t 251), []⟩] [15, 46, 246, 247, 248])
    (.seq (.reg [⟨(some 253), none, .mv (.t 46), []⟩,
       ⟨(some 254), none, .call 28 [(.t 253)], []⟩,
       ⟨(some 252), none, .mv (.t 254), []⟩,
       ⟨(some 255), none, .ext (.t 252) 0, []⟩,
       ⟨(some 256), none, .ext (.t 252) 1, []⟩,
       ⟨(some 47), none, .mv (.t 255), []⟩,
       ⟨(some 48), none, .mv (.t 256), []⟩] [15, 46, 47, 48, 246, 247, 248])
     (.seq (.reg [⟨(some 258), none, .mv (.t 46), []⟩,
        ⟨(some 259), none, .call 29 [(.t 258)], []⟩,
        ⟨(some 257), none, .mv (.t 259), []⟩,
        ⟨(some 260), none, .ext (.t 257) 0, []⟩,
        ⟨(some 261), none, .ext (.t 257) 1, []⟩,
        ⟨(some 49), none, .mv (.t 260), []⟩,
        ⟨(some 50), none, .mv (.t 261), []⟩] [15, 47, 48, 49, 50, 246, 247, 248])
      (.seq (.reg [⟨(some 262), none, .mv (.t 48), []⟩,
         ⟨(some 263), none, .mv (.t 50), []⟩,
         ⟨(some 264), none, .bin .neq (.t 262) (.t 263), []⟩,
         ⟨(some 265), none, .mv (.t 264), []⟩,
         ⟨(some 266), some (265, false), .mv (.t 47), []⟩,
         ⟨(some 267), some (265, false), .mv (.t 49), []⟩,
         ⟨(some 268), some (265, false), .call 26 [(.t 266), (.t 267)], []⟩,
         ⟨(some 269), some (265, false), .un .not (.t 268), []⟩,
         ⟨(some 270), none, .pick (.t 265) (.c (.bool true)) (.t 269), []⟩] [15, 246, 247, 248, 270])
       (.cond (.t 270) (.seq (.reg [⟨(some 14), none, .mv (.c (.bool false)), []⟩] [14])
         (.ret))
        (.skip)))))))
   (.reg [⟨(some 271), none, .bin .add (.t 248) (.c (.int .i64 1)), []⟩,
     ⟨(some 248), none, .mv (.t 271), []⟩] [15, 246, 247, 248])))
def A3 : AFunc := ⟨7, [.t 14], .seq (.reg [⟨(some 14), none, .mv (.c (.bool false)), []⟩] [0, 1, 2, 3, 4, 5, 6])
 (.seq (.reg [⟨(some 51), none, .call 10 [], []⟩,
    ⟨(some 15), none, .mv (.t 51), []⟩] [0, 1, 2, 3, 4, 5, 6, 15])
  (.seq (.reg [⟨(some 16), none, .mv (.c (.sl 3 [] .nil)), []⟩] [0, 1, 2, 3, 4, 5, 6, 15, 16])
   (.seq (.seq (.reg [⟨(some 17), none, .mv (.c (.int .i64 0)), []⟩] [0, 1, 2, 3, 4, 5, 6, 15, 16, 17])
     (.blk 0 (.loop L3x0)))
    (.seq (.reg [⟨(some 79), none, .mv (.t 1), []⟩,
       ⟨(some 80), none, .mv (.t 2), []⟩,
       ⟨(some 81), none, .call 11 [(.t 79), (.t 80)], []⟩,
       ⟨(some 78), none, .mv (.t 81), []⟩,
       ⟨(some 82), none, .ext (.t 78) 0, []⟩,
       ⟨(some 83), none, .ext (.t 78) 1, []⟩,
       ⟨(some 19), none, .mv (.t 82), []⟩,
       ⟨(some 20), none, .mv (.t 83), []⟩] [2, 3, 4, 5, 6, 15, 16, 19, 20])
     (.seq (.seq (.reg [⟨(some 84), none, .mv (.t 16), []⟩,
         ⟨(some 85), none, .mv (.t 19), []⟩,
         ⟨(some 86), none, .mv (.t 19), []⟩,
         ⟨(some 87), none, .app none 3 40 (.c (.sl 3 [] .nil)) (.t 86), []⟩,
         ⟨(some 88), none, .mv (.t 16), []⟩,
         ⟨(some 89), none, .app none 3 40 (.t 87) (.t 88), []⟩,
         ⟨(some 90), none, .mks 3 1 false [(.sl 3 [] .nil)] [(0, (.t 84)), (1, (.t 85)), (2, (.t 89))], []⟩,
         ⟨(some 91), none, .len false (.t 90), []⟩,
         ⟨(some 92), none, .mv (.c (.int .i64 0)), []⟩] [2, 3, 4, 5, 6, 15, 19, 20, 90, 91, 92])
       (.blk 2 (.loop L3x2)))
      (.seq (.reg [⟨(some 209), none, .mv (.t 19), []⟩,
         ⟨(some 210), none, .call 15 [(.t 209)], []⟩,
         ⟨(some 208), none, .mv (.t 210), []⟩,
         ⟨(some 211), none, .ext (.t 208) 0, []⟩,
         ⟨(some 212), none, .ext (.t 208) 1, []⟩,
         ⟨(some 41), none, .mv (.t 211), []⟩,
         ⟨(some 42), none, .mv (.t 212), []⟩] [4, 5, 6, 15, 41])
       (.seq (.reg [⟨(some 213), none, .mv (.t 41), []⟩,
          ⟨(some 43), none, .mv (.t 213), []⟩] [4, 5, 6, 15, 41, 43])
        (.seq (.seq (.reg [⟨(some 214), none, .mv (.t 41), []⟩,
            ⟨(some 215), none, .bin .neq (.t 214) (.c (.str [])), []⟩] [4, 5, 6, 15, 41, 43, 215])
          (.cond (.t 215) (.seq (.reg [⟨(some 216), none, .mv (.t 5), []⟩,
              ⟨(some 217), none, .mv (.t 41), []⟩,
              ⟨(some 218), none, .len true (.t 217), []⟩,
              ⟨(some 219), none, .call 27 [(.t 216), (.t 218)], []⟩,
              ⟨(some 44), none, .mv (.t 219), []⟩] [4, 6, 15, 41, 44])
            (.regD [⟨(some 220), none, .mv (.t 41), []⟩,
              ⟨(some 221), none, .mv (.t 44), []⟩,
              ⟨(some 222), none, .slice none (.t 220) none (some (.t 221)) none, []⟩,
              ⟨(some 223), none, .mv (.t 6), []⟩,
              ⟨(some 224), none, .mks 1 1 false [(.int .u8 0)] [(0, (.t 223))], []⟩,
              ⟨(some 225), none, .conv .ofBytes (.t 224), []⟩,
              ⟨(some 226), none, .bin .add (.t 222) (.t 225), []⟩,
              ⟨(some 227), none, .mv (.t 41), []⟩,
              ⟨(some 228), none, .mv (.t 44), []⟩,
              ⟨(some 229), none, .bin .add (.t 228) (.c (.int .i64 1)), []⟩,
              ⟨(some 230), none, .slice none (.t 227) (some (.t 229)) none none, []⟩,
              ⟨(some 231), none, .bin .add (.t 226) (.t 230), []⟩,
              ⟨(some 43), none, .mv (.t 231), []⟩] [4, 15, 41, 43]))
           (.skip)))
         (.seq (.seq (.regD [⟨(some 232), none, .mv (.t 4), []⟩,
             ⟨(some 233), none, .mv (.t 4), []⟩,
             ⟨(some 234), none, .len true (.t 233), []⟩,
             ⟨(some 235), none, .min [(.t 234), (.c (.int .i64 100))], []⟩,
             ⟨(some 236), none, .slice none (.t 232) none (some (.t 235)) none, []⟩,
             ⟨(some 237), none, .mv (.t 41), []⟩,
             ⟨(some 238), none, .mv (.t 43), []⟩,
             ⟨(some 239), none, .mv (.t 41), []⟩,
             ⟨(some 240), none, .mv (.t 4), []⟩,
             ⟨(some 241), none, .mv (.t 4), []⟩,
             ⟨(some 242), none, .len true (.t 241), []⟩,
             ⟨(some 243), none, .min [(.t 242), (.c (.int .i64 100))], []⟩,
             ⟨(some 244), none, .slice none (.t 240) none (some (.t 243)) none, []⟩,
             ⟨(some 245), none, .bin .add (.t 239) (.t 244), []⟩,
             ⟨(some 246), none, .mks 4 1 false [(.str [])] [(0, (.t 236)), (1, (.t 237)), (2, (.t 238)), (3, (.t 245))], []⟩,
             ⟨(some 247), none, .len false (.t 246), []⟩,
             ⟨(some 248), none, .mv (.c (.int .i64 0)), []⟩] [15, 246, 247, 248])
           (.blk 6 (.loop L3x3)))
          (.seq (.reg [⟨(some 272), none, .mv (.t 15), []⟩,
             ⟨(some 14), none, .mv (.t 272), []⟩] [14])
           (.ret)))))))))))⟩
theorem c3 : cmpF Tryd.prog ⟨[(33, 2), (35, 3), (42, 1)], false⟩ Tryd.f3 K3 = some A3 := by kernel_rfl
/-- collator/collatorlaw04.ScriptBack -/
def K4 : List (List Nat) := [[0, 1], [0, 1, 5], [5, 6, 7], [5, 6, 7, 8, 9], [5, 6, 7, 8, 9, 10, 11], [5, 6, 7, 8, 9, 10, 11, 12, 13], [5, 6, 7, 8, 9, 10, 11, 12, 13, 14, 15], [5, 6, 7, 8, 9, 10, 11, 12, 13, 14, 15, 16, 17], [5, 6, 7, 8, 9, 10, 11, 12, 13, 14, 15, 16, 17, 18, 19], [4]]
def A4 : AFunc := ⟨2, [.t 4], .seq (.reg [⟨(some 4), none, .mv (.c (.bool false)), []⟩] [0, 1])
 (.seq (.reg [⟨(some 20), none, .call 10 [], []⟩,
    ⟨(some 5), none, .mv (.t 20), []⟩] [0, 1, 5])
  (.seq (.reg [⟨(some 22), none, .mv (.t 0), []⟩,
     ⟨(some 23), none, .mv (.t 1), []⟩,
     ⟨(some 24), none, .call 11 [(.t 22), (.t 23)], []⟩,
     ⟨(some 21), none, .mv (.t 24), []⟩,
     ⟨(some 25), none, .ext (.t 21) 0, []⟩,
     ⟨(some 26), none, .ext (.t 21) 1, []⟩,
     ⟨(some 6), none, .mv (.t 25), []⟩,
     ⟨(some 7), none, .mv (.t 26), []⟩] [5, 6, 7])
   (.seq (.reg [⟨(some 28), none, .mv (.t 6), []⟩,
      ⟨(some 29), none, .mv (.t 7), []⟩,
      ⟨(some 30), none, .call 21 [(.t 28), (.t 29)], []⟩,
      ⟨(some 27), none, .mv (.t 30), []⟩,
      ⟨(some 31), none, .ext (.t 27) 0, []⟩,
      ⟨(some 32), none, .ext (.t 27) 1, []⟩,
      ⟨(some 8), none, .mv (.t 31), []⟩,
      ⟨(some 9), none, .mv (.t 32), []⟩] [5, 6, 7, 8, 9])
    (.seq (.reg [⟨(some 34), none, .mv (.t 6), []⟩,
       ⟨(some 35), none, .mv (.t 7), []⟩,
       ⟨(some 36), none, .call 23 [(.t 34), (.t 35)], []⟩,
       ⟨(some 33), none, .mv (.t 36), []⟩,
       ⟨(some 37), none, .ext (.t 33) 0, []⟩,
       ⟨(some 38), none, .ext (.t 33) 1, []⟩,
       ⟨(some 10), none, .mv (.t 37), []⟩,
       ⟨(some 11), none, .mv (.t 38), []⟩] [5, 6, 7, 8, 9, 10, 11])
     (.seq (.reg [⟨(some 40), none, .mv (.t 10), []⟩,
        ⟨(some 41), none, .mv (.t 8), []⟩,
        ⟨(some 42), none, .call 21 [(.t 40), (.t 41)], []⟩,
        ⟨(some 39), none, .mv (.t 42), []⟩,
        ⟨(some 43), none, .ext (.t 39) 0, []⟩,
        ⟨(some 44), none, .ext (.t 39) 1, []⟩,
        ⟨(some 12), none, .mv (.t 43), []⟩,
        ⟨(some 13), none, .mv (.t 44), []⟩] [5, 6, 7, 8, 9, 10, 11, 12, 13])
      (.seq (.reg [⟨(some 46), none, .mv (.t 10), []⟩,
         ⟨(some 47), none, .mv (.t 8), []⟩,
         ⟨(some 48), none, .call 23 [(.t 46), (.t 47)], []⟩,
         ⟨(some 45), none, .mv (.t 48), []⟩,
         ⟨(some 49), none, .ext (.t 45) 0, []⟩,
         ⟨(some 50), none, .ext (.t 45) 1, []⟩,
         ⟨(some 14), none, .mv (.t 49), []⟩,
         ⟨(some 15), none, .mv (.t 50), []⟩] [5, 6, 7, 8, 9, 10, 11, 12, 13, 14, 15])
       (.seq (.reg [⟨(some 52), none, .mv (.t 6), []⟩,
          ⟨(some 53), none, .call 12 [(.t 52)], []⟩,
          ⟨(some 51), none, .mv (.t 53), []⟩,
          ⟨(some 54), none, .ext (.t 51) 0, []⟩,
          ⟨(some 55), none, .ext (.t 51) 1, []⟩,
          ⟨(some 16), none, .mv (.t 54), []⟩,
          ⟨(some 17), none, .mv (.t 55), []⟩] [5, 6, 7, 8, 9, 10, 11, 12, 13, 14, 15, 16, 17])
        (.seq (.reg [⟨(some 57), none, .mv (.t 10), []⟩,
           ⟨(some 58), none, .call 12 [(.t 57)], []⟩,
           ⟨(some 56), none, .mv (.t 58), []⟩,
           ⟨(some 59), none, .ext (.t 56) 0, []⟩,
           ⟨(some 60), none, .ext (.t 56) 1, []⟩,
           ⟨(some 18), none, .mv (.t 59), []⟩,
           ⟨(some 19), none, .mv (.t 60), []⟩] [5, 6, 7, 8, 9, 10, 11, 12, 13, 14, 15, 16, 17, 18, 19])
         (.seq (.reg [⟨(some 61), none, .mv (.t 5), []⟩,
            ⟨(some 62), none, .mv (.t 61), []⟩,
            ⟨(some 63), some (62, true), .mv (.t 9), []⟩,
            ⟨(some 64), some (62, true), .bin .eql (.t 63) (.c (.int .i64 0)), []⟩,
            ⟨(some 65), none, .pick (.t 62) (.t 64) (.c (.bool false)), []⟩,
            ⟨(some 66), none, .mv (.t 65), []⟩,
            ⟨(some 67), some (66, true), .mv (.t 11), []⟩,
            ⟨(some 68), some (66, true), .bin .eql (.t 67) (.c (.int .i64 0)), []⟩,
            ⟨(some 69), none, .pick (.t 66) (.t 68) (.c (.bool false)), []⟩,
            ⟨(some 70), none, .mv (.t 69), []⟩,
            ⟨(some 71), some (70, true), .mv (.t 13), []⟩,
            ⟨(some 72), some (70, true), .bin .eql (.t 71) (.c (.int .i64 0)), []⟩,
            ⟨(some 73), none, .pick (.t 70) (.t 72) (.c (.bool false)), []⟩,
            ⟨(some 74), none, .mv (.t 73), []⟩,
            ⟨(some 75), some (74, true), .mv (.t 15), []⟩,
            ⟨(some 76), some (74, true), .bin .eql (.t 75) (.c (.int .i64 0)), []⟩,
            ⟨(some 77), none, .pick (.t 74) (.t 76) (.c (.bool false)), []⟩,
            ⟨(some 78), none, .mv (.t 77), []⟩,
            ⟨(some 79), some (78, true), .mv (.t 12), []⟩,
            ⟨(some 80), some (78, true), .mv (.t 7), []⟩,
            ⟨(some 81), some (78, true), .call 25 [(.t 79), (.t 80)], []⟩,
            ⟨(some 82), none, .pick (.t 78) (.t 81) (.c (.bool false)), []⟩,
            ⟨(some 83), none, .mv (.t 82), []⟩,
            ⟨(some 84), some (83, true), .mv (.t 14), []⟩,
            ⟨(some 85), some (83, true), .mv (.t 6), []⟩,
            ⟨(some 86), some (83, true), .call 26 [(.t 84), (.t 85)], []⟩,
            ⟨(some 87), none, .pick (.t 83) (.t 86) (.c (.bool false)), []⟩,
            ⟨(some 88), none, .mv (.t 87), []⟩,
            ⟨(some 89), some (88, true), .mv (.t 10), []⟩,
            ⟨(some 90), some (88, true), .call 16 [(.t 89)], []⟩,
            ⟨(some 91), none, .pick (.t 88) (.t 90) (.c (.bool false)), []⟩,
            ⟨(some 92), none, .mv (.t 91), []⟩,
            ⟨(some 93), some (92, true), .mv (.t 10), []⟩,
            ⟨(some 94), some (92, true), .call 18 [(.t 93)], []⟩,
            ⟨(some 95), some (92, true), .mv (.t 6), []⟩,
            ⟨(some 96), some (92, true), .call 18 [(.t 95)], []⟩,
            ⟨(some 97), some (92, true), .bin .eql (.t 94) (.t 96), []⟩,
            ⟨(some 98), none, .pick (.t 92) (.t 97) (.c (.bool false)), []⟩,
            ⟨(some 99), none, .mv (.t 98), []⟩,
            ⟨(some 100), some (99, true), .mv (.t 16), []⟩,
            ⟨(some 101), some (99, true), .mv (.t 7), []⟩,
            ⟨(some 102), some (99, true), .len false (.t 101), []⟩,
            ⟨(some 103), some (99, true), .bin .eql (.t 100) (.t 102), []⟩,
            ⟨(some 104), none, .pick (.t 99) (.t 103) (.c (.bool false)), []⟩,
            ⟨(some 105), none, .mv (.t 104), []⟩,
            ⟨(some 106), some (105, true), .mv (.t 17), []⟩,
            ⟨(some 107), some (105, true), .mv (.t 8), []⟩,
            ⟨(some 108), some (105, true), .len false (.t 107), []⟩,
            ⟨(some 109), some (105, true), .bin .eql (.t 106) (.t 108), []⟩,
            ⟨(some 110), none, .pick (.t 105) (.t 109) (.c (.bool false)), []⟩,
            ⟨(some 111), none, .mv (.t 110), []⟩,
            ⟨(some 112), some (111, true), .mv (.t 18), []⟩,
            ⟨(some 113), some (111, true), .mv (.t 17), []⟩,
            ⟨(some 114), some (111, true), .bin .eql (.t 112) (.t 113), []⟩,
            ⟨(some 115), none, .pick (.t 111) (.t 114) (.c (.bool false)), []⟩,
            ⟨(some 116), none, .mv (.t 115), []⟩,
            ⟨(some 117), some (116, true), .mv (.t 19), []⟩,
            ⟨(some 118), some (116, true), .mv (.t 16), []⟩,
            ⟨(some 119), some (116, true), .bin .eql (.t 117) (.t 118), []⟩,
            ⟨(some 120), none, .pick (.t 116) (.t 119) (.c (.bool false)), []⟩,
            ⟨(some 4), none, .mv (.t 120), []⟩] [4])
          (.ret))))))))))⟩
theorem c4 : cmpF Tryd.prog ⟨[(33, 2), (35, 3), (42, 1)], false⟩ Tryd.f4 K4 = some A4 := by kernel_rfl
/-- collator/collatorlaw04.ScriptForms -/
def K5 : List (List Nat) := [[0, 1, 2], [0, 1, 2, 7], [1, 2, 7, 8], [2, 7, 8, 10], [2, 7, 8, 10, 12, 13], [2, 7, 8, 10, 12, 13, 14, 15], [2, 7, 8, 10, 12, 13, 14, 15, 16, 17], [7, 8, 10, 12, 13, 14, 15, 16, 17, 18], [7, 8, 10, 12, 13, 14, 15, 16, 17, 18, 19, 20], [7, 8, 10, 12, 13, 14, 15, 16, 17, 18, 19, 60], [7, 8, 10, 12, 13, 14, 15, 16, 17, 18, 19, 21, 22], [7, 8, 10, 12, 13, 14, 15, 16, 17, 77], [6], [6]]
def A5 : AFunc := ⟨3, [.t 6], .seq (.reg [⟨(some 6), none, .mv (.c (.bool false)), []⟩] [0, 1, 2])
 (.seq (.reg [⟨(some 23), none, .call 10 [], []⟩,
    ⟨(some 7), none, .mv (.t 23), []⟩] [0, 1, 2, 7])
  (.seq (.reg [⟨(some 25), none, .mv (.t 0), []⟩,
     ⟨(some 26), none, .call 11 [(.t 25), (.c (.sl 1 [] .nil))], []⟩,
     ⟨(some 24), none, .mv (.t 26), []⟩,
     ⟨(some 27), none, .ext (.t 24) 0, []⟩,
     ⟨(some 28), none, .ext (.t 24) 1, []⟩,
     ⟨(some 8), none, .mv (.t 27), []⟩,
     ⟨(some 9), none, .mv (.t 28), []⟩] [1, 2, 7, 8])
   (.seq (.reg [⟨(some 30), none, .mv (.t 1), []⟩,
      ⟨(some 31), none, .call 11 [(.t 30), (.c (.sl 1 [] .nil))], []⟩,
      ⟨(some 29), none, .mv (.t 31), []⟩,
      ⟨(some 32), none, .ext (.t 29) 0, []⟩,
      ⟨(some 33), none, .ext (.t 29) 1, []⟩,
      ⟨(some 10), none, .mv (.t 32), []⟩,
      ⟨(some 11), none, .mv (.t 33), []⟩] [2, 7, 8, 10])
    (.seq (.reg [⟨(some 35), none, .mv (.t 8), []⟩,
       ⟨(some 36), none, .call 14 [(.t 35)], []⟩,
       ⟨(some 34), none, .mv (.t 36), []⟩,
       ⟨(some 37), none, .ext (.t 34) 0, []⟩,
       ⟨(some 38), none, .ext (.t 34) 1, []⟩,
       ⟨(some 12), none, .mv (.t 37), []⟩,
       ⟨(some 13), none, .mv (.t 38), []⟩] [2, 7, 8, 10, 12, 13])
     (.seq (.reg [⟨(some 40), none, .mv (.t 10), []⟩,
        ⟨(some 41), none, .call 14 [(.t 40)], []⟩,
        ⟨(some 39), none, .mv (.t 41), []⟩,
        ⟨(some 42), none, .ext (.t 39) 0, []⟩,
        ⟨(some 43), none, .ext (.t 39) 1, []⟩,
        ⟨(some 14), none, .mv (.t 42), []⟩,
        ⟨(some 15), none, .mv (.t 43), []⟩] [2, 7, 8, 10, 12, 13, 14, 15])
      (.seq (.reg [⟨(some 45), none, .mv (.t 12), []⟩,
         ⟨(some 46), none, .call 28 [(.t 45)], []⟩,
         ⟨(some 44), none, .mv (.t 46), []⟩,
         ⟨(some 47), none, .ext (.t 44) 0, []⟩,
         ⟨(some 48), none, .ext (.t 44) 1, []⟩,
         ⟨(some 16), none, .mv (.t 47), []⟩,
         ⟨(some 17), none, .mv (.t 48), []⟩] [2, 7, 8, 10, 12, 13, 14, 15, 16, 17])
       (.seq (.reg [⟨(some 49), none, .mv (.t 2), []⟩,
          ⟨(some 50), none, .mv (.t 2), []⟩,
          ⟨(some 51), none, .len true (.t 50), []⟩,
          ⟨(some 52), none, .min [(.t 51), (.c (.int .i64 100))], []⟩,
          ⟨(some 53), none, .slice none (.t 49) none (some (.t 52)) none, []⟩,
          ⟨(some 18), none, .mv (.t 53), []⟩] [7, 8, 10, 12, 13, 14, 15, 16, 17, 18])
        (.seq (.reg [⟨(some 55), none, .mv (.t 18), []⟩,
           ⟨(some 56), none, .call 28 [(.t 55)], []⟩,
           ⟨(some 54), none, .mv (.t 56), []⟩,
           ⟨(some 57), none, .ext (.t 54) 0, []⟩,
           ⟨(some 58), none, .ext (.t 54) 1, []⟩,
           ⟨(some 19), none, .mv (.t 57), []⟩,
           ⟨(some 20), none, .mv (.t 58), []⟩] [7, 8, 10, 12, 13, 14, 15, 16, 17, 18, 19, 20])
         (.seq (.seq (.reg [⟨(some 59), none, .mv (.t 20), []⟩,
             ⟨(some 60), none, .bin .eql (.t 59) (.c (.int .i64 0)), []⟩] [7, 8, 10, 12, 13, 14, 15, 16, 17, 18, 19, 60])
           (.cond (.t 60) (.seq (.reg [⟨(some 62), none, .mv (.t 19), []⟩,
               ⟨(some 63), none, .call 14 [(.t 62)], []⟩,
               ⟨(some 61), none, .mv (.t 63), []⟩,
               ⟨(some 64), none, .ext (.t 61) 0, []⟩,
               ⟨(some 65), none, .ext (.t 61) 1, []⟩,
               ⟨(some 21), none, .mv (.t 64), []⟩,
               ⟨(some 22), none, .mv (.t 65), []⟩] [7, 8, 10, 12, 13, 14, 15, 16, 17, 18, 19, 21, 22])
             (.seq (.reg [⟨(some 66), none, .mv (.t 22), []⟩,
                ⟨(some 67), none, .bin .neq (.t 66) (.c (.int .i64 0)), []⟩,
                ⟨(some 68), none, .mv (.t 67), []⟩,
                ⟨(some 69), some (68, false), .mv (.t 21), []⟩,
                ⟨(some 70), some (68, false), .mv (.t 18), []⟩,
                ⟨(some 71), some (68, false), .bin .neq (.t 69) (.t 70), []⟩,
                ⟨(some 72), none, .pick (.t 68) (.c (.bool true)) (.t 71), []⟩,
                ⟨(some 73), none, .mv (.t 72), []⟩,
                ⟨(some 74), some (73, false), .mv (.t 19), []⟩,
                ⟨(some 75), some (73, false), .call 16 [(.t 74)], []⟩,
                ⟨(some 76), some (73, false), .un .not (.t 75), []⟩,
                ⟨(some 77), none, .pick (.t 73) (.c (.bool true)) (.t 76), []⟩] [7, 8, 10, 12, 13, 14, 15, 16, 17, 77])
              (.cond (.t 77) (.seq (.reg [⟨(some 6), none, .mv (.c (.bool false)), []⟩] [6])
                (.ret))
               (.skip))))
            (.skip)))
          (.seq (.reg [⟨(some 78), none, .mv (.t 7), []⟩,
             ⟨(some 79), none, .mv (.t 78), []⟩,
             ⟨(some 80), some (79, true), .mv (.t 13), []⟩,
             ⟨(some 81), some (79, true), .bin .eql (.t 80) (.c (.int .i64 0)), []⟩,
             ⟨(some 82), none, .pick (.t 79) (.t 81) (.c (.bool false)), []⟩,
             ⟨(some 83), none, .mv (.t 82), []⟩,
             ⟨(some 84), some (83, true), .mv (.t 15), []⟩,
             ⟨(some 85), some (83, true), .bin .eql (.t 84) (.c (.int .i64 0)), []⟩,
             ⟨(some 86), none, .pick (.t 83) (.t 85) (.c (.bool false)), []⟩,
             ⟨(some 87), none, .mv (.t 86), []⟩,
             ⟨(some 88), some (87, true), .mv (.t 17), []⟩,
             ⟨(some 89), some (87, true), .bin .eql (.t 88) (.c (.int .i64 0)), []⟩,
             ⟨(some 90), none, .pick (.t 87) (.t 89) (.c (.bool false)), []⟩,
             ⟨(some 91), none, .mv (.t 90), []⟩,
             ⟨(some 92), some (91, true), .mv (.t 16), []⟩,
             ⟨(some 93), some (91, true), .mv (.t 8), []⟩,
             ⟨(some 94), some (91, true), .call 26 [(.t 92), (.t 93)], []⟩,
             ⟨(some 95), none, .pick (.t 91) (.t 94) (.c (.bool false)), []⟩,
             ⟨(some 96), none, .mv (.t 95), []⟩,
             ⟨(some 97), some (96, true), .mv (.t 12), []⟩,
             ⟨(some 98), some (96, true), .mv (.t 14), []⟩,
             ⟨(some 99), some (96, true), .bin .eql (.t 97) (.t 98), []⟩,
             ⟨(some 100), some (96, true), .mv (.t 8), []⟩,
             ⟨(some 101), some (96, true), .mv (.t 10), []⟩,
             ⟨(some 102), some (96, true), .call 26 [(.t 100), (.t 101)], []⟩,
             ⟨(some 103), some (96, true), .eqv false none (.t 99) (.t 102), []⟩,
             ⟨(some 104), none, .pick (.t 96) (.t 103) (.c (.bool false)), []⟩,
             ⟨(some 6), none, .mv (.t 104), []⟩] [6])
           (.ret)))))))))))⟩
theorem c5 : cmpF Tryd.prog ⟨[(33, 2), (35, 3), (42, 1)], false⟩ Tryd.f5 K5 = some A5 := by kernel_rfl
/-- collator/collatorlaw04.ScriptCuts -/
def K6 : List (List Nat) := [[0, 1], [0, 1, 5], [1, 5, 6], [1, 5, 6, 8, 9], [1, 5, 6, 8, 31], [4], [5, 6, 8, 10], [5, 6, 8, 10, 11], [5, 6, 8, 10, 11, 12], [5, 6, 8, 10, 11, 12, 42], [5, 6, 8, 10, 11, 12, 13, 14], [5, 6, 8, 10, 11, 12, 13, 14, 15, 16], [5, 6, 8, 10, 11, 12, 13, 71], [4], [5, 6, 8, 10, 11, 12], [5, 6, 8, 10, 11, 12], [5, 11, 18], [4]]
def L6x0 : ACode := .seq (.seq (.reg [⟨(some 39), none, .mv (.t 12), []⟩,
    ⟨(some 40), none, .mv (.t 6), []⟩,
    ⟨(some 41), none, .len false (.t 40), []⟩,
    ⟨(some 42), none, .bin .leq (.t 39) (.t 41), []⟩] [5, 6, 8, 10, 11, 12, 42])
  (.cond (.t 42) (.skip)
   (.exit 0)))
 (.seq (.blk 1 (.seq (.reg [⟨(some 46), none, .mv (.t 6), []⟩,
     ⟨(some 47), none, .mv (.t 12), []⟩,
     ⟨(some 48), none, .slice (some 3) (.t 46) none (some (.t 47)) none, []⟩,
     ⟨(some 49), none, .call 14 [(.t 48)], []⟩,
     ⟨(some 45), none, .mv (.t 49), []⟩,
     ⟨(some 50), none, .ext (.t 45) 0, []⟩,
     ⟨(some 51), none, .ext (.t 45) 1, []⟩,
     ⟨(some 13), none, .mv (.t 50), []⟩,
     ⟨(some 14), none, .mv (.t 51), []⟩] [5, 6, 8, 10, 11, 12, 13, 14])
   (.seq (.reg [⟨(some 53), none, .mv (.t 6), []⟩,
      ⟨(some 54), none, .mv (.t 12), []⟩,
      ⟨(some 55), none, .slice (some 3) (.t 53) (some (.t 54)) none none, []⟩,
      ⟨(some 56), none, .call 14 [(.t 55)], []⟩,
      ⟨(some 52), none, .mv (.t 56), []⟩,
      ⟨(some 57), none, .ext (.t 52) 0, []⟩,
      ⟨(some 58), none, .ext (.t 52) 1, []⟩,
      ⟨(some 15), none, .mv (.t 57), []⟩,
      ⟨(some 16), none, .mv (.t 58), []⟩] [5, 6, 8, 10, 11, 12, 13, 14, 15, 16])
    (.seq (.seq (.reg [⟨(some 59), none, .mv (.t 14), []⟩,
        ⟨(some 60), none, .bin .neq (.t 59) (.c (.int .i64 0)), []⟩,
        ⟨(some 61), none, .mv (.t 60), []⟩,
        ⟨(some 62), some (61, false), .mv (.t 16), []⟩,
        ⟨(some 63), some (61, false), .bin .neq (.t 62) (.c (.int .i64 0)), []⟩,
        ⟨(some 64), none, .pick (.t 61) (.c (.bool true)) (.t 63), []⟩,
        ⟨(some 65), none, .mv (.t 64), []⟩,
        ⟨(some 66), some (65, false), .mv (.t 13), []⟩,
        ⟨(some 67), some (65, false), .mv (.t 15), []⟩,
        ⟨(some 68), some (65, false), .bin .add (.t 66) (.t 67), []⟩,
        ⟨(some 69), some (65, false), .mv (.t 8), []⟩,
        ⟨(some 70), some (65, false), .bin .neq (.t 68) (.t 69), []⟩,
        ⟨(some 71), none, .pick (.t 65) (.c (.bool true)) (.t 70), []⟩] [5, 6, 8, 10, 11, 12, 13, 71])
      (.cond (.t 71) (.seq (.reg [⟨(some 4), none, .mv (.c (.bool false)), []⟩] [4])
        (.ret))
       (.skip)))
     (.reg [⟨(some 72), none, .mv (.t 11), []⟩,
       ⟨(some 73), none, .mv (.t 72), []⟩,
       ⟨(some 74), some (73, false), .mv (.t 13), []⟩,
       ⟨(some 75), some (73, false), .len true (.t 74), []⟩,
       ⟨(some 76), some (73, false), .mv (.t 10), []⟩,
       ⟨(some 77), some (73, false), .bin .eql (.t 75) (.t 76), []⟩,
       ⟨(some 78), none, .pick (.t 73) (.c (.bool true)) (.t 77), []⟩,
       ⟨(some 11), none, .mv (.t 78), []⟩] [5, 6, 8, 10, 11, 12])))))
  (.reg [⟨(some 43), none, .mv (.t 12), []⟩,
    ⟨(some 44), none, .bin .add (.t 43) (.c (.int .i64 1)), []⟩,
    ⟨(some 12), none, .mv (.t 44), []⟩] [5, 6, 8, 10, 11, 12]))
def A6 : AFunc := ⟨2, [.t 4], .seq (.reg [⟨(some 4), none, .mv (.c (.bool false)), []⟩] [0, 1])
 (.seq (.reg [⟨(some 19), none, .call 10 [], []⟩,
    ⟨(some 5), none, .mv (.t 19), []⟩] [0, 1, 5])
  (.seq (.reg [⟨(some 21), none, .mv (.t 0), []⟩,
     ⟨(some 22), none, .call 11 [(.t 21), (.c (.sl 1 [] .nil))], []⟩,
     ⟨(some 20), none, .mv (.t 22), []⟩,
     ⟨(some 23), none, .ext (.t 20) 0, []⟩,
     ⟨(some 24), none, .ext (.t 20) 1, []⟩,
     ⟨(some 6), none, .mv (.t 23), []⟩,
     ⟨(some 7), none, .mv (.t 24), []⟩] [1, 5, 6])
   (.seq (.reg [⟨(some 26), none, .mv (.t 6), []⟩,
      ⟨(some 27), none, .call 14 [(.t 26)], []⟩,
      ⟨(some 25), none, .mv (.t 27), []⟩,
      ⟨(some 28), none, .ext (.t 25) 0, []⟩,
      ⟨(some 29), none, .ext (.t 25) 1, []⟩,
      ⟨(some 8), none, .mv (.t 28), []⟩,
      ⟨(some 9), none, .mv (.t 29), []⟩] [1, 5, 6, 8, 9])
    (.seq (.seq (.reg [⟨(some 30), none, .mv (.t 9), []⟩,
        ⟨(some 31), none, .bin .neq (.t 30) (.c (.int .i64 0)), []⟩] [1, 5, 6, 8, 31])
      (.cond (.t 31) (.seq (.reg [⟨(some 4), none, .mv (.c (.bool false)), []⟩] [4])
        (.ret))
       (.skip)))
     (.seq (.reg [⟨(some 32), none, .mv (.t 1), []⟩,
        ⟨(some 33), none, .mv (.t 8), []⟩,
        ⟨(some 34), none, .len true (.t 33), []⟩,
        ⟨(some 35), none, .bin .add (.t 34) (.c (.int .i64 1)), []⟩,
        ⟨(some 36), none, .call 27 [(.t 32), (.t 35)], []⟩,
        ⟨(some 10), none, .mv (.t 36), []⟩] [5, 6, 8, 10])
      (.seq (.reg [⟨(some 37), none, .mv (.t 10), []⟩,
         ⟨(some 38), none, .bin .eql (.t 37) (.c (.int .i64 0)), []⟩,
         ⟨(some 11), none, .mv (.t 38), []⟩] [5, 6, 8, 10, 11])
       (.seq (.seq (.reg [⟨(some 12), none, .mv (.c (.int .i64 0)), []⟩] [5, 6, 8, 10, 11, 12])
         (.blk 0 (.loop L6x0)))
        (.seq (.reg [⟨(some 80), none, .mv (.t 8), []⟩,
           ⟨(some 81), none, .mv (.t 10), []⟩,
           ⟨(some 82), none, .slice none (.t 80) none (some (.t 81)) none, []⟩,
           ⟨(some 83), none, .call 28 [(.t 82)], []⟩,
           ⟨(some 79), none, .mv (.t 83), []⟩,
           ⟨(some 84), none, .ext (.t 79) 0, []⟩,
           ⟨(some 85), none, .ext (.t 79) 1, []⟩,
           ⟨(some 17), none, .mv (.t 84), []⟩,
           ⟨(some 18), none, .mv (.t 85), []⟩] [5, 11, 18])
         (.seq (.reg [⟨(some 86), none, .mv (.t 5), []⟩,
            ⟨(some 87), none, .mv (.t 86), []⟩,
            ⟨(some 88), some (87, true), .mv (.t 18), []⟩,
            ⟨(some 89), some (87, true), .bin .eql (.t 88) (.c (.int .i64 0)), []⟩,
            ⟨(some 90), some (87, true), .mv (.t 11), []⟩,
            ⟨(some 91), some (87, true), .eqv false none (.t 89) (.t 90), []⟩,
            ⟨(some 92), none, .pick (.t 87) (.t 91) (.c (.bool false)), []⟩,
            ⟨(some 4), none, .mv (.t 92), []⟩] [4])
          (.ret))))))))))⟩
theorem c6 : cmpF Tryd.prog ⟨[(33, 2), (35, 3), (42, 1)], false⟩ Tryd.f6 K6 = some A6 := by kernel_rfl
/-- collator/collatorlaw04.ScriptLong -/
def K7 : List (List Nat) := [[0, 1], [0, 1, 5], [1, 5, 6], [1, 5, 6, 7], [1, 5, 6, 7, 8], [1, 5, 6, 7, 8, 28], [1, 5, 6, 7], [1, 5, 6, 7, 8], [1, 5, 6, 7, 8, 9, 10], [1, 5, 6, 7, 8, 9, 10, 11], [1, 5, 6, 7, 8, 9, 10, 11, 12, 13], [1, 5, 6, 7, 8, 9, 10, 11, 12, 13, 15], [1, 5, 6, 7, 8, 9, 10, 11, 12, 13, 15, 17], [1, 5, 6, 7, 9, 10, 11, 12, 13, 15, 17, 19], [1, 5, 6, 7, 9, 10, 11, 12, 13, 77], [4], [1, 5, 6, 7, 9, 10, 11, 12, 13, 79], [4], [1, 5, 6, 7, 9, 10, 11, 12, 13, 20, 21], [4]]
def A7 : AFunc := ⟨2, [.t 4], .seq (.reg [⟨(some 4), none, .mv (.c (.bool false)), []⟩] [0, 1])
 (.seq (.reg [⟨(some 22), none, .call 10 [], []⟩,
    ⟨(some 5), none, .mv (.t 22), []⟩] [0, 1, 5])
  (.seq (.reg [⟨(some 23), none, .mv (.t 0), []⟩,
     ⟨(some 24), none, .call 27 [(.t 23), (.c (.int .i64 9))], []⟩,
     ⟨(some 25), none, .bin .add (.c (.int .i64 1048572)) (.t 24), []⟩,
     ⟨(some 6), none, .mv (.t 25), []⟩] [1, 5, 6])
   (.seq (.reg [⟨(some 26), none, .mv (.t 6), []⟩,
      ⟨(some 27), none, .agg [(.int .i64 0), (.int .i64 0), (.sl 1 [] .nil)] [(0, 1, (.c (.int .i64 1))), (1, 1, (.t 26))], []⟩,
      ⟨(some 7), none, .alloc [(.int .i64 0), (.int .i64 0), (.sl 1 [] .nil)], []⟩,
      ⟨none, none, .store 3 (.t 7) (.t 27), []⟩] [1, 5, 6, 7])
    (.seq (.reg [⟨(some 8), none, .mv (.c (.str [61])), []⟩] [1, 5, 6, 7, 8])
     (.seq (.seq (.reg [⟨(some 28), none, .mv (.t 1), []⟩] [1, 5, 6, 7, 8, 28])
       (.cond (.t 28) (.seq (.reg [⟨(some 29), none, .faddr 0 (.t 7), []⟩,
           ⟨none, none, .store 1 (.t 29) (.c (.int .i64 2)), []⟩] [1, 5, 6, 7])
         (.reg [⟨(some 8), none, .mv (.c (.str [45])), []⟩] [1, 5, 6, 7, 8]))
        (.skip)))
      (.seq (.reg [⟨(some 31), none, .load true 3 (.t 7), []⟩,
         ⟨(some 32), none, .mks 1 3 true [(.int .i64 0), (.int .i64 0), (.sl 1 [] .nil)] [(0, (.t 31))], []⟩,
         ⟨(some 33), none, .call 14 [(.t 32)], []⟩,
         ⟨(some 30), none, .mv (.t 33), []⟩,
         ⟨(some 34), none, .ext (.t 30) 0, []⟩,
         ⟨(some 35), none, .ext (.t 30) 1, []⟩,
         ⟨(some 9), none, .mv (.t 34), []⟩,
         ⟨(some 10), none, .mv (.t 35), []⟩] [1, 5, 6, 7, 8, 9, 10])
       (.seq (.reg [⟨(some 36), none, .mv (.t 8), []⟩,
          ⟨(some 37), none, .mv (.t 6), []⟩,
          ⟨(some 38), none, .call 30 [(.t 37)], []⟩,
          ⟨(some 39), none, .bin .add (.t 36) (.t 38), []⟩,
          ⟨(some 40), none, .bin .add (.t 39) (.c (.str [59])), []⟩,
          ⟨(some 11), none, .mv (.t 40), []⟩] [1, 5, 6, 7, 8, 9, 10, 11])
        (.seq (.reg [⟨(some 42), none, .mv (.t 11), []⟩,
           ⟨(some 43), none, .call 28 [(.t 42)], []⟩,
           ⟨(some 41), none, .mv (.t 43), []⟩,
           ⟨(some 44), none, .ext (.t 41) 0, []⟩,
           ⟨(some 45), none, .ext (.t 41) 1, []⟩,
           ⟨(some 12), none, .mv (.t 44), []⟩,
           ⟨(some 13), none, .mv (.t 45), []⟩] [1, 5, 6, 7, 8, 9, 10, 11, 12, 13])
         (.seq (.reg [⟨(some 47), none, .mv (.t 8), []⟩,
            ⟨(some 48), none, .bin .add (.t 47) (.c (.str [48])), []⟩,
            ⟨(some 49), none, .mv (.t 6), []⟩,
            ⟨(some 50), none, .call 30 [(.t 49)], []⟩,
            ⟨(some 51), none, .bin .add (.t 48) (.t 50), []⟩,
            ⟨(some 52), none, .bin .add (.t 51) (.c (.str [59])), []⟩,
            ⟨(some 53), none, .call 28 [(.t 52)], []⟩,
            ⟨(some 46), none, .mv (.t 53), []⟩,
            ⟨(some 54), none, .ext (.t 46) 0, []⟩,
            ⟨(some 55), none, .ext (.t 46) 1, []⟩,
            ⟨(some 14), none, .mv (.t 54), []⟩,
            ⟨(some 15), none, .mv (.t 55), []⟩] [1, 5, 6, 7, 8, 9, 10, 11, 12, 13, 15])
          (.seq (.reg [⟨(some 57), none, .mv (.t 8), []⟩,
             ⟨(some 58), none, .bin .add (.t 57) (.c (.str [48, 59])), []⟩,
             ⟨(some 59), none, .call 28 [(.t 58)], []⟩,
             ⟨(some 56), none, .mv (.t 59), []⟩,
             ⟨(some 60), none, .ext (.t 56) 0, []⟩,
             ⟨(some 61), none, .ext (.t 56) 1, []⟩,
             ⟨(some 16), none, .mv (.t 60), []⟩,
             ⟨(some 17), none, .mv (.t 61), []⟩] [1, 5, 6, 7, 8, 9, 10, 11, 12, 13, 15, 17])
           (.seq (.reg [⟨(some 63), none, .mv (.t 8), []⟩,
              ⟨(some 64), none, .bin .add (.t 63) (.c (.str [57, 57, 57, 57, 57, 57, 57, 57, 57, 57, 57, 57, 57, 57, 57, 57, 57, 57, 57, 57, 59])), []⟩,
              ⟨(some 65), none, .call 28 [(.t 64)], []⟩,
              ⟨(some 62), none, .mv (.t 65), []⟩,
              ⟨(some 66), none, .ext (.t 62) 0, []⟩,
              ⟨(some 67), none, .ext (.t 62) 1, []⟩,
              ⟨(some 18), none, .mv (.t 66), []⟩,
              ⟨(some 19), none, .mv (.t 67), []⟩] [1, 5, 6, 7, 9, 10, 11, 12, 13, 15, 17, 19])
            (.seq (.seq (.reg [⟨(some 68), none, .mv (.t 15), []⟩,
                ⟨(some 69), none, .bin .neq (.t 68) (.c (.int .i64 11)), []⟩,
                ⟨(some 70), none, .mv (.t 69), []⟩,
                ⟨(some 71), some (70, false), .mv (.t 17), []⟩,
                ⟨(some 72), some (70, false), .bin .neq (.t 71) (.c (.int .i64 11)), []⟩,
                ⟨(some 73), none, .pick (.t 70) (.c (.bool true)) (.t 72), []⟩,
                ⟨(some 74), none, .mv (.t 73), []⟩,
                ⟨(some 75), some (74, false), .mv (.t 19), []⟩,
                ⟨(some 76), some (74, false), .bin .neq (.t 75) (.c (.int .i64 11)), []⟩,
                ⟨(some 77), none, .pick (.t 74) (.c (.bool true)) (.t 76), []⟩] [1, 5, 6, 7, 9, 10, 11, 12, 13, 77])
              (.cond (.t 77) (.seq (.reg [⟨(some 4), none, .mv (.c (.bool false)), []⟩] [4])
                (.ret))
               (.skip)))
             (.seq (.seq (.reg [⟨(some 78), none, .mv (.t 6), []⟩,
                 ⟨(some 79), none, .bin .gtr (.t 78) (.c (.int .i64 1048576)), []⟩] [1, 5, 6, 7, 9, 10, 11, 12, 13, 79])
               (.cond (.t 79) (.seq (.reg [⟨(some 80), none, .mv (.t 5), []⟩,
                   ⟨(some 81), none, .mv (.t 80), []⟩,
                   ⟨(some 82), some (81, true), .mv (.t 10), []⟩,
                   ⟨(some 83), some (81, true), .bin .eql (.t 82) (.c (.int .i64 1)), []⟩,
                   ⟨(some 84), none, .pick (.t 81) (.t 83) (.c (.bool false)), []⟩,
                   ⟨(some 85), none, .mv (.t 84), []⟩,
                   ⟨(some 86), some (85, true), .mv (.t 9), []⟩,
                   ⟨(some 87), some (85, true), .bin .eql (.t 86) (.c (.str [])), []⟩,
                   ⟨(some 88), none, .pick (.t 85) (.t 87) (.c (.bool false)), []⟩,
                   ⟨(some 89), none, .mv (.t 88), []⟩,
                   ⟨(some 90), some (89, true), .mv (.t 13), []⟩,
                   ⟨(some 91), some (89, true), .bin .eql (.t 90) (.c (.int .i64 11)), []⟩,
                   ⟨(some 92), none, .pick (.t 89) (.t 91) (.c (.bool false)), []⟩,
                   ⟨(some 93), none, .mv (.t 92), []⟩,
                   ⟨(some 94), some (93, true), .mv (.t 12), []⟩,
                   ⟨(some 95), some (93, true), .len false (.t 94), []⟩,
                   ⟨(some 96), some (93, true), .bin .eql (.t 95) (.c (.int .i64 0)), []⟩,
                   ⟨(some 97), none, .pick (.t 93) (.t 96) (.c (.bool false)), []⟩,
                   ⟨(some 4), none, .mv (.t 97), []⟩] [4])
                 (.ret))
                (.skip)))
              (.seq (.reg [⟨(some 99), none, .load true 3 (.t 7), []⟩,
                 ⟨(some 100), none, .mks 1 3 true [(.int .i64 0), (.int .i64 0), (.sl 1 [] .nil)] [(0, (.t 99))], []⟩,
                 ⟨(some 101), none, .call 12 [(.t 100)], []⟩,
                 ⟨(some 98), none, .mv (.t 101), []⟩,
                 ⟨(some 102), none, .ext (.t 98) 0, []⟩,
                 ⟨(some 103), none, .ext (.t 98) 1, []⟩,
                 ⟨(some 20), none, .mv (.t 102), []⟩,
                 ⟨(some 21), none, .mv (.t 103), []⟩] [1, 5, 6, 7, 9, 10, 11, 12, 13, 20, 21])
               (.seq (.reg [⟨(some 104), none, .mv (.t 5), []⟩,
                  ⟨(some 105), none, .mv (.t 104), []⟩,
                  ⟨(some 106), some (105, true), .mv (.t 10), []⟩,
                  ⟨(some 107), some (105, true), .bin .eql (.t 106) (.c (.int .i64 0)), []⟩,
                  ⟨(some 108), none, .pick (.t 105) (.t 107) (.c (.bool false)), []⟩,
                  ⟨(some 109), none, .mv (.t 108), []⟩,
                  ⟨(some 110), some (109, true), .mv (.t 9), []⟩,
                  ⟨(some 111), some (109, true), .mv (.t 11), []⟩,
                  ⟨(some 112), some (109, true), .bin .eql (.t 110) (.t 111), []⟩,
                  ⟨(some 113), none, .pick (.t 109) (.t 112) (.c (.bool false)), []⟩,
                  ⟨(some 114), none, .mv (.t 113), []⟩,
                  ⟨(some 115), some (114, true), .mv (.t 13), []⟩,
                  ⟨(some 116), some (114, true), .bin .eql (.t 115) (.c (.int .i64 0)), []⟩,
                  ⟨(some 117), none, .pick (.t 114) (.t 116) (.c (.bool false)), []⟩,
                  ⟨(some 118), none, .mv (.t 117), []⟩,
                  ⟨(some 119), some (118, true), .mv (.t 12), []⟩,
                  ⟨(some 120), some (118, true), .load true 3 (.t 7), []⟩,
                  ⟨(some 121), some (118, true), .mks 1 3 true [(.int .i64 0), (.int .i64 0), (.sl 1 [] .nil)] [(0, (.t 120))], []⟩,
                  ⟨(some 122), some (118, true), .call 26 [(.t 119), (.t 121)], []⟩,
                  ⟨(some 123), none, .pick (.t 118) (.t 122) (.c (.bool false)), []⟩,
                  ⟨(some 124), none, .mv (.t 123), []⟩,
                  ⟨(some 125), some (124, true), .mv (.t 20), []⟩,
                  ⟨(some 126), some (124, true), .mv (.t 6), []⟩,
                  ⟨(some 127), some (124, true), .bin .eql (.t 125) (.t 126), []⟩,
                  ⟨(some 128), none, .pick (.t 124) (.t 127) (.c (.bool false)), []⟩,
                  ⟨(some 129), none, .mv (.t 128), []⟩,
                  ⟨(some 130), some (129, true), .mv (.t 21), []⟩,
                  ⟨(some 131), some (129, true), .mv (.t 6), []⟩,
                  ⟨(some 132), some (129, true), .bin .eql (.t 130) (.t 131), []⟩,
                  ⟨(some 133), some (129, true), .mv (.t 1), []⟩,
                  ⟨(some 134), some (129, true), .un .not (.t 133), []⟩,
                  ⟨(some 135), some (129, true), .eqv false none (.t 132) (.t 134), []⟩,
                  ⟨(some 136), none, .pick (.t 129) (.t 135) (.c (.bool false)), []⟩,
                  ⟨(some 137), none, .mv (.t 136), []⟩,
                  ⟨(some 138), some (137, true), .mv (.t 12), []⟩,
                  ⟨(some 139), some (137, true), .call 18 [(.t 138)], []⟩,
                  ⟨(some 140), some (137, true), .mv (.t 6), []⟩,
                  ⟨(some 141), some (137, true), .mv (.t 21), []⟩,
                  ⟨(some 142), some (137, true), .bin .sub (.t 140) (.t 141), []⟩,
                  ⟨(some 143), some (137, true), .bin .eql (.t 139) (.t 142), []⟩,
                  ⟨(some 144), none, .pick (.t 137) (.t 143) (.c (.bool false)), []⟩,
                  ⟨(some 4), none, .mv (.t 144), []⟩] [4])
                (.ret))))))))))))))))⟩
theorem c7 : cmpF Tryd.prog ⟨[(33, 2), (35, 3), (42, 1)], false⟩ Tryd.f7 K7 = some A7 := by kernel_rfl
/-- collator/collatorlaw04.ScriptSpans -/
def K8 : List (List Nat) := [[0, 1], [0, 1, 5], [5, 6, 7], [5, 6, 7, 8, 9], [5, 6, 7, 8, 9, 10, 11], [5, 6, 7, 8, 9, 10, 11, 12], [5, 6, 7, 8, 9, 10, 11, 12, 13], [5, 6, 7, 8, 9, 10, 11, 12, 13, 14], [5, 6, 7, 8, 9, 10, 11, 12, 13, 14, 40], [5, 6, 7, 8, 9, 10, 11, 12, 13, 14, 48], [5, 6, 7, 8, 9, 10, 11, 12, 13, 14], [5, 6, 7, 8, 9, 10, 11, 12, 13, 14], [5, 6, 7, 8, 9, 10, 11, 12, 13, 14], [5, 6, 7, 8, 9, 10, 11, 12, 13, 15], [5, 6, 7, 8, 9, 10, 11, 12, 13, 15, 66], [5, 6, 7, 8, 9, 10, 11, 12, 13, 15, 16], [5, 6, 7, 8, 9, 10, 11, 12, 13, 15, 16, 17], [5, 6, 7, 8, 9, 10, 11, 12, 13, 15, 16, 17, 72], [5, 6, 7, 8, 9, 10, 11, 12, 13, 15, 16, 17], [5, 6, 7, 8, 9, 10, 11, 12, 13, 15, 16, 17], [5, 6, 7, 8, 9, 10, 11, 12, 13, 15, 16, 18], [5, 6, 7, 8, 9, 10, 11, 12, 13, 15, 16, 18, 90], [5, 6, 7, 8, 9, 10, 11, 12, 13, 15, 16, 18], [5, 6, 7, 8, 9, 10, 11, 12, 13, 15, 16, 18], [5, 6, 7, 8, 9, 10, 11, 12, 13, 15, 106], [4], [5, 6, 7, 8, 9, 10, 11, 12, 13, 15], [4]]
def L8x0 : ACode := .seq (.seq (.reg [⟨(some 37), none, .mv (.t 14), []⟩,
    ⟨(some 38), none, .mv (.t 6), []⟩,
    ⟨(some 39), none, .len false (.t 38), []⟩,
    ⟨(some 40), none, .bin .lss (.t 37) (.t 39), []⟩] [5, 6, 7, 8, 9, 10, 11, 12, 13, 14, 40])
  (.cond (.t 40) (.skip)
   (.exit 0)))
 (.seq (.blk 1 (.seq (.seq (.reg [⟨(some 43), none, .mv (.t 6), []⟩,
      ⟨(some 44), none, .mv (.t 14), []⟩,
      ⟨(some 45), none, .iaddr 3 (.t 43) (.t 44), []⟩,
      ⟨(some 46), none, .faddr 0 (.t 45), []⟩,
      ⟨(some 47), none, .load false 1 (.t 46), []⟩,
      ⟨(some 48), none, .bin .eql (.t 47) (.c (.int .i64 1)), []⟩] [5, 6, 7, 8, 9, 10, 11, 12, 13, 14, 48])
    (.cond (.t 48) (.reg [⟨(some 49), none, .mv (.t 12), []⟩,
       ⟨(some 50), none, .mv (.t 6), []⟩,
       ⟨(some 51), none, .mv (.t 14), []⟩,
       ⟨(some 52), none, .iaddr 3 (.t 50) (.t 51), []⟩,
       ⟨(some 53), none, .faddr 1 (.t 52), []⟩,
       ⟨(some 54), none, .load false 1 (.t 53), []⟩,
       ⟨(some 55), none, .bin .add (.t 49) (.t 54), []⟩,
       ⟨(some 12), none, .mv (.t 55), []⟩] [5, 6, 7, 8, 9, 10, 11, 12, 13, 14])
     (.skip)))
   (.reg [⟨(some 56), none, .mv (.t 13), []⟩,
     ⟨(some 57), none, .mv (.t 6), []⟩,
     ⟨(some 58), none, .mv (.t 14), []⟩,
     ⟨(some 59), none, .iaddr 3 (.t 57) (.t 58), []⟩,
     ⟨(some 60), none, .faddr 2 (.t 59), []⟩,
     ⟨(some 61), none, .load false 1 (.t 60), []⟩,
     ⟨(some 62), none, .app none 1 16 (.t 56) (.t 61), []⟩,
     ⟨(some 13), none, .mv (.t 62), []⟩] [5, 6, 7, 8, 9, 10, 11, 12, 13, 14])))
  (.reg [⟨(some 41), none, .mv (.t 14), []⟩,
    ⟨(some 42), none, .bin .add (.t 41) (.c (.int .i64 1)), []⟩,
    ⟨(some 14), none, .mv (.t 42), []⟩] [5, 6, 7, 8, 9, 10, 11, 12, 13, 14]))
def L8x1 : ACode := .seq (.seq (.reg [⟨(some 69), none, .mv (.t 17), []⟩,
    ⟨(some 70), none, .mv (.t 7), []⟩,
    ⟨(some 71), none, .len false (.t 70), []⟩,
    ⟨(some 72), none, .bin .lss (.t 69) (.t 71), []⟩] [5, 6, 7, 8, 9, 10, 11, 12, 13, 15, 16, 17, 72])
  (.cond (.t 72) (.skip)
   (.exit 4)))
 (.seq (.blk 5 (.regD [⟨(some 75), none, .mv (.t 16), []⟩,
    ⟨(some 76), none, .mv (.t 75), []⟩,
    ⟨(some 77), some (76, false), .mv (.t 7), []⟩,
    ⟨(some 78), some (76, false), .mv (.t 17), []⟩,
    ⟨(some 79), some (76, false), .iaddr 1 (.t 77) (.t 78), []⟩,
    ⟨(some 80), some (76, false), .load false 1 (.t 79), []⟩,
    ⟨(some 81), some (76, false), .mv (.t 8), []⟩,
    ⟨(some 82), some (76, false), .mv (.t 15), []⟩,
    ⟨(some 83), some (76, false), .iaddr 1 (.t 81) (.t 82), []⟩,
    ⟨(some 84), some (76, false), .load false 1 (.t 83), []⟩,
    ⟨(some 85), some (76, false), .bin .eql (.t 80) (.t 84), []⟩,
    ⟨(some 86), none, .pick (.t 76) (.c (.bool true)) (.t 85), []⟩,
    ⟨(some 16), none, .mv (.t 86), []⟩] [5, 6, 7, 8, 9, 10, 11, 12, 13, 15, 16, 17]))
  (.reg [⟨(some 73), none, .mv (.t 17), []⟩,
    ⟨(some 74), none, .bin .add (.t 73) (.c (.int .i64 1)), []⟩,
    ⟨(some 17), none, .mv (.t 74), []⟩] [5, 6, 7, 8, 9, 10, 11, 12, 13, 15, 16, 17]))
def L8x2 : ACode := .seq (.seq (.reg [⟨(some 87), none, .mv (.t 18), []⟩,
    ⟨(some 88), none, .mv (.t 13), []⟩,
    ⟨(some 89), none, .len false (.t 88), []⟩,
    ⟨(some 90), none, .bin .lss (.t 87) (.t 89), []⟩] [5, 6, 7, 8, 9, 10, 11, 12, 13, 15, 16, 18, 90])
  (.cond (.t 90) (.skip)
   (.exit 6)))
 (.seq (.blk 7 (.regD [⟨(some 93), none, .mv (.t 16), []⟩,
    ⟨(some 94), none, .mv (.t 93), []⟩,
    ⟨(some 95), some (94, false), .mv (.t 13), []⟩,
    ⟨(some 96), some (94, false), .mv (.t 18), []⟩,
    ⟨(some 97), some (94, false), .iaddr 1 (.t 95) (.t 96), []⟩,
    ⟨(some 98), some (94, false), .load false 1 (.t 97), []⟩,
    ⟨(some 99), some (94, false), .mv (.t 8), []⟩,
    ⟨(some 100), some (94, false), .mv (.t 15), []⟩,
    ⟨(some 101), some (94, false), .iaddr 1 (.t 99) (.t 100), []⟩,
    ⟨(some 102), some (94, false), .load false 1 (.t 101), []⟩,
    ⟨(some 103), some (94, false), .bin .eql (.t 98) (.t 102), []⟩,
    ⟨(some 104), none, .pick (.t 94) (.c (.bool true)) (.t 103), []⟩,
    ⟨(some 16), none, .mv (.t 104), []⟩] [5, 6, 7, 8, 9, 10, 11, 12, 13, 15, 16, 18]))
  (.reg [⟨(some 91), none, .mv (.t 18), []⟩,
    ⟨(some 92), none, .bin .add (.t 91) (.c (.int .i64 1)), []⟩,
    ⟨(some 18), none, .mv (.t 92), []⟩] [5, 6, 7, 8, 9, 10, 11, 12, 13, 15, 16, 18]))
def L8x3 : ACode := .seq (.seq (.reg [⟨(some 63), none, .mv (.t 15), []⟩,
    ⟨(some 64), none, .mv (.t 8), []⟩,
    ⟨(some 65), none, .len false (.t 64), []⟩,
    ⟨(some 66), none, .bin .lss (.t 63) (.t 65), []⟩] [5, 6, 7, 8, 9, 10, 11, 12, 13, 15, 66])
  (.cond (.t 66) (.skip)
   (.exit 2)))
 (.seq (.blk 3 (.seq (.reg [⟨(some 16), none, .mv (.c (.bool false)), []⟩] [5, 6, 7, 8, 9, 10, 11, 12, 13, 15, 16])
   (.seq (.seq (.reg [⟨(some 17), none, .mv (.c (.int .i64 0)), []⟩] [5, 6, 7, 8, 9, 10, 11, 12, 13, 15, 16, 17])
     (.blk 4 (.loop L8x1)))
    (.seq (.seq (.reg [⟨(some 18), none, .mv (.c (.int .i64 0)), []⟩] [5, 6, 7, 8, 9, 10, 11, 12, 13, 15, 16, 18])
      (.blk 6 (.loop L8x2)))
     (.seq (.reg [⟨(some 105), none, .mv (.t 16), []⟩,
        ⟨(some 106), none, .un .not (.t 105), []⟩] [5, 6, 7, 8, 9, 10, 11, 12, 13, 15, 106])
      (.cond (.t 106) (.seq (.reg [⟨(some 4), none, .mv (.c (.bool false)), []⟩] [4])
        (.ret))
       (.skip)))))))
  (.reg [⟨(some 67), none, .mv (.t 15), []⟩,
    ⟨(some 68), none, .bin .add (.t 67) (.c (.int .i64 1)), []⟩,
    ⟨(some 15), none, .mv (.t 68), []⟩] [5, 6, 7, 8, 9, 10, 11, 12, 13, 15]))
def A8 : AFunc := ⟨2, [.t 4], .seq (.reg [⟨(some 4), none, .mv (.c (.bool false)), []⟩] [0, 1])
 (.seq (.reg [⟨(some 19), none, .call 10 [], []⟩,
    ⟨(some 5), none, .mv (.t 19), []⟩] [0, 1, 5])
  (.seq (.reg [⟨(some 21), none, .mv (.t 0), []⟩,
     ⟨(some 22), none, .mv (.t 1), []⟩,
     ⟨(some 23), none, .call 11 [(.t 21), (.t 22)], []⟩,
     ⟨(some 20), none, .mv (.t 23), []⟩,
     ⟨(some 24), none, .ext (.t 20) 0, []⟩,
     ⟨(some 25), none, .ext (.t 20) 1, []⟩,
     ⟨(some 6), none, .mv (.t 24), []⟩,
     ⟨(some 7), none, .mv (.t 25), []⟩] [5, 6, 7])
   (.seq (.reg [⟨(some 27), none, .mv (.t 6), []⟩,
      ⟨(some 28), none, .mv (.t 7), []⟩,
      ⟨(some 29), none, .call 21 [(.t 27), (.t 28)], []⟩,
      ⟨(some 26), none, .mv (.t 29), []⟩,
      ⟨(some 30), none, .ext (.t 26) 0, []⟩,
      ⟨(some 31), none, .ext (.t 26) 1, []⟩,
      ⟨(some 8), none, .mv (.t 30), []⟩,
      ⟨(some 9), none, .mv (.t 31), []⟩] [5, 6, 7, 8, 9])
    (.seq (.reg [⟨(some 33), none, .mv (.t 6), []⟩,
       ⟨(some 34), none, .call 12 [(.t 33)], []⟩,
       ⟨(some 32), none, .mv (.t 34), []⟩,
       ⟨(some 35), none, .ext (.t 32) 0, []⟩,
       ⟨(some 36), none, .ext (.t 32) 1, []⟩,
       ⟨(some 10), none, .mv (.t 35), []⟩,
       ⟨(some 11), none, .mv (.t 36), []⟩] [5, 6, 7, 8, 9, 10, 11])
     (.seq (.reg [⟨(some 12), none, .mv (.c (.int .i64 0)), []⟩] [5, 6, 7, 8, 9, 10, 11, 12])
      (.seq (.reg [⟨(some 13), none, .mv (.c (.sl 1 [] .nil)), []⟩] [5, 6, 7, 8, 9, 10, 11, 12, 13])
       (.seq (.seq (.reg [⟨(some 14), none, .mv (.c (.int .i64 0)), []⟩] [5, 6, 7, 8, 9, 10, 11, 12, 13, 14])
         (.blk 0 (.loop L8x0)))
        (.seq (.seq (.reg [⟨(some 15), none, .mv (.c (.int .i64 0)), []⟩] [5, 6, 7, 8, 9, 10, 11, 12, 13, 15])
          (.blk 2 (.loop L8x3)))
         (.seq (.reg [⟨(some 107), none, .mv (.t 5), []⟩,
            ⟨(some 108), none, .mv (.t 107), []⟩,
            ⟨(some 109), some (108, true), .mv (.t 9), []⟩,
            ⟨(some 110), some (108, true), .bin .eql (.t 109) (.c (.int .i64 0)), []⟩,
            ⟨(some 111), none, .pick (.t 108) (.t 110) (.c (.bool false)), []⟩,
            ⟨(some 112), none, .mv (.t 111), []⟩,
            ⟨(some 113), some (112, true), .mv (.t 10), []⟩,
            ⟨(some 114), some (112, true), .mv (.t 7), []⟩,
            ⟨(some 115), some (112, true), .len false (.t 114), []⟩,
            ⟨(some 116), some (112, true), .bin .eql (.t 113) (.t 115), []⟩,
            ⟨(some 117), none, .pick (.t 112) (.t 116) (.c (.bool false)), []⟩,
            ⟨(some 118), none, .mv (.t 117), []⟩,
            ⟨(some 119), some (118, true), .mv (.t 11), []⟩,
            ⟨(some 120), some (118, true), .mv (.t 8), []⟩,
            ⟨(some 121), some (118, true), .len false (.t 120), []⟩,
            ⟨(some 122), some (118, true), .bin .eql (.t 119) (.t 121), []⟩,
            ⟨(some 123), none, .pick (.t 118) (.t 122) (.c (.bool false)), []⟩,
            ⟨(some 124), none, .mv (.t 123), []⟩,
            ⟨(some 125), some (124, true), .mv (.t 10), []⟩,
            ⟨(some 126), some (124, true), .mv (.t 11), []⟩,
            ⟨(some 127), some (124, true), .bin .add (.t 125) (.t 126), []⟩,
            ⟨(some 128), some (124, true), .mv (.t 6), []⟩,
            ⟨(some 129), some (124, true), .call 18 [(.t 128)], []⟩,
            ⟨(some 130), some (124, true), .mv (.t 12), []⟩,
            ⟨(some 131), some (124, true), .bin .mul (.c (.int .i64 2)) (.t 130), []⟩,
            ⟨(some 132), some (124, true), .bin .add (.t 129) (.t 131), []⟩,
            ⟨(some 133), some (124, true), .bin .eql (.t 127) (.t 132), []⟩,
            ⟨(some 134), none, .pick (.t 124) (.t 133) (.c (.bool false)), []⟩,
            ⟨(some 4), none, .mv (.t 134), []⟩] [4])
          (.ret))))))))))⟩
theorem c8 : cmpF Tryd.prog ⟨[(33, 2), (35, 3), (42, 1)], false⟩ Tryd.f8 K8 = some A8 := by kernel_rfl
/-- collator/collatorlaw04.ScriptFits -/
def K9 : List (List Nat) := [[0, 1, 2], [0, 1, 2, 7], [1, 2, 7, 8], [7, 8, 10], [7, 8, 10, 11], [7, 8, 10, 11, 13, 14], [7, 8, 10, 11, 13, 14, 15, 16], [7, 8, 13, 14, 15, 16, 17], [6]]
def A9 : AFunc := ⟨3, [.t 6], .seq (.reg [⟨(some 6), none, .mv (.c (.bool false)), []⟩] [0, 1, 2])
 (.seq (.reg [⟨(some 18), none, .call 10 [], []⟩,
    ⟨(some 7), none, .mv (.t 18), []⟩] [0, 1, 2, 7])
  (.seq (.reg [⟨(some 20), none, .mv (.t 0), []⟩,
     ⟨(some 21), none, .call 11 [(.t 20), (.c (.sl 1 [] .nil))], []⟩,
     ⟨(some 19), none, .mv (.t 21), []⟩,
     ⟨(some 22), none, .ext (.t 19) 0, []⟩,
     ⟨(some 23), none, .ext (.t 19) 1, []⟩,
     ⟨(some 8), none, .mv (.t 22), []⟩,
     ⟨(some 9), none, .mv (.t 23), []⟩] [1, 2, 7, 8])
   (.seq (.reg [⟨(some 24), none, .mv (.t 1), []⟩,
      ⟨(some 25), none, .mv (.t 2), []⟩,
      ⟨(some 26), none, .call 27 [(.t 25), (.c (.int .i64 30))], []⟩,
      ⟨(some 27), none, .call 31 [(.t 24), (.t 26)], []⟩,
      ⟨(some 10), none, .mv (.t 27), []⟩] [7, 8, 10])
    (.seq (.reg [⟨(some 29), none, .mv (.t 8), []⟩,
       ⟨(some 30), none, .call 12 [(.t 29)], []⟩,
       ⟨(some 28), none, .mv (.t 30), []⟩,
       ⟨(some 31), none, .ext (.t 28) 0, []⟩,
       ⟨(some 32), none, .ext (.t 28) 1, []⟩,
       ⟨(some 11), none, .mv (.t 31), []⟩,
       ⟨(some 12), none, .mv (.t 32), []⟩] [7, 8, 10, 11])
     (.seq (.reg [⟨(some 34), none, .mv (.t 8), []⟩,
        ⟨(some 35), none, .mv (.t 10), []⟩,
        ⟨(some 36), none, .call 21 [(.t 34), (.t 35)], []⟩,
        ⟨(some 33), none, .mv (.t 36), []⟩,
        ⟨(some 37), none, .ext (.t 33) 0, []⟩,
        ⟨(some 38), none, .ext (.t 33) 1, []⟩,
        ⟨(some 13), none, .mv (.t 37), []⟩,
        ⟨(some 14), none, .mv (.t 38), []⟩] [7, 8, 10, 11, 13, 14])
      (.seq (.reg [⟨(some 40), none, .mv (.t 8), []⟩,
         ⟨(some 41), none, .mv (.t 10), []⟩,
         ⟨(some 42), none, .call 23 [(.t 40), (.t 41)], []⟩,
         ⟨(some 39), none, .mv (.t 42), []⟩,
         ⟨(some 43), none, .ext (.t 39) 0, []⟩,
         ⟨(some 44), none, .ext (.t 39) 1, []⟩,
         ⟨(some 15), none, .mv (.t 43), []⟩,
         ⟨(some 16), none, .mv (.t 44), []⟩] [7, 8, 10, 11, 13, 14, 15, 16])
       (.seq (.reg [⟨(some 45), none, .mv (.t 11), []⟩,
          ⟨(some 46), none, .mv (.t 10), []⟩,
          ⟨(some 47), none, .len false (.t 46), []⟩,
          ⟨(some 48), none, .bin .eql (.t 45) (.t 47), []⟩,
          ⟨(some 17), none, .mv (.t 48), []⟩] [7, 8, 13, 14, 15, 16, 17])
        (.seq (.reg [⟨(some 49), none, .mv (.t 7), []⟩,
           ⟨(some 50), none, .mv (.t 49), []⟩,
           ⟨(some 51), some (50, true), .mv (.t 8), []⟩,
           ⟨(some 52), some (50, true), .call 16 [(.t 51)], []⟩,
           ⟨(some 53), none, .pick (.t 50) (.t 52) (.c (.bool false)), []⟩,
           ⟨(some 54), none, .mv (.t 53), []⟩,
           ⟨(some 55), some (54, true), .mv (.t 14), []⟩,
           ⟨(some 56), some (54, true), .bin .eql (.t 55) (.c (.int .i64 0)), []⟩,
           ⟨(some 57), some (54, true), .mv (.t 17), []⟩,
           ⟨(some 58), some (54, true), .eqv false none (.t 56) (.t 57), []⟩,
           ⟨(some 59), none, .pick (.t 54) (.t 58) (.c (.bool false)), []⟩,
           ⟨(some 60), none, .mv (.t 59), []⟩,
           ⟨(some 61), some (60, true), .mv (.t 14), []⟩,
           ⟨(some 62), some (60, true), .mv (.t 16), []⟩,
           ⟨(some 63), some (60, true), .bin .eql (.t 61) (.t 62), []⟩,
           ⟨(some 64), none, .pick (.t 60) (.t 63) (.c (.bool false)), []⟩,
           ⟨(some 65), none, .mv (.t 64), []⟩,
           ⟨(some 66), some (65, true), .mv (.t 17), []⟩,
           ⟨(some 67), some (65, true), .mv (.t 66), []⟩,
           ⟨(some 68), some (67, false), .mv (.t 14), []⟩,
           ⟨(some 69), some (67, false), .bin .eql (.t 68) (.c (.int .i64 11)), []⟩,
           ⟨(some 70), some (67, false), .mv (.t 69), []⟩,
           ⟨(some 71), some (70, true), .mv (.t 13), []⟩,
           ⟨(some 72), some (70, true), .len false (.t 71), []⟩,
           ⟨(some 73), some (70, true), .bin .eql (.t 72) (.c (.int .i64 0)), []⟩,
           ⟨(some 74), some (67, false), .pick (.t 70) (.t 73) (.c (.bool false)), []⟩,
           ⟨(some 75), some (67, false), .mv (.t 74), []⟩,
           ⟨(some 76), some (75, true), .mv (.t 15), []⟩,
           ⟨(some 77), some (75, true), .len false (.t 76), []⟩,
           ⟨(some 78), some (75, true), .bin .eql (.t 77) (.c (.int .i64 0)), []⟩,
           ⟨(some 79), some (67, false), .pick (.t 75) (.t 78) (.c (.bool false)), []⟩,
           ⟨(some 80), some (65, true), .pick (.t 67) (.c (.bool true)) (.t 79), []⟩,
           ⟨(some 81), none, .pick (.t 65) (.t 80) (.c (.bool false)), []⟩,
           ⟨(some 6), none, .mv (.t 81), []⟩] [6])
         (.ret)))))))))⟩
theorem c9 : cmpF Tryd.prog ⟨[(33, 2), (35, 3), (42, 1)], false⟩ Tryd.f9 K9 = some A9 := by kernel_rfl
/-- collator/collatorlaw04.awake -/
def K10 : List (List Nat) := [[], [1], [1, 2], [1, 2, 3, 4], [1, 2, 3, 4, 5, 6], [1, 2, 3, 4, 5, 6, 7, 8], [1, 3, 4, 5, 6, 7, 8, 9, 10], [1, 3, 4, 5, 6, 7, 8, 9, 10, 12], [1, 3, 4, 5, 6, 7, 8, 9, 10, 12, 14], [1, 3, 4, 5, 6, 7, 8, 9, 10, 12, 14, 16], [1, 3, 4, 5, 6, 7, 8, 9, 10, 12, 14, 16, 17, 18], [0]]
def A10 : AFunc := ⟨0, [.t 0], .seq (.reg [⟨(some 0), none, .mv (.c (.bool false)), []⟩] [])
 (.seq (.reg [⟨(some 19), none, .agg [(.int .i64 0), (.int .i64 0), (.sl 1 [] .nil)] [(0, 1, (.c (.int .i64 1))), (1, 1, (.c (.int .i64 1)))], []⟩,
    ⟨(some 20), none, .agg [(.int .i64 0), (.int .i64 0), (.sl 1 [] .nil)] [(0, 1, (.c (.int .i64 2))), (1, 1, (.c (.int .i64 1)))], []⟩,
    ⟨(some 21), none, .mks 1 1 false [(.str [])] [(0, (.c (.str [120])))], []⟩,
    ⟨(some 22), none, .agg [(.int .i64 0), (.int .i64 0), (.sl 1 [] .nil)] [(0, 1, (.c (.int .i64 3))), (1, 1, (.c (.int .i64 1))), (2, 1, (.t 21))], []⟩,
    ⟨(some 23), none, .mks 3 3 true [(.int .i64 0), (.int .i64 0), (.sl 1 [] .nil)] [(0, (.t 19)), (1, (.t 20)), (2, (.t 22))], []⟩,
    ⟨(some 1), none, .mv (.t 23), []⟩] [1])
  (.seq (.reg [⟨(some 24), none, .mks 2 1 false [(.str [])] [(0, (.c (.str [97]))), (1, (.c (.str [98])))], []⟩,
     ⟨(some 2), none, .mv (.t 24), []⟩] [1, 2])
   (.seq (.reg [⟨(some 26), none, .mv (.t 1), []⟩,
      ⟨(some 27), none, .mv (.t 2), []⟩,
      ⟨(some 28), none, .call 21 [(.t 26), (.t 27)], []⟩,
      ⟨(some 25), none, .mv (.t 28), []⟩,
      ⟨(some 29), none, .ext (.t 25) 0, []⟩,
      ⟨(some 30), none, .ext (.t 25) 1, []⟩,
      ⟨(some 3), none, .mv (.t 29), []⟩,
      ⟨(some 4), none, .mv (.t 30), []⟩] [1, 2, 3, 4])
    (.seq (.reg [⟨(some 32), none, .mv (.t 1), []⟩,
       ⟨(some 33), none, .call 14 [(.t 32)], []⟩,
       ⟨(some 31), none, .mv (.t 33), []⟩,
       ⟨(some 34), none, .ext (.t 31) 0, []⟩,
       ⟨(some 35), none, .ext (.t 31) 1, []⟩,
       ⟨(some 5), none, .mv (.t 34), []⟩,
       ⟨(some 6), none, .mv (.t 35), []⟩] [1, 2, 3, 4, 5, 6])
     (.seq (.reg [⟨(some 37), none, .call 28 [(.c (.str [61, 49, 59, 45, 49, 59, 43, 49, 59, 49, 58, 120]))], []⟩,
        ⟨(some 36), none, .mv (.t 37), []⟩,
        ⟨(some 38), none, .ext (.t 36) 0, []⟩,
        ⟨(some 39), none, .ext (.t 36) 1, []⟩,
        ⟨(some 7), none, .mv (.t 38), []⟩,
        ⟨(some 8), none, .mv (.t 39), []⟩] [1, 2, 3, 4, 5, 6, 7, 8])
      (.seq (.reg [⟨(some 41), none, .mv (.t 1), []⟩,
         ⟨(some 42), none, .mv (.t 2), []⟩,
         ⟨(some 43), none, .call 23 [(.t 41), (.t 42)], []⟩,
         ⟨(some 40), none, .mv (.t 43), []⟩,
         ⟨(some 44), none, .ext (.t 40) 0, []⟩,
         ⟨(some 45), none, .ext (.t 40) 1, []⟩,
         ⟨(some 9), none, .mv (.t 44), []⟩,
         ⟨(some 10), none, .mv (.t 45), []⟩] [1, 3, 4, 5, 6, 7, 8, 9, 10])
       (.seq (.reg [⟨(some 47), none, .mv (.t 1), []⟩,
          ⟨(some 48), none, .call 21 [(.t 47), (.c (.sl 1 [] .nil))], []⟩,
          ⟨(some 46), none, .mv (.t 48), []⟩,
          ⟨(some 49), none, .ext (.t 46) 0, []⟩,
          ⟨(some 50), none, .ext (.t 46) 1, []⟩,
          ⟨(some 11), none, .mv (.t 49), []⟩,
          ⟨(some 12), none, .mv (.t 50), []⟩] [1, 3, 4, 5, 6, 7, 8, 9, 10, 12])
        (.seq (.reg [⟨(some 52), none, .agg [(.int .i64 0), (.int .i64 0), (.sl 1 [] .nil)] [], []⟩,
           ⟨(some 53), none, .mks 1 3 true [(.int .i64 0), (.int .i64 0), (.sl 1 [] .nil)] [(0, (.t 52))], []⟩,
           ⟨(some 54), none, .call 21 [(.t 53), (.c (.sl 1 [] .nil))], []⟩,
           ⟨(some 51), none, .mv (.t 54), []⟩,
           ⟨(some 55), none, .ext (.t 51) 0, []⟩,
           ⟨(some 56), none, .ext (.t 51) 1, []⟩,
           ⟨(some 13), none, .mv (.t 55), []⟩,
           ⟨(some 14), none, .mv (.t 56), []⟩] [1, 3, 4, 5, 6, 7, 8, 9, 10, 12, 14])
         (.seq (.reg [⟨(some 58), none, .call 28 [(.c (.str [61, 48, 49, 59]))], []⟩,
            ⟨(some 57), none, .mv (.t 58), []⟩,
            ⟨(some 59), none, .ext (.t 57) 0, []⟩,
            ⟨(some 60), none, .ext (.t 57) 1, []⟩,
            ⟨(some 15), none, .mv (.t 59), []⟩,
            ⟨(some 16), none, .mv (.t 60), []⟩] [1, 3, 4, 5, 6, 7, 8, 9, 10, 12, 14, 16])
          (.seq (.reg [⟨(some 62), none, .mv (.t 1), []⟩,
             ⟨(some 63), none, .call 12 [(.t 62)], []⟩,
             ⟨(some 61), none, .mv (.t 63), []⟩,
             ⟨(some 64), none, .ext (.t 61) 0, []⟩,
             ⟨(some 65), none, .ext (.t 61) 1, []⟩,
             ⟨(some 17), none, .mv (.t 64), []⟩,
             ⟨(some 18), none, .mv (.t 65), []⟩] [1, 3, 4, 5, 6, 7, 8, 9, 10, 12, 14, 16, 17, 18])
           (.seq (.regD [⟨(some 66), none, .mv (.t 4), []⟩,
              ⟨(some 67), none, .bin .eql (.t 66) (.c (.int .i64 0)), []⟩,
              ⟨(some 68), none, .mv (.t 67), []⟩,
              ⟨(some 69), some (68, true), .mv (.t 3), []⟩,
              ⟨(some 70), some (68, true), .mks 2 1 false [(.str [])] [(0, (.c (.str [97]))), (1, (.c (.str [120])))], []⟩,
              ⟨(some 71), some (68, true), .call 25 [(.t 69), (.t 70)], []⟩,
              ⟨(some 72), none, .pick (.t 68) (.t 71) (.c (.bool false)), [5]⟩,
              ⟨(some 73), none, .mv (.t 72), [5]⟩,
              ⟨(some 74), some (73, true), .mv (.t 6), [5]⟩,
              ⟨(some 75), some (73, true), .bin .eql (.t 74) (.c (.int .i64 0)), [5]⟩,
              ⟨(some 76), none, .pick (.t 73) (.t 75) (.c (.bool false)), [5]⟩,
              ⟨(some 77), none, .mv (.t 76), [5]⟩,
              ⟨(some 78), some (77, true), .mv (.t 5), [5]⟩,
              ⟨(some 79), some (77, true), .bin .eql (.t 78) (.c (.str [61, 49, 59, 45, 49, 59, 43, 49, 59, 49, 58, 120])), [5]⟩,
              ⟨(some 80), none, .pick (.t 77) (.t 79) (.c (.bool false)), [5]⟩,
              ⟨(some 81), none, .mv (.t 80), [5]⟩,
              ⟨(some 82), some (81, true), .mv (.t 8), [5]⟩,
              ⟨(some 83), some (81, true), .bin .eql (.t 82) (.c (.int .i64 0)), [5]⟩,
              ⟨(some 84), none, .pick (.t 81) (.t 83) (.c (.bool false)), [5]⟩,
              ⟨(some 85), none, .mv (.t 84), [5]⟩,
              ⟨(some 86), some (85, true), .mv (.t 7), [5]⟩,
              ⟨(some 87), some (85, true), .mv (.t 1), [5]⟩,
              ⟨(some 88), some (85, true), .call 26 [(.t 86), (.t 87)], [5]⟩,
              ⟨(some 89), none, .pick (.t 85) (.t 88) (.c (.bool false)), [22, 5]⟩,
              ⟨(some 90), none, .mv (.t 89), [22, 5]⟩,
              ⟨(some 91), some (90, true), .mv (.t 10), [22, 5]⟩,
              ⟨(some 92), some (90, true), .bin .eql (.t 91) (.c (.int .i64 0)), [22, 5]⟩,
              ⟨(some 93), none, .pick (.t 90) (.t 92) (.c (.bool false)), [22, 5]⟩,
              ⟨(some 94), none, .mv (.t 93), [22, 5]⟩,
              ⟨(some 95), some (94, true), .mv (.t 9), [22, 5]⟩,
              ⟨(some 96), some (94, true), .agg [(.int .i64 0), (.int .i64 0), (.sl 1 [] .nil)] [(0, 1, (.c (.int .i64 1))), (1, 1, (.c (.int .i64 1)))], [22, 5]⟩,
              ⟨(some 97), some (94, true), .agg [(.int .i64 0), (.int .i64 0), (.sl 1 [] .nil)] [(0, 1, (.c (.int .i64 2))), (1, 1, (.c (.int .i64 1)))], [22, 5]⟩,
              ⟨(some 98), some (94, true), .mks 1 1 false [(.str [])] [(0, (.c (.str [98])))], [22, 5]⟩,
              ⟨(some 99), some (94, true), .agg [(.int .i64 0), (.int .i64 0), (.sl 1 [] .nil)] [(0, 1, (.c (.int .i64 3))), (1, 1, (.c (.int .i64 1))), (2, 1, (.t 98))], [22, 5]⟩,
              ⟨(some 100), some (94, true), .mks 3 3 true [(.int .i64 0), (.int .i64 0), (.sl 1 [] .nil)] [(0, (.t 96)), (1, (.t 97)), (2, (.t 99))], [22, 5]⟩,
              ⟨(some 101), some (94, true), .call 26 [(.t 95), (.t 100)], [22, 5]⟩,
              ⟨(some 102), none, .pick (.t 94) (.t 101) (.c (.bool false)), [35, 22, 5]⟩,
              ⟨(some 103), none, .mv (.t 102), [35, 22, 5]⟩,
              ⟨(some 104), some (103, true), .mv (.t 12), [35, 22, 5]⟩,
              ⟨(some 105), some (103, true), .bin .eql (.t 104) (.c (.int .i64 11)), [35, 22, 5]⟩,
              ⟨(some 106), none, .pick (.t 103) (.t 105) (.c (.bool false)), [35, 22, 5]⟩,
              ⟨(some 107), none, .mv (.t 106), [35, 22, 5]⟩,
              ⟨(some 108), some (107, true), .mv (.t 14), [35, 22, 5]⟩,
              ⟨(some 109), some (107, true), .bin .eql (.t 108) (.c (.int .i64 1)), [35, 22, 5]⟩,
              ⟨(some 110), none, .pick (.t 107) (.t 109) (.c (.bool false)), [35, 22, 5]⟩,
              ⟨(some 111), none, .mv (.t 110), [35, 22, 5]⟩,
              ⟨(some 112), some (111, true), .mv (.t 16), [35, 22, 5]⟩,
              ⟨(some 113), some (111, true), .bin .eql (.t 112) (.c (.int .i64 11)), [35, 22, 5]⟩,
              ⟨(some 114), none, .pick (.t 111) (.t 113) (.c (.bool false)), [35, 22, 5]⟩,
              ⟨(some 115), none, .mv (.t 114), [35, 22, 5]⟩,
              ⟨(some 116), some (115, true), .mv (.t 17), [35, 22, 5]⟩,
              ⟨(some 117), some (115, true), .bin .eql (.t 116) (.c (.int .i64 2)), [35, 22, 5]⟩,
              ⟨(some 118), none, .pick (.t 115) (.t 117) (.c (.bool false)), [35, 22, 5]⟩,
              ⟨(some 119), none, .mv (.t 118), [35, 22, 5]⟩,
              ⟨(some 120), some (119, true), .mv (.t 18), [35, 22, 5]⟩,
              ⟨(some 121), some (119, true), .bin .eql (.t 120) (.c (.int .i64 2)), [35, 22, 5]⟩,
              ⟨(some 122), none, .pick (.t 119) (.t 121) (.c (.bool false)), [35, 22, 5]⟩,
              ⟨(some 123), none, .mv (.t 122), [35, 22, 5]⟩,
              ⟨(some 124), some (123, true), .mv (.t 1), [35, 22, 5]⟩,
              ⟨(some 125), some (123, true), .call 18 [(.t 124)], [35, 22, 5]⟩,
              ⟨(some 126), some (123, true), .bin .eql (.t 125) (.c (.int .i64 2)), [59, 35, 22, 5]⟩,
              ⟨(some 127), none, .pick (.t 123) (.t 126) (.c (.bool false)), [35, 22, 5, 59]⟩,
              ⟨(some 128), none, .mv (.t 127), [59, 35, 22, 5]⟩,
              ⟨(some 129), some (128, true), .mv (.t 1), [59, 35, 22, 5]⟩,
              ⟨(some 130), some (128, true), .call 16 [(.t 129)], [59, 35, 22, 5]⟩,
              ⟨(some 131), none, .pick (.t 128) (.t 130) (.c (.bool false)), [64, 59, 35, 22, 5]⟩,
              ⟨(some 132), none, .mv (.t 131), [64, 59, 35, 22, 5]⟩,
              ⟨(some 133), some (132, true), .mv (.t 1), [64, 59, 35, 22, 5]⟩,
              ⟨(some 134), some (132, true), .iaddr 3 (.t 133) (.c (.int .i64 2)), [64, 59, 35, 22, 5]⟩,
              ⟨(some 135), some (132, true), .load true 3 (.t 134), [64, 59, 35, 22, 5]⟩,
              ⟨(some 136), some (132, true), .mv (.t 1), [64, 59, 35, 22, 5]⟩,
              ⟨(some 137), some (132, true), .iaddr 3 (.t 136) (.c (.int .i64 1)), [64, 59, 35, 22, 5]⟩,
              ⟨(some 138), some (132, true), .load true 3 (.t 137), [64, 59, 35, 22, 5]⟩,
              ⟨(some 139), some (132, true), .mks 2 3 true [(.int .i64 0), (.int .i64 0), (.sl 1 [] .nil)] [(0, (.t 135)), (1, (.t 138))], [64, 59, 35, 22, 5]⟩,
              ⟨(some 140), some (132, true), .call 16 [(.t 139)], [69, 72, 64, 59, 35, 22, 5]⟩,
              ⟨(some 141), some (132, true), .un .not (.t 140), [74, 64, 59, 35, 22, 5]⟩,
              ⟨(some 142), none, .pick (.t 132) (.t 141) (.c (.bool false)), [64, 59, 35, 22, 5, 74]⟩,
              ⟨(some 0), none, .mv (.t 142), [74, 5, 22, 35, 59, 64]⟩] [0])
            (.ret))))))))))))⟩
theorem c10 : cmpF Tryd.prog ⟨[(33, 2), (35, 3), (42, 1)], false⟩ Tryd.f10 K10 = some A10 := by kernel_rfl
/-- collator/collatorlaw04.Script -/
def K11 : List (List Nat) := [[0, 1], [0, 1, 6], [0, 1, 6, 7], [0, 1, 6, 7, 8], [0, 1, 6, 7, 8, 17], [0, 1, 6, 7, 8, 9], [0, 1, 6, 7, 8, 9, 36], [0, 1, 6, 7, 8, 9], [0, 1, 6, 7, 8, 9, 73], [0, 1, 6, 7, 8, 9], [0, 1, 6, 7, 8, 9, 80], [0, 1, 6, 7, 8], [0, 1, 6, 7, 8], [4, 5]]
def L11x0 : ACode := .seq (.seq (.reg [⟨(some 10), none, .mv (.t 8), []⟩,
    ⟨(some 11), none, .mv (.t 0), []⟩,
    ⟨(some 12), none, .len false (.t 11), []⟩,
    ⟨(some 13), none, .bin .lss (.t 10) (.t 12), []⟩,
    ⟨(some 14), none, .mv (.t 13), []⟩,
    ⟨(some 15), some (14, true), .mv (.t 8), []⟩,
    ⟨(some 16), some (14, true), .bin .lss (.t 15) (.c (.int .i64 10)), []⟩,
    ⟨(some 17), none, .pick (.t 14) (.t 16) (.c (.bool false)), []⟩] [0, 1, 6, 7, 8, 17])
  (.cond (.t 17) (.skip)
   (.exit 0)))
 (.seq (.blk 1 (.seq (.regD [⟨(some 20), none, .mv (.t 0), []⟩,
     ⟨(some 21), none, .mv (.t 8), []⟩,
     ⟨(some 22), none, .iaddr 1 (.t 20) (.t 21), []⟩,
     ⟨(some 23), none, .load false 1 (.t 22), []⟩,
     ⟨(some 24), none, .call 27 [(.t 23), (.c (.int .i64 3))], [3]⟩,
     ⟨(some 25), none, .bin .add (.c (.int .i64 1)) (.t 24), [4]⟩,
     ⟨(some 26), none, .mv (.t 0), []⟩,
     ⟨(some 27), none, .mv (.t 8), []⟩,
     ⟨(some 28), none, .iaddr 1 (.t 26) (.t 27), []⟩,
     ⟨(some 29), none, .load false 1 (.t 28), []⟩,
     ⟨(some 30), none, .bin .quo (.t 29) (.c (.int .i64 3)), []⟩,
     ⟨(some 31), none, .call 27 [(.t 30), (.c (.int .i64 4))], [4, 9, 3]⟩,
     ⟨(some 32), none, .bin .add (.c (.int .i64 1)) (.t 31), [11, 4]⟩,
     ⟨(some 33), none, .agg [(.int .i64 0), (.int .i64 0), (.sl 1 [] .nil)] [(0, 1, (.t 25)), (1, 1, (.t 32))], [4, 11]⟩,
     ⟨(some 9), none, .alloc [(.int .i64 0), (.int .i64 0), (.sl 1 [] .nil)], []⟩,
     ⟨none, none, .store 3 (.t 9) (.t 33), [14, 11, 3, 4, 9]⟩] [0, 1, 6, 7, 8, 9])
   (.seq (.seq (.reg [⟨(some 34), none, .faddr 0 (.t 9), []⟩,
       ⟨(some 35), none, .load false 1 (.t 34), []⟩,
       ⟨(some 36), none, .bin .eql (.t 35) (.c (.int .i64 3)), []⟩] [0, 1, 6, 7, 8, 9, 36])
     (.cond (.t 36) (.regD [⟨(some 37), none, .mv (.t 0), []⟩,
        ⟨(some 38), none, .mv (.t 8), []⟩,
        ⟨(some 39), none, .slice (some 1) (.t 37) (some (.t 38)) none none, []⟩,
        ⟨(some 40), none, .faddr 1 (.t 9), []⟩,
        ⟨(some 41), none, .load false 1 (.t 40), []⟩,
        ⟨(some 42), none, .call 31 [(.t 39), (.t 41)], [4]⟩,
        ⟨(some 43), none, .faddr 2 (.t 9), [5]⟩,
        ⟨none, none, .store 1 (.t 43) (.t 42), [5, 4]⟩] [0, 1, 6, 7, 8, 9])
      (.skip)))
    (.seq (.seq (.regD [⟨(some 44), none, .mv (.t 6), []⟩,
        ⟨(some 45), none, .len false (.t 44), []⟩,
        ⟨(some 46), none, .bin .gtr (.t 45) (.c (.int .i64 0)), []⟩,
        ⟨(some 47), none, .mv (.t 46), []⟩,
        ⟨(some 48), some (47, true), .mv (.t 6), []⟩,
        ⟨(some 49), some (47, true), .mv (.t 6), []⟩,
        ⟨(some 50), some (47, true), .len false (.t 49), []⟩,
        ⟨(some 51), some (47, true), .bin .sub (.t 50) (.c (.int .i64 1)), []⟩,
        ⟨(some 52), some (47, true), .iaddr 3 (.t 48) (.t 51), []⟩,
        ⟨(some 53), some (47, true), .faddr 0 (.t 52), []⟩,
        ⟨(some 54), some (47, true), .load false 1 (.t 53), []⟩,
        ⟨(some 55), some (47, true), .faddr 0 (.t 9), []⟩,
        ⟨(some 56), some (47, true), .load false 1 (.t 55), []⟩,
        ⟨(some 57), some (47, true), .bin .eql (.t 54) (.t 56), []⟩,
        ⟨(some 58), some (47, true), .mv (.t 57), []⟩,
        ⟨(some 59), some (58, false), .mv (.t 6), []⟩,
        ⟨(some 60), some (58, false), .mv (.t 6), []⟩,
        ⟨(some 61), some (58, false), .len false (.t 60), []⟩,
        ⟨(some 62), some (58, false), .bin .sub (.t 61) (.c (.int .i64 1)), []⟩,
        ⟨(some 63), some (58, false), .iaddr 3 (.t 59) (.t 62), []⟩,
        ⟨(some 64), some (58, false), .faddr 0 (.t 63), []⟩,
        ⟨(some 65), some (58, false), .load false 1 (.t 64), [10, 12]⟩,
        ⟨(some 66), some (58, false), .bin .eql (.t 65) (.c (.int .i64 3)), []⟩,
        ⟨(some 67), some (58, false), .mv (.t 66), []⟩,
        ⟨(some 68), some (67, true), .faddr 0 (.t 9), []⟩,
        ⟨(some 69), some (67, true), .load false 1 (.t 68), [21, 10, 12]⟩,
        ⟨(some 70), some (67, true), .bin .eql (.t 69) (.c (.int .i64 2)), []⟩,
        ⟨(some 71), some (58, false), .pick (.t 67) (.t 70) (.c (.bool false)), []⟩,
        ⟨(some 72), some (47, true), .pick (.t 58) (.c (.bool true)) (.t 71), []⟩,
        ⟨(some 73), none, .pick (.t 47) (.t 72) (.c (.bool false)), []⟩] [0, 1, 6, 7, 8, 9, 73])
      (.cond (.t 73) (.exit 1)
       (.skip)))
     (.seq (.reg [⟨(some 74), none, .mv (.t 6), []⟩,
        ⟨(some 75), none, .load true 3 (.t 9), []⟩,
        ⟨(some 76), none, .mks 1 3 true [(.int .i64 0), (.int .i64 0), (.sl 1 [] .nil)] [(0, (.t 75))], []⟩,
        ⟨(some 77), none, .app none 3 40 (.t 74) (.t 76), []⟩,
        ⟨(some 6), none, .mv (.t 77), []⟩] [0, 1, 6, 7, 8, 9])
      (.seq (.reg [⟨(some 78), none, .faddr 0 (.t 9), []⟩,
         ⟨(some 79), none, .load false 1 (.t 78), []⟩,
         ⟨(some 80), none, .bin .neq (.t 79) (.c (.int .i64 3)), []⟩] [0, 1, 6, 7, 8, 9, 80])
       (.cond (.t 80) (.reg [⟨(some 81), none, .mv (.t 7), []⟩,
          ⟨(some 82), none, .faddr 1 (.t 9), []⟩,
          ⟨(some 83), none, .load false 1 (.t 82), []⟩,
          ⟨(some 84), none, .bin .add (.t 81) (.t 83), []⟩,
          ⟨(some 7), none, .mv (.t 84), []⟩] [0, 1, 6, 7, 8])
        (.skip))))))))
  (.reg [⟨(some 18), none, .mv (.t 8), []⟩,
    ⟨(some 19), none, .bin .add (.t 18) (.c (.int .i64 1)), []⟩,
    ⟨(some 8), none, .mv (.t 19), []⟩] [0, 1, 6, 7, 8]))
def A11 : AFunc := ⟨2, [.t 4, .t 5], .seq (.reg [⟨(some 4), none, .mv (.c (.sl 3 [] .nil)), []⟩,
   ⟨(some 5), none, .mv (.c (.sl 1 [] .nil)), []⟩] [0, 1])
 (.seq (.reg [⟨(some 6), none, .mv (.c (.sl 3 [] .nil)), []⟩] [0, 1, 6])
  (.seq (.reg [⟨(some 7), none, .mv (.c (.int .i64 0)), []⟩] [0, 1, 6, 7])
   (.seq (.seq (.reg [⟨(some 8), none, .mv (.c (.int .i64 0)), []⟩] [0, 1, 6, 7, 8])
     (.blk 0 (.loop L11x0)))
    (.seq (.reg [⟨(some 85), none, .mv (.t 6), []⟩,
       ⟨(some 86), none, .mv (.t 1), []⟩,
       ⟨(some 87), none, .mv (.t 7), []⟩,
       ⟨(some 88), none, .call 31 [(.t 86), (.t 87)], []⟩,
       ⟨(some 4), none, .mv (.t 85), []⟩,
       ⟨(some 5), none, .mv (.t 88), []⟩] [4, 5])
     (.ret)))))⟩
theorem c11 : cmpF Tryd.prog ⟨[(33, 2), (35, 3), (42, 1)], false⟩ Tryd.f11 K11 = some A11 := by kernel_rfl
/-- collator/script.Spans -/
def K12 : List (List Nat) := [[0, 2, 3], [0, 2, 3, 8], [2, 3], [2, 3, 9, 10, 11], [2, 3, 9, 10, 11, 12], [2, 3, 5, 9, 10, 11], [2, 3, 5, 9, 10, 11, 16], [2, 3, 5, 9, 10, 11, 16, 17], [2, 3, 5, 9, 10, 11, 19], [2, 3, 5, 9, 10, 11], [2, 3, 9, 10, 11], [2, 3, 9, 10, 11], [2, 3, 9, 10, 11], [2, 3]]
def L12x0 : ACode := .seq (.reg [⟨(some 12), none, .bin .lss (.t 11) (.t 10), []⟩] [2, 3, 9, 10, 11, 12])
 (.seq (.cond (.t 12) (.skip)
   (.exit 0))
  (.seq (.blk 1 (.seq (.reg [⟨(some 13), none, .iaddr 3 (.t 9) (.t 11), []⟩,
      ⟨(some 14), none, .load true 3 (.t 13), []⟩,
      ⟨(some 5), none, .alloc [(.int .i64 0), (.int .i64 0), (.sl 1 [] .nil)], []⟩,
      ⟨none, none, .store 3 (.t 5) (.t 14), []⟩] [2, 3, 5, 9, 10, 11])
    (.seq (.reg [⟨(some 15), none, .faddr 0 (.t 5), []⟩,
       ⟨(some 16), none, .load false 1 (.t 15), []⟩] [2, 3, 5, 9, 10, 11, 16])
     (.blk 2 (.seq (.blk 5 (.seq (.blk 4 (.seq (.blk 3 (.seq (.seq (.seq (.reg [⟨(some 18), none, .bin .eql (.t 16) (.c (.int .i64 1)), []⟩,
             ⟨(some 17), none, .mv (.t 18), []⟩] [2, 3, 5, 9, 10, 11, 16, 17])
           (.cond (.t 17) (.exit 3)
            (.skip)))
          (.seq (.reg [⟨(some 20), none, .bin .eql (.t 16) (.c (.int .i64 3)), []⟩,
             ⟨(some 19), none, .mv (.t 20), []⟩] [2, 3, 5, 9, 10, 11, 19])
           (.cond (.t 19) (.exit 4)
            (.skip))))
         (.exit 5)))
        (.reg [⟨(some 21), none, .mv (.t 2), []⟩,
          ⟨(some 22), none, .faddr 1 (.t 5), []⟩,
          ⟨(some 23), none, .load false 1 (.t 22), []⟩,
          ⟨(some 24), none, .bin .add (.t 21) (.t 23), []⟩,
          ⟨(some 2), none, .mv (.t 24), []⟩] [2, 3, 5, 9, 10, 11])))
       (.seq (.reg [⟨(some 25), none, .mv (.t 3), []⟩,
          ⟨(some 26), none, .faddr 1 (.t 5), []⟩,
          ⟨(some 27), none, .load false 1 (.t 26), []⟩,
          ⟨(some 28), none, .bin .add (.t 25) (.t 27), []⟩,
          ⟨(some 3), none, .mv (.t 28), []⟩] [2, 3, 9, 10, 11])
        (.exit 2))))
      (.seq (.reg [⟨(some 29), none, .mv (.t 2), []⟩,
         ⟨(some 30), none, .faddr 1 (.t 5), []⟩,
         ⟨(some 31), none, .load false 1 (.t 30), []⟩,
         ⟨(some 32), none, .bin .add (.t 29) (.t 31), []⟩,
         ⟨(some 2), none, .mv (.t 32), []⟩] [2, 3, 9, 10, 11])
       (.exit 2)))))))
   (.reg [⟨(some 33), none, .bin .add (.t 11) (.c (.int .i64 1)), []⟩,
     ⟨(some 11), none, .mv (.t 33), []⟩] [2, 3, 9, 10, 11])))
def A12 : AFunc := ⟨1, [.t 2, .t 3], .seq (.reg [⟨(some 2), none, .mv (.c (.int .i64 0)), []⟩,
   ⟨(some 3), none, .mv (.c (.int .i64 0)), []⟩] [0, 2, 3])
 (.seq (.seq (.reg [⟨(some 6), none, .mv (.t 0), []⟩,
     ⟨(some 7), none, .call 16 [(.t 6)], []⟩,
     ⟨(some 8), none, .un .not (.t 7), []⟩] [0, 2, 3, 8])
   (.cond (.t 8) (.seq (.reg [⟨(some 2), none, .mv (.c (.int .i64 0)), []⟩,
       ⟨(some 3), none, .mv (.c (.int .i64 0)), []⟩] [2, 3])
     (.ret))
    (.skip)))
  (.seq (.seq (.reg [⟨(some 9), none, .mv (.t 0), []⟩,
      ⟨(some 10), none, .len false (.t 9), []⟩,
      ⟨(some 11), none, .mv (.c (.int .i64 0)), []⟩] [2, 3, 9, 10, 11])
    (.blk 0 (.loop L12x0)))
   (.seq (.reg [⟨(some 34), none, .mv (.t 2), []⟩,
      ⟨(some 35), none, .mv (.t 3), []⟩,
      ⟨(some 2), none, .mv (.t 34), []⟩,
      ⟨(some 3), none, .mv (.t 35), []⟩] [2, 3])
    (.ret))))⟩
theorem c12 : cmpF Tryd.prog ⟨[(33, 2), (35, 3), (42, 1)], false⟩ Tryd.f12 K12 = some A12 := by kernel_rfl
/-- collator/collatorref04.Spans -/
def K13 : List (List Nat) := [[0], [0, 4], [0, 8], [2, 3], [2, 3]]
def A13 : AFunc := ⟨1, [.t 2, .t 3], .seq (.reg [⟨(some 2), none, .mv (.c (.int .i64 0)), []⟩,
   ⟨(some 3), none, .mv (.c (.int .i64 0)), []⟩] [0])
 (.seq (.reg [⟨(some 5), none, .mv (.t 0), []⟩,
    ⟨(some 6), none, .call 17 [(.t 5)], []⟩,
    ⟨(some 4), none, .mv (.t 6), []⟩] [0, 4])
  (.seq (.seq (.reg [⟨(some 7), none, .mv (.t 4), []⟩,
      ⟨(some 8), none, .un .not (.t 7), []⟩] [0, 8])
    (.cond (.t 8) (.seq (.reg [⟨(some 2), none, .mv (.c (.int .i64 0)), []⟩,
        ⟨(some 3), none, .mv (.c (.int .i64 0)), []⟩] [2, 3])
      (.ret))
     (.skip)))
   (.seq (.reg [⟨(some 9), none, .mv (.t 0), []⟩,
      ⟨(some 10), none, .call 32 [(.t 9), (.c (.int .i64 1)), (.c (.int .i64 2))], []⟩,
      ⟨(some 11), none, .mv (.t 0), []⟩,
      ⟨(some 12), none, .call 32 [(.t 11), (.c (.int .i64 1)), (.c (.int .i64 3))], []⟩,
      ⟨(some 2), none, .mv (.t 10), []⟩,
      ⟨(some 3), none, .mv (.t 12), []⟩] [2, 3])
    (.ret))))⟩
theorem c13 : cmpF Tryd.prog ⟨[(33, 2), (35, 3), (42, 1)], false⟩ Tryd.f13 K13 = some A13 := by kernel_rfl
/-- collator/script.Encode -/
def K14 : List (List Nat) := [[0], [0, 11], [2, 3], [0, 4], [4, 12, 13, 14], [4, 12, 13, 14, 15], [4, 6, 12, 13, 14], [4, 6, 12, 13, 14], [4, 12, 13, 14, 31, 32, 33], [4, 12, 13, 14, 31, 32, 33, 34], [4, 8, 12, 13, 14, 31, 32, 33], [4, 12, 13, 14, 31, 32, 33], [4, 12, 13, 14, 31, 32, 33], [4, 12, 13, 14], [2, 3]]
def L14x0 : ACode := .seq (.reg [⟨(some 34), none, .bin .lss (.t 33) (.t 32), []⟩] [4, 12, 13, 14, 31, 32, 33, 34])
 (.seq (.cond (.t 34) (.skip)
   (.exit 2))
  (.seq (.blk 3 (.seq (.reg [⟨(some 35), none, .iaddr 1 (.t 31) (.t 33), []⟩,
      ⟨(some 36), none, .load false 1 (.t 35), []⟩,
      ⟨(some 8), none, .mv (.t 36), []⟩] [4, 8, 12, 13, 14, 31, 32, 33])
    (.reg [⟨(some 37), none, .mv (.t 8), []⟩,
      ⟨(some 38), none, .len true (.t 37), []⟩,
      ⟨(some 39), none, .call 34 [(.t 38)], []⟩,
      ⟨(some 40), none, .bin .add (.t 39) (.c (.str [58])), []⟩,
      ⟨(some 41), none, .mv (.t 8), []⟩,
      ⟨(some 42), none, .bin .add (.t 40) (.t 41), []⟩,
      ⟨(some 43), none, .wrs 33 (.t 4) [(.t 42)], []⟩] [4, 12, 13, 14, 31, 32, 33])))
   (.reg [⟨(some 44), none, .bin .add (.t 33) (.c (.int .i64 1)), []⟩,
     ⟨(some 33), none, .mv (.t 44), []⟩] [4, 12, 13, 14, 31, 32, 33])))
def L14x1 : ACode := .seq (.reg [⟨(some 15), none, .bin .lss (.t 14) (.t 13), []⟩] [4, 12, 13, 14, 15])
 (.seq (.cond (.t 15) (.skip)
   (.exit 0))
  (.seq (.blk 1 (.seq (.reg [⟨(some 16), none, .iaddr 3 (.t 12) (.t 14), []⟩,
      ⟨(some 17), none, .load true 3 (.t 16), []⟩,
      ⟨(some 6), none, .alloc [(.int .i64 0), (.int .i64 0), (.sl 1 [] .nil)], []⟩,
      ⟨none, none, .store 3 (.t 6) (.t 17), []⟩] [4, 6, 12, 13, 14])
    (.seq (.regD [⟨(some 18), none, .faddr 0 (.t 6), []⟩,
       ⟨(some 19), none, .load false 1 (.t 18), []⟩,
       ⟨(some 20), none, .faddr 0 (.t 6), []⟩,
       ⟨(some 21), none, .load false 1 (.t 20), []⟩,
       ⟨(some 22), none, .bin .add (.t 21) (.c (.int .i64 1)), []⟩,
       ⟨(some 23), none, .slice none (.c (.str [63, 61, 45, 43])) (some (.t 19)) (some (.t 22)) none, []⟩,
       ⟨(some 24), none, .faddr 1 (.t 6), []⟩,
       ⟨(some 25), none, .load false 1 (.t 24), []⟩,
       ⟨(some 26), none, .call 34 [(.t 25)], [7]⟩,
       ⟨(some 27), none, .bin .add (.t 23) (.t 26), [8]⟩,
       ⟨(some 28), none, .bin .add (.t 27) (.c (.str [59])), [8]⟩,
       ⟨(some 29), none, .wrs 33 (.t 4) [(.t 28)], [8, 1, 3, 7]⟩] [4, 6, 12, 13, 14])
     (.seq (.reg [⟨(some 30), none, .faddr 2 (.t 6), []⟩,
        ⟨(some 31), none, .load false 1 (.t 30), []⟩,
        ⟨(some 32), none, .len false (.t 31), []⟩,
        ⟨(some 33), none, .mv (.c (.int .i64 0)), []⟩] [4, 12, 13, 14, 31, 32, 33])
      (.blk 2 (.loop L14x0))))))
   (.reg [⟨(some 45), none, .bin .add (.t 14) (.c (.int .i64 1)), []⟩,
     ⟨(some 14), none, .mv (.t 45), []⟩] [4, 12, 13, 14])))
def A14 : AFunc := ⟨1, [.t 2, .t 3], .seq (.reg [⟨(some 2), none, .mv (.c (.str [])), []⟩,
   ⟨(some 3), none, .mv (.c (.int .i64 0)), []⟩] [0])
 (.seq (.seq (.reg [⟨(some 9), none, .mv (.t 0), []⟩,
     ⟨(some 10), none, .call 16 [(.t 9)], []⟩,
     ⟨(some 11), none, .un .not (.t 10), []⟩] [0, 11])
   (.cond (.t 11) (.seq (.reg [⟨(some 2), none, .mv (.c (.str [])), []⟩,
       ⟨(some 3), none, .mv (.c (.int .i64 1)), []⟩] [2, 3])
     (.ret))
    (.skip)))
  (.seq (.reg [⟨(some 4), none, .alloc [(.bfresh 59 0 0), (.sl 1 [] .nil)], []⟩] [0, 4])
   (.seq (.seq (.reg [⟨(some 12), none, .mv (.t 0), []⟩,
       ⟨(some 13), none, .len false (.t 12), []⟩,
       ⟨(some 14), none, .mv (.c (.int .i64 0)), []⟩] [4, 12, 13, 14])
     (.blk 0 (.loop L14x1)))
    (.seq (.reg [⟨(some 46), none, .bstr 35 (.t 4), []⟩,
       ⟨(some 2), none, .mv (.t 46), []⟩,
       ⟨(some 3), none, .mv (.c (.int .i64 0)), []⟩] [2, 3])
     (.ret)))))⟩
theorem c14 : cmpF Tryd.prog ⟨[(33, 2), (35, 3), (42, 1)], false⟩ Tryd.f14 K14 = some A14 := by kernel_rfl
/-- collator/collatorref04.Encode -/
def K15 : List (List Nat) := [[0], [0, 4], [0, 11], [2, 3], [0, 5], [0, 5, 6], [0, 5, 6, 15], [0, 5, 6], [0, 5, 6, 7], [0, 5, 6, 7, 47], [0, 5, 6, 7], [0, 5, 6, 7], [0, 5, 6], [2, 3]]
def L15x0 : ACode := .seq (.seq (.reg [⟨(some 40), none, .mv (.t 7), []⟩,
    ⟨(some 41), none, .mv (.t 0), []⟩,
    ⟨(some 42), none, .mv (.t 6), []⟩,
    ⟨(some 43), none, .iaddr 3 (.t 41) (.t 42), []⟩,
    ⟨(some 44), none, .faddr 2 (.t 43), []⟩,
    ⟨(some 45), none, .load false 1 (.t 44), []⟩,
    ⟨(some 46), none, .len false (.t 45), []⟩,
    ⟨(some 47), none, .bin .lss (.t 40) (.t 46), []⟩] [0, 5, 6, 7, 47])
  (.cond (.t 47) (.skip)
   (.exit 2)))
 (.seq (.blk 3 (.regD [⟨(some 50), none, .mv (.t 5), []⟩,
    ⟨(some 51), none, .mv (.t 0), []⟩,
    ⟨(some 52), none, .mv (.t 6), []⟩,
    ⟨(some 53), none, .iaddr 3 (.t 51) (.t 52), []⟩,
    ⟨(some 54), none, .faddr 2 (.t 53), []⟩,
    ⟨(some 55), none, .load false 1 (.t 54), []⟩,
    ⟨(some 56), none, .mv (.t 7), []⟩,
    ⟨(some 57), none, .iaddr 1 (.t 55) (.t 56), []⟩,
    ⟨(some 58), none, .load false 1 (.t 57), [5]⟩,
    ⟨(some 59), none, .len true (.t 58), []⟩,
    ⟨(some 60), none, .call 30 [(.t 59)], [8, 5]⟩,
    ⟨(some 61), none, .bin .add (.t 50) (.t 60), [10]⟩,
    ⟨(some 62), none, .bin .add (.t 61) (.c (.str [58])), [10]⟩,
    ⟨(some 63), none, .mv (.t 0), []⟩,
    ⟨(some 64), none, .mv (.t 6), []⟩,
    ⟨(some 65), none, .iaddr 3 (.t 63) (.t 64), []⟩,
    ⟨(some 66), none, .faddr 2 (.t 65), []⟩,
    ⟨(some 67), none, .load false 1 (.t 66), []⟩,
    ⟨(some 68), none, .mv (.t 7), []⟩,
    ⟨(some 69), none, .iaddr 1 (.t 67) (.t 68), []⟩,
    ⟨(some 70), none, .load false 1 (.t 69), [17]⟩,
    ⟨(some 71), none, .bin .add (.t 62) (.t 70), [10]⟩,
    ⟨(some 5), none, .mv (.t 71), [10]⟩] [0, 5, 6, 7]))
  (.reg [⟨(some 48), none, .mv (.t 7), []⟩,
    ⟨(some 49), none, .bin .add (.t 48) (.c (.int .i64 1)), []⟩,
    ⟨(some 7), none, .mv (.t 49), []⟩] [0, 5, 6, 7]))
def L15x1 : ACode := .seq (.seq (.reg [⟨(some 12), none, .mv (.t 6), []⟩,
    ⟨(some 13), none, .mv (.t 0), []⟩,
    ⟨(some 14), none, .len false (.t 13), []⟩,
    ⟨(some 15), none, .bin .lss (.t 12) (.t 14), []⟩] [0, 5, 6, 15])
  (.cond (.t 15) (.skip)
   (.exit 0)))
 (.seq (.blk 1 (.seq (.regD [⟨(some 18), none, .mv (.t 5), []⟩,
     ⟨(some 19), none, .mv (.t 0), []⟩,
     ⟨(some 20), none, .mv (.t 6), []⟩,
     ⟨(some 21), none, .iaddr 3 (.t 19) (.t 20), []⟩,
     ⟨(some 22), none, .faddr 0 (.t 21), []⟩,
     ⟨(some 23), none, .load false 1 (.t 22), []⟩,
     ⟨(some 24), none, .bin .sub (.t 23) (.c (.int .i64 1)), []⟩,
     ⟨(some 25), none, .mv (.t 0), []⟩,
     ⟨(some 26), none, .mv (.t 6), []⟩,
     ⟨(some 27), none, .iaddr 3 (.t 25) (.t 26), []⟩,
     ⟨(some 28), none, .faddr 0 (.t 27), []⟩,
     ⟨(some 29), none, .load false 1 (.t 28), []⟩,
     ⟨(some 30), none, .slice none (.c (.str [61, 45, 43])) (some (.t 24)) (some (.t 29)) none, []⟩,
     ⟨(some 31), none, .bin .add (.t 18) (.t 30), []⟩,
     ⟨(some 32), none, .mv (.t 0), []⟩,
     ⟨(some 33), none, .mv (.t 6), []⟩,
     ⟨(some 34), none, .iaddr 3 (.t 32) (.t 33), []⟩,
     ⟨(some 35), none, .faddr 1 (.t 34), []⟩,
     ⟨(some 36), none, .load false 1 (.t 35), []⟩,
     ⟨(some 37), none, .call 30 [(.t 36)], [18]⟩,
     ⟨(some 38), none, .bin .add (.t 31) (.t 37), [19]⟩,
     ⟨(some 39), none, .bin .add (.t 38) (.c (.str [59])), [19]⟩,
     ⟨(some 5), none, .mv (.t 39), [19]⟩] [0, 5, 6])
   (.seq (.reg [⟨(some 7), none, .mv (.c (.int .i64 0)), []⟩] [0, 5, 6, 7])
    (.blk 2 (.loop L15x0)))))
  (.reg [⟨(some 16), none, .mv (.t 6), []⟩,
    ⟨(some 17), none, .bin .add (.t 16) (.c (.int .i64 1)), []⟩,
    ⟨(some 6), none, .mv (.t 17), []⟩] [0, 5, 6]))
def A15 : AFunc := ⟨1, [.t 2, .t 3], .seq (.reg [⟨(some 2), none, .mv (.c (.str [])), []⟩,
   ⟨(some 3), none, .mv (.c (.int .i64 0)), []⟩] [0])
 (.seq (.reg [⟨(some 8), none, .mv (.t 0), []⟩,
    ⟨(some 9), none, .call 17 [(.t 8)], []⟩,
    ⟨(some 4), none, .mv (.t 9), []⟩] [0, 4])
  (.seq (.seq (.reg [⟨(some 10), none, .mv (.t 4), []⟩,
      ⟨(some 11), none, .un .not (.t 10), []⟩] [0, 11])
    (.cond (.t 11) (.seq (.reg [⟨(some 2), none, .mv (.c (.str [])), []⟩,
        ⟨(some 3), none, .mv (.c (.int .i64 1)), []⟩] [2, 3])
      (.ret))
     (.skip)))
   (.seq (.reg [⟨(some 5), none, .mv (.c (.str [])), []⟩] [0, 5])
    (.seq (.seq (.reg [⟨(some 6), none, .mv (.c (.int .i64 0)), []⟩] [0, 5, 6])
      (.blk 0 (.loop L15x1)))
     (.seq (.reg [⟨(some 72), none, .mv (.t 5), []⟩,
        ⟨(some 2), none, .mv (.t 72), []⟩,
        ⟨(some 3), none, .mv (.c (.int .i64 0)), []⟩] [2, 3])
      (.ret))))))⟩
theorem c15 : cmpF Tryd.prog ⟨[(33, 2), (35, 3), (42, 1)], false⟩ Tryd.f15 K15 = some A15 := by kernel_rfl
/-- collator/script.Right -/
def K16 : List (List Nat) := [[0], [0, 3], [3, 6, 7, 8], [3, 6, 7, 8, 9], [3, 5, 6, 7, 8], [5, 6, 7, 8, 29], [2], [3, 6, 7, 8], [3, 6, 7, 8], [2]]
def L16x0 : ACode := .seq (.reg [⟨(some 9), none, .bin .lss (.t 8) (.t 7), []⟩] [3, 6, 7, 8, 9])
 (.seq (.cond (.t 9) (.skip)
   (.exit 0))
  (.seq (.blk 1 (.seq (.reg [⟨(some 10), none, .iaddr 3 (.t 6) (.t 8), []⟩,
      ⟨(some 11), none, .load true 3 (.t 10), []⟩,
      ⟨(some 5), none, .alloc [(.int .i64 0), (.int .i64 0), (.sl 1 [] .nil)], []⟩,
      ⟨none, none, .store 3 (.t 5) (.t 11), []⟩] [3, 5, 6, 7, 8])
    (.seq (.seq (.reg [⟨(some 12), none, .load true 3 (.t 5), []⟩,
        ⟨(some 13), none, .call 36 [(.t 12)], []⟩,
        ⟨(some 14), none, .un .not (.t 13), []⟩,
        ⟨(some 15), none, .mv (.t 14), []⟩,
        ⟨(some 16), some (15, false), .faddr 0 (.t 5), []⟩,
        ⟨(some 17), some (15, false), .load false 1 (.t 16), []⟩,
        ⟨(some 18), some (15, false), .mv (.t 3), []⟩,
        ⟨(some 19), some (15, false), .bin .eql (.t 17) (.t 18), []⟩,
        ⟨(some 20), none, .pick (.t 15) (.c (.bool true)) (.t 19), []⟩,
        ⟨(some 21), none, .mv (.t 20), []⟩,
        ⟨(some 22), some (21, false), .mv (.t 3), []⟩,
        ⟨(some 23), some (21, false), .bin .eql (.t 22) (.c (.int .i64 3)), []⟩,
        ⟨(some 24), some (21, false), .mv (.t 23), []⟩,
        ⟨(some 25), some (24, true), .faddr 0 (.t 5), []⟩,
        ⟨(some 26), some (24, true), .load false 1 (.t 25), []⟩,
        ⟨(some 27), some (24, true), .bin .eql (.t 26) (.c (.int .i64 2)), []⟩,
        ⟨(some 28), some (21, false), .pick (.t 24) (.t 27) (.c (.bool false)), []⟩,
        ⟨(some 29), none, .pick (.t 21) (.c (.bool true)) (.t 28), []⟩] [5, 6, 7, 8, 29])
      (.cond (.t 29) (.seq (.reg [⟨(some 2), none, .mv (.c (.bool false)), []⟩] [2])
        (.ret))
       (.skip)))
     (.reg [⟨(some 30), none, .faddr 0 (.t 5), []⟩,
       ⟨(some 31), none, .load false 1 (.t 30), []⟩,
       ⟨(some 3), none, .mv (.t 31), []⟩] [3, 6, 7, 8]))))
   (.reg [⟨(some 32), none, .bin .add (.t 8) (.c (.int .i64 1)), []⟩,
     ⟨(some 8), none, .mv (.t 32), []⟩] [3, 6, 7, 8])))
def A16 : AFunc := ⟨1, [.t 2], .seq (.reg [⟨(some 2), none, .mv (.c (.bool false)), []⟩] [0])
 (.seq (.reg [⟨(some 3), none, .mv (.c (.int .i64 0)), []⟩] [0, 3])
  (.seq (.seq (.reg [⟨(some 6), none, .mv (.t 0), []⟩,
      ⟨(some 7), none, .len false (.t 6), []⟩,
      ⟨(some 8), none, .mv (.c (.int .i64 0)), []⟩] [3, 6, 7, 8])
    (.blk 0 (.loop L16x0)))
   (.seq (.reg [⟨(some 2), none, .mv (.c (.bool true)), []⟩] [2])
    (.ret))))⟩
theorem c16 : cmpF Tryd.prog ⟨[(33, 2), (35, 3), (42, 1)], false⟩ Tryd.f16 K16 = some A16 := by kernel_rfl
/-- collator/collatorref04.Right -/
def K17 : List (List Nat) := [[0], [0, 3], [0, 3, 8], [0, 3, 4], [0, 3, 52], [2], [0, 3], [2]]
def L17x0 : ACode := .seq (.seq (.reg [⟨(some 5), none, .mv (.t 3), []⟩,
    ⟨(some 6), none, .mv (.t 0), []⟩,
    ⟨(some 7), none, .len false (.t 6), []⟩,
    ⟨(some 8), none, .bin .lss (.t 5) (.t 7), []⟩] [0, 3, 8])
  (.cond (.t 8) (.skip)
   (.exit 0)))
 (.seq (.blk 1 (.seq (.reg [⟨(some 11), none, .mv (.t 0), []⟩,
     ⟨(some 12), none, .mv (.t 3), []⟩,
     ⟨(some 13), none, .iaddr 3 (.t 11) (.t 12), []⟩,
     ⟨(some 14), none, .load true 3 (.t 13), []⟩,
     ⟨(some 15), none, .call 37 [(.t 14)], []⟩,
     ⟨(some 4), none, .mv (.t 15), []⟩] [0, 3, 4])
   (.seq (.regD [⟨(some 16), none, .mv (.t 4), []⟩,
      ⟨(some 17), none, .un .not (.t 16), []⟩,
      ⟨(some 18), none, .mv (.t 17), []⟩,
      ⟨(some 19), some (18, false), .mv (.t 3), []⟩,
      ⟨(some 20), some (18, false), .bin .gtr (.t 19) (.c (.int .i64 0)), []⟩,
      ⟨(some 21), some (18, false), .mv (.t 20), []⟩,
      ⟨(some 22), some (21, true), .mv (.t 0), []⟩,
      ⟨(some 23), some (21, true), .mv (.t 3), []⟩,
      ⟨(some 24), some (21, true), .bin .sub (.t 23) (.c (.int .i64 1)), []⟩,
      ⟨(some 25), some (21, true), .iaddr 3 (.t 22) (.t 24), []⟩,
      ⟨(some 26), some (21, true), .faddr 0 (.t 25), []⟩,
      ⟨(some 27), some (21, true), .load false 1 (.t 26), []⟩,
      ⟨(some 28), some (21, true), .mv (.t 0), []⟩,
      ⟨(some 29), some (21, true), .mv (.t 3), []⟩,
      ⟨(some 30), some (21, true), .iaddr 3 (.t 28) (.t 29), []⟩,
      ⟨(some 31), some (21, true), .faddr 0 (.t 30), []⟩,
      ⟨(some 32), some (21, true), .load false 1 (.t 31), []⟩,
      ⟨(some 33), some (21, true), .bin .eql (.t 27) (.t 32), []⟩,
      ⟨(some 34), some (21, true), .mv (.t 33), []⟩,
      ⟨(some 35), some (34, false), .mv (.t 0), []⟩,
      ⟨(some 36), some (34, false), .mv (.t 3), []⟩,
      ⟨(some 37), some (34, false), .bin .sub (.t 36) (.c (.int .i64 1)), []⟩,
      ⟨(some 38), some (34, false), .iaddr 3 (.t 35) (.t 37), []⟩,
      ⟨(some 39), some (34, false), .faddr 0 (.t 38), []⟩,
      ⟨(some 40), some (34, false), .load false 1 (.t 39), [11, 16]⟩,
      ⟨(some 41), some (34, false), .bin .eql (.t 40) (.c (.int .i64 3)), []⟩,
      ⟨(some 42), some (34, false), .mv (.t 41), []⟩,
      ⟨(some 43), some (42, true), .mv (.t 0), []⟩,
      ⟨(some 44), some (42, true), .mv (.t 3), []⟩,
      ⟨(some 45), some (42, true), .iaddr 3 (.t 43) (.t 44), []⟩,
      ⟨(some 46), some (42, true), .faddr 0 (.t 45), []⟩,
      ⟨(some 47), some (42, true), .load false 1 (.t 46), [24, 11, 16]⟩,
      ⟨(some 48), some (42, true), .bin .eql (.t 47) (.c (.int .i64 2)), []⟩,
      ⟨(some 49), some (34, false), .pick (.t 42) (.t 48) (.c (.bool false)), []⟩,
      ⟨(some 50), some (21, true), .pick (.t 34) (.c (.bool true)) (.t 49), []⟩,
      ⟨(some 51), some (18, false), .pick (.t 21) (.t 50) (.c (.bool false)), []⟩,
      ⟨(some 52), none, .pick (.t 18) (.c (.bool true)) (.t 51), []⟩] [0, 3, 52])
    (.cond (.t 52) (.seq (.reg [⟨(some 2), none, .mv (.c (.bool false)), []⟩] [2])
      (.ret))
     (.skip)))))
  (.reg [⟨(some 9), none, .mv (.t 3), []⟩,
    ⟨(some 10), none, .bin .add (.t 9) (.c (.int .i64 1)), []⟩,
    ⟨(some 3), none, .mv (.t 10), []⟩] [0, 3]))
def A17 : AFunc := ⟨1, [.t 2], .seq (.reg [⟨(some 2), none, .mv (.c (.bool false)), []⟩] [0])
 (.seq (.seq (.reg [⟨(some 3), none, .mv (.c (.int .i64 0)), []⟩] [0, 3])
   (.blk 0 (.loop L17x0)))
  (.seq (.reg [⟨(some 2), none, .mv (.c (.bool true)), []⟩] [2])
   (.ret)))⟩
theorem c17 : cmpF Tryd.prog ⟨[(33, 2), (35, 3), (42, 1)], false⟩ Tryd.f17 K17 = some A17 := by kernel_rfl
/-- collator/script.Cost -/
def K18 : List (List Nat) := [[0, 2], [0, 2, 7], [2], [2, 8, 9, 10], [2, 8, 9, 10, 11], [2, 4, 8, 9, 10], [2, 4, 8, 9, 10, 16], [2, 8, 9, 10], [2, 8, 9, 10], [2]]
def L18x0 : ACode := .seq (.reg [⟨(some 11), none, .bin .lss (.t 10) (.t 9), []⟩] [2, 8, 9, 10, 11])
 (.seq (.cond (.t 11) (.skip)
   (.exit 0))
  (.seq (.blk 1 (.seq (.reg [⟨(some 12), none, .iaddr 3 (.t 8) (.t 10), []⟩,
      ⟨(some 13), none, .load true 3 (.t 12), []⟩,
      ⟨(some 4), none, .alloc [(.int .i64 0), (.int .i64 0), (.sl 1 [] .nil)], []⟩,
      ⟨none, none, .store 3 (.t 4) (.t 13), []⟩] [2, 4, 8, 9, 10])
    (.seq (.reg [⟨(some 14), none, .faddr 0 (.t 4), []⟩,
       ⟨(some 15), none, .load false 1 (.t 14), []⟩,
       ⟨(some 16), none, .bin .neq (.t 15) (.c (.int .i64 1)), []⟩] [2, 4, 8, 9, 10, 16])
     (.cond (.t 16) (.reg [⟨(some 17), none, .mv (.t 2), []⟩,
        ⟨(some 18), none, .faddr 1 (.t 4), []⟩,
        ⟨(some 19), none, .load false 1 (.t 18), []⟩,
        ⟨(some 20), none, .bin .add (.t 17) (.t 19), []⟩,
        ⟨(some 2), none, .mv (.t 20), []⟩] [2, 8, 9, 10])
      (.skip)))))
   (.reg [⟨(some 21), none, .bin .add (.t 10) (.c (.int .i64 1)), []⟩,
     ⟨(some 10), none, .mv (.t 21), []⟩] [2, 8, 9, 10])))
def A18 : AFunc := ⟨1, [.t 2], .seq (.reg [⟨(some 2), none, .mv (.c (.int .i64 0)), []⟩] [0, 2])
 (.seq (.seq (.reg [⟨(some 5), none, .mv (.t 0), []⟩,
     ⟨(some 6), none, .call 16 [(.t 5)], []⟩,
     ⟨(some 7), none, .un .not (.t 6), []⟩] [0, 2, 7])
   (.cond (.t 7) (.seq (.reg [⟨(some 2), none, .mv (.c (.int .i64 0)), []⟩] [2])
     (.ret))
    (.skip)))
  (.seq (.seq (.reg [⟨(some 8), none, .mv (.t 0), []⟩,
      ⟨(some 9), none, .len false (.t 8), []⟩,
      ⟨(some 10), none, .mv (.c (.int .i64 0)), []⟩] [2, 8, 9, 10])
    (.blk 0 (.loop L18x0)))
   (.seq (.reg [⟨(some 22), none, .mv (.t 2), []⟩,
      ⟨(some 2), none, .mv (.t 22), []⟩] [2])
    (.ret))))⟩
theorem c18 : cmpF Tryd.prog ⟨[(33, 2), (35, 3), (42, 1)], false⟩ Tryd.f18 K18 = some A18 := by kernel_rfl
/-- collator/collatorref04.Cost -/
def K19 : List (List Nat) := [[0], [0, 3], [0, 7], [2], [2]]
def A19 : AFunc := ⟨1, [.t 2], .seq (.reg [⟨(some 2), none, .mv (.c (.int .i64 0)), []⟩] [0])
 (.seq (.reg [⟨(some 4), none, .mv (.t 0), []⟩,
    ⟨(some 5), none, .call 17 [(.t 4)], []⟩,
    ⟨(some 3), none, .mv (.t 5), []⟩] [0, 3])
  (.seq (.seq (.reg [⟨(some 6), none, .mv (.t 3), []⟩,
      ⟨(some 7), none, .un .not (.t 6), []⟩] [0, 7])
    (.cond (.t 7) (.seq (.reg [⟨(some 2), none, .mv (.c (.int .i64 0)), []⟩] [2])
      (.ret))
     (.skip)))
   (.seq (.reg [⟨(some 8), none, .mv (.t 0), []⟩,
      ⟨(some 9), none, .call 32 [(.t 8), (.c (.int .i64 2)), (.c (.int .i64 3))], []⟩,
      ⟨(some 2), none, .mv (.t 9), []⟩] [2])
    (.ret))))⟩
theorem c19 : cmpF Tryd.prog ⟨[(33, 2), (35, 3), (42, 1)], false⟩ Tryd.f19 K19 = some A19 := by kernel_rfl
/-- collator/collatorlaw03.Lines -/
def K20 : List (List Nat) := [[0, 1], [0, 1, 5], [0, 1, 5, 6], [0, 1, 5, 6, 7], [0, 1, 5, 6, 7, 17], [0, 1, 5, 6, 7], [0, 1, 5, 6, 7], [6, 43], [6], [4]]
def L20x0 : ACode := .seq (.seq (.reg [⟨(some 9), none, .mv (.t 7), []⟩,
    ⟨(some 10), none, .mv (.t 0), []⟩,
    ⟨(some 11), none, .len false (.t 10), []⟩,
    ⟨(some 12), none, .bin .lss (.t 9) (.t 11), []⟩,
    ⟨(some 13), none, .mv (.t 12), []⟩,
    ⟨(some 14), some (13, true), .mv (.t 7), []⟩,
    ⟨(some 15), some (13, true), .mv (.t 1), []⟩,
    ⟨(some 16), some (13, true), .bin .lss (.t 14) (.t 15), []⟩,
    ⟨(some 17), none, .pick (.t 13) (.t 16) (.c (.bool false)), []⟩] [0, 1, 5, 6, 7, 17])
  (.cond (.t 17) (.skip)
   (.exit 0)))
 (.seq (.blk 1 (.reg [⟨(some 20), none, .mv (.t 6), []⟩,
    ⟨(some 21), none, .mv (.t 5), []⟩,
    ⟨(some 22), none, .mv (.t 0), []⟩,
    ⟨(some 23), none, .mv (.t 7), []⟩,
    ⟨(some 24), none, .iaddr 1 (.t 22) (.t 23), []⟩,
    ⟨(some 25), none, .load false 1 (.t 24), []⟩,
    ⟨(some 26), none, .call 38 [(.t 25), (.c (.int .i64 5))], []⟩,
    ⟨(some 27), none, .iaddr 1 (.t 21) (.t 26), []⟩,
    ⟨(some 28), none, .load false 1 (.t 27), []⟩,
    ⟨(some 29), none, .mks 1 1 false [(.str [])] [(0, (.t 28))], []⟩,
    ⟨(some 30), none, .app (some false) 1 16 (.t 20) (.t 29), []⟩,
    ⟨(some 6), none, .mv (.t 30), []⟩] [0, 1, 5, 6, 7]))
  (.reg [⟨(some 18), none, .mv (.t 7), []⟩,
    ⟨(some 19), none, .bin .add (.t 18) (.c (.int .i64 1)), []⟩,
    ⟨(some 7), none, .mv (.t 19), []⟩] [0, 1, 5, 6, 7]))
def A20 : AFunc := ⟨2, [.t 4], .seq (.reg [⟨(some 4), none, .mv (.c (.sl 1 [] .nil)), []⟩] [0, 1])
 (.seq (.reg [⟨(some 8), none, .mks 5 1 false [(.str [])] [(0, (.c (.str [97, 10]))), (1, (.c (.str [98, 10]))), (2, (.c (.str [99, 10]))), (3, (.c (.str [10]))), (4, (.c (.str [108, 111, 110, 103, 10])))], []⟩,
    ⟨(some 5), none, .mv (.t 8), []⟩] [0, 1, 5])
  (.seq (.reg [⟨(some 6), none, .mv (.c (.sl 1 [] .nil)), []⟩] [0, 1, 5, 6])
   (.seq (.seq (.reg [⟨(some 7), none, .mv (.c (.int .i64 0)), []⟩] [0, 1, 5, 6, 7])
     (.blk 0 (.loop L20x0)))
    (.seq (.seq (.reg [⟨(some 31), none, .mv (.t 6), []⟩,
        ⟨(some 32), none, .len false (.t 31), []⟩,
        ⟨(some 33), none, .bin .gtr (.t 32) (.c (.int .i64 0)), []⟩,
        ⟨(some 34), none, .mv (.t 33), []⟩,
        ⟨(some 35), some (34, true), .mv (.t 0), []⟩,
        ⟨(some 36), some (34, true), .mv (.t 6), []⟩,
        ⟨(some 37), some (34, true), .len false (.t 36), []⟩,
        ⟨(some 38), some (34, true), .bin .sub (.t 37) (.c (.int .i64 1)), []⟩,
        ⟨(some 39), some (34, true), .iaddr 1 (.t 35) (.t 38), []⟩,
        ⟨(some 40), some (34, true), .load false 1 (.t 39), []⟩,
        ⟨(some 41), some (34, true), .call 38 [(.t 40), (.c (.int .i64 7))], []⟩,
        ⟨(some 42), some (34, true), .bin .eql (.t 41) (.c (.int .i64 6)), []⟩,
        ⟨(some 43), none, .pick (.t 34) (.t 42) (.c (.bool false)), []⟩] [6, 43])
      (.cond (.t 43) (.reg [⟨(some 44), none, .mv (.t 6), []⟩,
         ⟨(some 45), none, .mv (.t 6), []⟩,
         ⟨(some 46), none, .len false (.t 45), []⟩,
         ⟨(some 47), none, .bin .sub (.t 46) (.c (.int .i64 1)), []⟩,
         ⟨(some 48), none, .iaddr 1 (.t 44) (.t 47), []⟩,
         ⟨none, none, .store 1 (.t 48) (.c (.str [101, 110, 100])), []⟩] [6])
       (.skip)))
     (.seq (.reg [⟨(some 49), none, .mv (.t 6), []⟩,
        ⟨(some 4), none, .mv (.t 49), []⟩] [4])
      (.ret))))))⟩
theorem c20 : cmpF Tryd.prog ⟨[(33, 2), (35, 3), (42, 1)], true⟩ Tryd.f20 K20 = some A20 := by kernel_rfl
/-- collator/script.Apply -/
def K21 : List (List Nat) := [[0, 1, 4], [0, 1, 4, 6], [0, 1, 4, 6, 13], [4, 5], [1, 4, 15, 16, 17], [1, 4, 15, 16, 17, 18], [1, 4, 8, 15, 16, 17], [1, 4, 8, 15, 16, 17, 22], [1, 4, 8, 15, 16, 17, 22, 23], [1, 4, 8, 15, 16, 17, 25], [1, 4, 8, 15, 16, 17], [1, 4, 15, 16, 17], [1, 4, 15, 16, 17], [1, 4, 15, 16, 17], [4, 5]]
def L21x0 : ACode := .seq (.reg [⟨(some 18), none, .bin .lss (.t 17) (.t 16), []⟩] [1, 4, 15, 16, 17, 18])
 (.seq (.cond (.t 18) (.skip)
   (.exit 0))
  (.seq (.blk 1 (.seq (.reg [⟨(some 19), none, .iaddr 3 (.t 15) (.t 17), []⟩,
      ⟨(some 20), none, .load true 3 (.t 19), []⟩,
      ⟨(some 8), none, .alloc [(.int .i64 0), (.int .i64 0), (.sl 1 [] .nil)], []⟩,
      ⟨none, none, .store 3 (.t 8) (.t 20), []⟩] [1, 4, 8, 15, 16, 17])
    (.seq (.reg [⟨(some 21), none, .faddr 0 (.t 8), []⟩,
       ⟨(some 22), none, .load false 1 (.t 21), []⟩] [1, 4, 8, 15, 16, 17, 22])
     (.blk 2 (.seq (.blk 5 (.seq (.blk 4 (.seq (.blk 3 (.seq (.seq (.seq (.reg [⟨(some 24), none, .bin .eql (.t 22) (.c (.int .i64 1)), []⟩,
             ⟨(some 23), none, .mv (.t 24), []⟩] [1, 4, 8, 15, 16, 17, 22, 23])
           (.cond (.t 23) (.exit 3)
            (.skip)))
          (.seq (.reg [⟨(some 26), none, .bin .eql (.t 22) (.c (.int .i64 2)), []⟩,
             ⟨(some 25), none, .mv (.t 26), []⟩] [1, 4, 8, 15, 16, 17, 25])
           (.cond (.t 25) (.exit 4)
            (.skip))))
         (.exit 5)))
        (.reg [⟨(some 27), none, .mv (.t 4), []⟩,
          ⟨(some 28), none, .mv (.t 1), []⟩,
          ⟨(some 29), none, .faddr 1 (.t 8), []⟩,
          ⟨(some 30), none, .load false 1 (.t 29), []⟩,
          ⟨(some 31), none, .slice (some 1) (.t 28) none (some (.t 30)) none, []⟩,
          ⟨(some 32), none, .app none 1 16 (.t 27) (.t 31), []⟩,
          ⟨(some 4), none, .mv (.t 32), []⟩] [1, 4, 8, 15, 16, 17])))
       (.seq (.reg [⟨(some 33), none, .mv (.t 1), []⟩,
          ⟨(some 34), none, .faddr 1 (.t 8), []⟩,
          ⟨(some 35), none, .load false 1 (.t 34), []⟩,
          ⟨(some 36), none, .slice (some 1) (.t 33) (some (.t 35)) none none, []⟩,
          ⟨(some 1), none, .mv (.t 36), []⟩] [1, 4, 15, 16, 17])
        (.exit 2))))
      (.seq (.reg [⟨(some 37), none, .mv (.t 4), []⟩,
         ⟨(some 38), none, .faddr 2 (.t 8), []⟩,
         ⟨(some 39), none, .load false 1 (.t 38), []⟩,
         ⟨(some 40), none, .app none 1 16 (.t 37) (.t 39), []⟩,
         ⟨(some 4), none, .mv (.t 40), []⟩] [1, 4, 15, 16, 17])
       (.exit 2)))))))
   (.reg [⟨(some 41), none, .bin .add (.t 17) (.c (.int .i64 1)), []⟩,
     ⟨(some 17), none, .mv (.t 41), []⟩] [1, 4, 15, 16, 17])))
def A21 : AFunc := ⟨2, [.t 4, .t 5], .seq (.reg [⟨(some 4), none, .mv (.c (.sl 1 [] .nil)), []⟩,
   ⟨(some 5), none, .mv (.c (.int .i64 0)), []⟩] [0, 1, 4])
 (.seq (.seq (.reg [⟨(some 9), none, .mv (.t 0), []⟩,
     ⟨(some 10), none, .mv (.t 1), []⟩,
     ⟨(some 11), none, .call 39 [(.t 9), (.t 10)], []⟩,
     ⟨(some 6), none, .mv (.t 11), []⟩] [0, 1, 4, 6])
   (.seq (.reg [⟨(some 12), none, .mv (.t 6), []⟩,
      ⟨(some 13), none, .bin .neq (.t 12) (.c (.int .i64 0)), []⟩] [0, 1, 4, 6, 13])
    (.cond (.t 13) (.seq (.reg [⟨(some 14), none, .mv (.t 6), []⟩,
        ⟨(some 4), none, .mv (.c (.sl 1 [] .nil)), []⟩,
        ⟨(some 5), none, .mv (.t 14), []⟩] [4, 5])
      (.ret))
     (.skip))))
  (.seq (.seq (.reg [⟨(some 15), none, .mv (.t 0), []⟩,
      ⟨(some 16), none, .len false (.t 15), []⟩,
      ⟨(some 17), none, .mv (.c (.int .i64 0)), []⟩] [1, 4, 15, 16, 17])
    (.blk 0 (.loop L21x0)))
   (.seq (.reg [⟨(some 42), none, .mv (.t 4), []⟩,
      ⟨(some 4), none, .mv (.t 42), []⟩,
      ⟨(some 5), none, .mv (.c (.int .i64 0)), []⟩] [4, 5])
    (.ret))))⟩
theorem c21 : cmpF Tryd.prog ⟨[(33, 2), (35, 3), (42, 1)], false⟩ Tryd.f21 K21 = some A21 := by kernel_rfl
/-- collator/collatorref04.Apply -/
def K22 : List (List Nat) := [[0, 1], [0, 1, 6], [0, 1, 6, 14], [4, 5], [0, 1, 7], [0, 1, 7, 8], [0, 1, 7, 8, 9], [0, 1, 7, 8, 9, 19], [0, 1, 7, 8, 9, 27], [0, 1, 7, 8, 9], [0, 1, 7, 8, 9, 40], [0, 1, 7, 8, 9], [0, 1, 7, 8, 9], [0, 1, 7, 8, 9], [4, 5]]
def L22x0 : ACode := .seq (.seq (.reg [⟨(some 16), none, .mv (.t 9), []⟩,
    ⟨(some 17), none, .mv (.t 0), []⟩,
    ⟨(some 18), none, .len false (.t 17), []⟩,
    ⟨(some 19), none, .bin .lss (.t 16) (.t 18), []⟩] [0, 1, 7, 8, 9, 19])
  (.cond (.t 19) (.skip)
   (.exit 0)))
 (.seq (.blk 1 (.seq (.seq (.reg [⟨(some 22), none, .mv (.t 0), []⟩,
      ⟨(some 23), none, .mv (.t 9), []⟩,
      ⟨(some 24), none, .iaddr 3 (.t 22) (.t 23), []⟩,
      ⟨(some 25), none, .faddr 0 (.t 24), []⟩,
      ⟨(some 26), none, .load false 1 (.t 25), []⟩,
      ⟨(some 27), none, .bin .eql (.t 26) (.c (.int .i64 3)), []⟩] [0, 1, 7, 8, 9, 27])
    (.cond (.t 27) (.seq (.reg [⟨(some 28), none, .mv (.t 7), []⟩,
        ⟨(some 29), none, .mv (.t 0), []⟩,
        ⟨(some 30), none, .mv (.t 9), []⟩,
        ⟨(some 31), none, .iaddr 3 (.t 29) (.t 30), []⟩,
        ⟨(some 32), none, .faddr 2 (.t 31), []⟩,
        ⟨(some 33), none, .load false 1 (.t 32), []⟩,
        ⟨(some 34), none, .app none 1 16 (.t 28) (.t 33), []⟩,
        ⟨(some 7), none, .mv (.t 34), []⟩] [0, 1, 7, 8, 9])
      (.exit 1))
     (.skip)))
   (.seq (.seq (.reg [⟨(some 35), none, .mv (.t 0), []⟩,
       ⟨(some 36), none, .mv (.t 9), []⟩,
       ⟨(some 37), none, .iaddr 3 (.t 35) (.t 36), []⟩,
       ⟨(some 38), none, .faddr 0 (.t 37), []⟩,
       ⟨(some 39), none, .load false 1 (.t 38), []⟩,
       ⟨(some 40), none, .bin .eql (.t 39) (.c (.int .i64 1)), []⟩] [0, 1, 7, 8, 9, 40])
     (.cond (.t 40) (.reg [⟨(some 41), none, .mv (.t 7), []⟩,
        ⟨(some 42), none, .mv (.t 1), []⟩,
        ⟨(some 43), none, .mv (.t 8), []⟩,
        ⟨(some 44), none, .mv (.t 8), []⟩,
        ⟨(some 45), none, .mv (.t 0), []⟩,
        ⟨(some 46), none, .mv (.t 9), []⟩,
        ⟨(some 47), none, .iaddr 3 (.t 45) (.t 46), []⟩,
        ⟨(some 48), none, .faddr 1 (.t 47), []⟩,
        ⟨(some 49), none, .load false 1 (.t 48), []⟩,
        ⟨(some 50), none, .bin .add (.t 44) (.t 49), []⟩,
        ⟨(some 51), none, .slice (some 1) (.t 42) (some (.t 43)) (some (.t 50)) none, []⟩,
        ⟨(some 52), none, .app none 1 16 (.t 41) (.t 51), []⟩,
        ⟨(some 7), none, .mv (.t 52), []⟩] [0, 1, 7, 8, 9])
      (.skip)))
    (.reg [⟨(some 53), none, .mv (.t 8), []⟩,
      ⟨(some 54), none, .mv (.t 0), []⟩,
      ⟨(some 55), none, .mv (.t 9), []⟩,
      ⟨(some 56), none, .iaddr 3 (.t 54) (.t 55), []⟩,
      ⟨(some 57), none, .faddr 1 (.t 56), []⟩,
      ⟨(some 58), none, .load false 1 (.t 57), []⟩,
      ⟨(some 59), none, .bin .add (.t 53) (.t 58), []⟩,
      ⟨(some 8), none, .mv (.t 59), []⟩] [0, 1, 7, 8, 9]))))
  (.reg [⟨(some 20), none, .mv (.t 9), []⟩,
    ⟨(some 21), none, .bin .add (.t 20) (.c (.int .i64 1)), []⟩,
    ⟨(some 9), none, .mv (.t 21), []⟩] [0, 1, 7, 8, 9]))
def A22 : AFunc := ⟨2, [.t 4, .t 5], .seq (.reg [⟨(some 4), none, .mv (.c (.sl 1 [] .nil)), []⟩,
   ⟨(some 5), none, .mv (.c (.int .i64 0)), []⟩] [0, 1])
 (.seq (.reg [⟨(some 10), none, .mv (.t 0), []⟩,
    ⟨(some 11), none, .mv (.t 1), []⟩,
    ⟨(some 12), none, .call 40 [(.t 10), (.t 11)], []⟩,
    ⟨(some 6), none, .mv (.t 12), []⟩] [0, 1, 6])
  (.seq (.seq (.reg [⟨(some 13), none, .mv (.t 6), []⟩,
      ⟨(some 14), none, .bin .neq (.t 13) (.c (.int .i64 0)), []⟩] [0, 1, 6, 14])
    (.cond (.t 14) (.seq (.reg [⟨(some 15), none, .mv (.t 6), []⟩,
        ⟨(some 4), none, .mv (.c (.sl 1 [] .nil)), []⟩,
        ⟨(some 5), none, .mv (.t 15), []⟩] [4, 5])
      (.ret))
     (.skip)))
   (.seq (.reg [⟨(some 7), none, .mv (.c (.sl 1 [] .nil)), []⟩] [0, 1, 7])
    (.seq (.reg [⟨(some 8), none, .mv (.c (.int .i64 0)), []⟩] [0, 1, 7, 8])
     (.seq (.seq (.reg [⟨(some 9), none, .mv (.c (.int .i64 0)), []⟩] [0, 1, 7, 8, 9])
       (.blk 0 (.loop L22x0)))
      (.seq (.reg [⟨(some 60), none, .mv (.t 7), []⟩,
         ⟨(some 4), none, .mv (.t 60), []⟩,
         ⟨(some 5), none, .mv (.c (.int .i64 0)), []⟩] [4, 5])
       (.ret)))))))⟩
theorem c22 : cmpF Tryd.prog ⟨[(33, 2), (35, 3), (42, 1)], false⟩ Tryd.f22 K22 = some A22 := by kernel_rfl
/-- collator/script.Invert -/
def K23 : List (List Nat) := [[0, 1, 4], [0, 1, 4, 6], [0, 1, 4, 6, 15], [4, 5], [1, 4, 17, 18, 19], [1, 4, 17, 18, 19, 20], [1, 4, 8, 17, 18, 19], [1, 4, 8, 17, 18, 19, 24], [1, 4, 8, 17, 18, 19, 24, 48], [1, 4, 8, 17, 18, 19], [1, 4, 17, 18, 19], [1, 4, 8, 17, 18, 19, 60], [1, 4, 8, 17, 18, 19], [1, 4, 17, 18, 19], [1, 4, 9, 17, 18, 19], [1, 4, 9, 10, 17, 18, 19], [1, 4, 9, 10, 17, 18, 19, 40], [1, 4, 9, 10, 17, 18, 19], [1, 4, 17, 18, 19], [1, 4, 17, 18, 19], [4, 5]]
def L23x0 : ACode := .seq (.reg [⟨(some 20), none, .bin .lss (.t 19) (.t 18), []⟩] [1, 4, 17, 18, 19, 20])
 (.seq (.cond (.t 20) (.skip)
   (.exit 0))
  (.seq (.blk 1 (.seq (.reg [⟨(some 21), none, .iaddr 3 (.t 17) (.t 19), []⟩,
      ⟨(some 22), none, .load true 3 (.t 21), []⟩,
      ⟨(some 8), none, .alloc [(.int .i64 0), (.int .i64 0), (.sl 1 [] .nil)], []⟩,
      ⟨none, none, .store 3 (.t 8) (.t 22), []⟩] [1, 4, 8, 17, 18, 19])
    (.seq (.reg [⟨(some 23), none, .faddr 0 (.t 8), []⟩,
       ⟨(some 24), none, .load false 1 (.t 23), []⟩] [1, 4, 8, 17, 18, 19, 24])
     (.blk 2 (.seq (.reg [⟨(some 49), none, .bin .eql (.t 24) (.c (.int .i64 1)), []⟩,
        ⟨(some 48), none, .mv (.t 49), []⟩] [1, 4, 8, 17, 18, 19, 24, 48])
      (.cond (.t 48) (.seq (.reg [⟨(some 50), none, .mv (.t 4), []⟩,
          ⟨(some 51), none, .faddr 1 (.t 8), []⟩,
          ⟨(some 52), none, .load false 1 (.t 51), []⟩,
          ⟨(some 53), none, .agg [(.int .i64 0), (.int .i64 0), (.sl 1 [] .nil)] [(0, 1, (.c (.int .i64 1))), (1, 1, (.t 52))], []⟩,
          ⟨(some 54), none, .mks 1 3 true [(.int .i64 0), (.int .i64 0), (.sl 1 [] .nil)] [(0, (.t 53))], []⟩,
          ⟨(some 55), none, .app (some true) 3 40 (.t 50) (.t 54), []⟩,
          ⟨(some 4), none, .mv (.t 55), []⟩] [1, 4, 8, 17, 18, 19])
        (.reg [⟨(some 56), none, .mv (.t 1), []⟩,
          ⟨(some 57), none, .faddr 1 (.t 8), []⟩,
          ⟨(some 58), none, .load false 1 (.t 57), []⟩,
          ⟨(some 59), none, .slice (some 1) (.t 56) (some (.t 58)) none none, []⟩,
          ⟨(some 1), none, .mv (.t 59), []⟩] [1, 4, 17, 18, 19]))
       (.seq (.reg [⟨(some 61), none, .bin .eql (.t 24) (.c (.int .i64 2)), []⟩,
          ⟨(some 60), none, .mv (.t 61), []⟩] [1, 4, 8, 17, 18, 19, 60])
        (.cond (.t 60) (.seq (.regD [⟨(some 62), none, .mv (.t 4), []⟩,
            ⟨(some 63), none, .faddr 1 (.t 8), []⟩,
            ⟨(some 64), none, .load false 1 (.t 63), []⟩,
            ⟨(some 65), none, .mv (.t 1), []⟩,
            ⟨(some 66), none, .faddr 1 (.t 8), []⟩,
            ⟨(some 67), none, .load false 1 (.t 66), []⟩,
            ⟨(some 68), none, .slice (some 1) (.t 65) none (some (.t 67)) none, []⟩,
            ⟨(some 69), none, .call 41 [(.t 68)], [5]⟩,
            ⟨(some 70), none, .agg [(.int .i64 0), (.int .i64 0), (.sl 1 [] .nil)] [(0, 1, (.c (.int .i64 3))), (1, 1, (.t 64)), (2, 1, (.t 69))], [7]⟩,
            ⟨(some 71), none, .mks 1 3 true [(.int .i64 0), (.int .i64 0), (.sl 1 [] .nil)] [(0, (.t 70))], [7]⟩,
            ⟨(some 72), none, .app (some true) 3 40 (.t 62) (.t 71), [7, 2, 5]⟩,
            ⟨(some 4), none, .mv (.t 72), [7]⟩] [1, 4, 8, 17, 18, 19])
          (.reg [⟨(some 73), none, .mv (.t 1), []⟩,
            ⟨(some 74), none, .faddr 1 (.t 8), []⟩,
            ⟨(some 75), none, .load false 1 (.t 74), []⟩,
            ⟨(some 76), none, .slice (some 1) (.t 73) (some (.t 75)) none none, []⟩,
            ⟨(some 1), none, .mv (.t 76), []⟩] [1, 4, 17, 18, 19]))
         (.seq (.reg [⟨(some 25), none, .faddr 1 (.t 8), []⟩,
            ⟨(some 26), none, .load false 1 (.t 25), []⟩,
            ⟨(some 27), none, .agg [(.int .i64 0), (.int .i64 0), (.sl 1 [] .nil)] [(0, 1, (.c (.int .i64 2))), (1, 1, (.t 26))], []⟩,
            ⟨(some 9), none, .alloc [(.int .i64 0), (.int .i64 0), (.sl 1 [] .nil)], []⟩,
            ⟨none, none, .store 3 (.t 9) (.t 27), []⟩] [1, 4, 9, 17, 18, 19])
          (.seq (.reg [⟨(some 28), none, .mv (.t 4), []⟩,
             ⟨(some 29), none, .len false (.t 28), []⟩,
             ⟨(some 10), none, .mv (.t 29), []⟩] [1, 4, 9, 10, 17, 18, 19])
           (.seq (.seq (.reg [⟨(some 30), none, .mv (.t 10), []⟩,
               ⟨(some 31), none, .bin .gtr (.t 30) (.c (.int .i64 0)), []⟩,
               ⟨(some 32), none, .mv (.t 31), []⟩,
               ⟨(some 33), some (32, true), .mv (.t 4), []⟩,
               ⟨(some 34), some (32, true), .mv (.t 10), []⟩,
               ⟨(some 35), some (32, true), .bin .sub (.t 34) (.c (.int .i64 1)), []⟩,
               ⟨(some 36), some (32, true), .iaddr 3 (.t 33) (.t 35), []⟩,
               ⟨(some 37), some (32, true), .faddr 0 (.t 36), []⟩,
               ⟨(some 38), some (32, true), .load false 1 (.t 37), []⟩,
               ⟨(some 39), some (32, true), .bin .eql (.t 38) (.c (.int .i64 3)), []⟩,
               ⟨(some 40), none, .pick (.t 32) (.t 39) (.c (.bool false)), []⟩] [1, 4, 9, 10, 17, 18, 19, 40])
             (.cond (.t 40) (.reg [⟨(some 41), none, .mv (.t 10), []⟩,
                ⟨(some 42), none, .bin .sub (.t 41) (.c (.int .i64 1)), []⟩,
                ⟨(some 10), none, .mv (.t 42), []⟩] [1, 4, 9, 10, 17, 18, 19])
              (.skip)))
            (.reg [⟨(some 43), none, .mv (.t 4), []⟩,
              ⟨(some 44), none, .mv (.t 10), []⟩,
              ⟨(some 45), none, .load true 3 (.t 9), []⟩,
              ⟨(some 46), none, .mks 1 3 true [(.int .i64 0), (.int .i64 0), (.sl 1 [] .nil)] [(0, (.t 45))], []⟩,
              ⟨(some 47), none, .ins 42 (.t 43) (.t 44) (.t 46), []⟩,
              ⟨(some 4), none, .mv (.t 47), []⟩] [1, 4, 17, 18, 19]))))))))))))
   (.reg [⟨(some 77), none, .bin .add (.t 19) (.c (.int .i64 1)), []⟩,
     ⟨(some 19), none, .mv (.t 77), []⟩] [1, 4, 17, 18, 19])))
def A23 : AFunc := ⟨2, [.t 4, .t 5], .seq (.reg [⟨(some 4), none, .mv (.c (.sl 3 [] .nil)), []⟩,
   ⟨(some 5), none, .mv (.c (.int .i64 0)), []⟩] [0, 1, 4])
 (.seq (.seq (.reg [⟨(some 11), none, .mv (.t 0), []⟩,
     ⟨(some 12), none, .mv (.t 1), []⟩,
     ⟨(some 13), none, .call 39 [(.t 11), (.t 12)], []⟩,
     ⟨(some 6), none, .mv (.t 13), []⟩] [0, 1, 4, 6])
   (.seq (.reg [⟨(some 14), none, .mv (.t 6), []⟩,
      ⟨(some 15), none, .bin .neq (.t 14) (.c (.int .i64 0)), []⟩] [0, 1, 4, 6, 15])
    (.cond (.t 15) (.seq (.reg [⟨(some 16), none, .mv (.t 6), []⟩,
        ⟨(some 4), none, .mv (.c (.sl 3 [] .nil)), []⟩,
        ⟨(some 5), none, .mv (.t 16), []⟩] [4, 5])
      (.ret))
     (.skip))))
  (.seq (.seq (.reg [⟨(some 17), none, .mv (.t 0), []⟩,
      ⟨(some 18), none, .len false (.t 17), []⟩,
      ⟨(some 19), none, .mv (.c (.int .i64 0)), []⟩] [1, 4, 17, 18, 19])
    (.blk 0 (.loop L23x0)))
   (.seq (.reg [⟨(some 78), none, .mv (.t 4), []⟩,
      ⟨(some 4), none, .mv (.t 78), []⟩,
      ⟨(some 5), none, .mv (.c (.int .i64 0)), []⟩] [4, 5])
    (.ret))))⟩
theorem c23 : cmpF Tryd.prog ⟨[(33, 2), (35, 3), (42, 1)], true⟩ Tryd.f23 K23 = some A23 := by kernel_rfl
/-- collator/collatorref04.Invert -/
def K24 : List (List Nat) := [[0, 1], [0, 1, 6], [0, 1, 6, 14], [4, 5], [0, 1, 7], [0, 1, 7, 8], [0, 1, 7, 8, 9], [0, 1, 7, 8, 9, 19], [0, 1, 7, 8, 9, 43], [0, 1, 7, 8, 9], [0, 1, 7, 8, 9, 59], [0, 1, 7, 8, 9], [0, 1, 7, 8, 9, 84], [0, 1, 7, 8, 9], [0, 1, 7, 8, 9, 110], [0, 1, 7, 8, 9], [0, 1, 7, 8, 9, 125], [0, 1, 7, 8, 9], [0, 1, 7, 8, 9], [4, 5]]
def L24x0 : ACode := .seq (.seq (.reg [⟨(some 16), none, .mv (.t 9), []⟩,
    ⟨(some 17), none, .mv (.t 0), []⟩,
    ⟨(some 18), none, .len false (.t 17), []⟩,
    ⟨(some 19), none, .bin .lss (.t 16) (.t 18), []⟩] [0, 1, 7, 8, 9, 19])
  (.cond (.t 19) (.skip)
   (.exit 0)))
 (.seq (.blk 1 (.seq (.seq (.reg [⟨(some 22), none, .mv (.t 9), []⟩,
      ⟨(some 23), none, .bin .add (.t 22) (.c (.int .i64 1)), []⟩,
      ⟨(some 24), none, .mv (.t 0), []⟩,
      ⟨(some 25), none, .len false (.t 24), []⟩,
      ⟨(some 26), none, .bin .lss (.t 23) (.t 25), []⟩,
      ⟨(some 27), none, .mv (.t 26), []⟩,
      ⟨(some 28), some (27, true), .mv (.t 0), []⟩,
      ⟨(some 29), some (27, true), .mv (.t 9), []⟩,
      ⟨(some 30), some (27, true), .iaddr 3 (.t 28) (.t 29), []⟩,
      ⟨(some 31), some (27, true), .faddr 0 (.t 30), []⟩,
      ⟨(some 32), some (27, true), .load false 1 (.t 31), []⟩,
      ⟨(some 33), some (27, true), .bin .eql (.t 32) (.c (.int .i64 2)), []⟩,
      ⟨(some 34), none, .pick (.t 27) (.t 33) (.c (.bool false)), []⟩,
      ⟨(some 35), none, .mv (.t 34), []⟩,
      ⟨(some 36), some (35, true), .mv (.t 0), []⟩,
      ⟨(some 37), some (35, true), .mv (.t 9), []⟩,
      ⟨(some 38), some (35, true), .bin .add (.t 37) (.c (.int .i64 1)), []⟩,
      ⟨(some 39), some (35, true), .iaddr 3 (.t 36) (.t 38), []⟩,
      ⟨(some 40), some (35, true), .faddr 0 (.t 39), []⟩,
      ⟨(some 41), some (35, true), .load false 1 (.t 40), []⟩,
      ⟨(some 42), some (35, true), .bin .eql (.t 41) (.c (.int .i64 3)), []⟩,
      ⟨(some 43), none, .pick (.t 35) (.t 42) (.c (.bool false)), []⟩] [0, 1, 7, 8, 9, 43])
    (.cond (.t 43) (.reg [⟨(some 44), none, .mv (.t 7), []⟩,
       ⟨(some 45), none, .mv (.t 0), []⟩,
       ⟨(some 46), none, .mv (.t 9), []⟩,
       ⟨(some 47), none, .bin .add (.t 46) (.c (.int .i64 1)), []⟩,
       ⟨(some 48), none, .iaddr 3 (.t 45) (.t 47), []⟩,
       ⟨(some 49), none, .faddr 1 (.t 48), []⟩,
       ⟨(some 50), none, .load false 1 (.t 49), []⟩,
       ⟨(some 51), none, .agg [(.int .i64 0), (.int .i64 0), (.sl 1 [] .nil)] [(0, 1, (.c (.int .i64 2))), (1, 1, (.t 50))], []⟩,
       ⟨(some 52), none, .mks 1 3 true [(.int .i64 0), (.int .i64 0), (.sl 1 [] .nil)] [(0, (.t 51))], []⟩,
       ⟨(some 53), none, .app none 3 40 (.t 44) (.t 52), []⟩,
       ⟨(some 7), none, .mv (.t 53), []⟩] [0, 1, 7, 8, 9])
     (.skip)))
   (.seq (.seq (.reg [⟨(some 54), none, .mv (.t 0), []⟩,
       ⟨(some 55), none, .mv (.t 9), []⟩,
       ⟨(some 56), none, .iaddr 3 (.t 54) (.t 55), []⟩,
       ⟨(some 57), none, .faddr 0 (.t 56), []⟩,
       ⟨(some 58), none, .load false 1 (.t 57), []⟩,
       ⟨(some 59), none, .bin .eql (.t 58) (.c (.int .i64 2)), []⟩] [0, 1, 7, 8, 9, 59])
     (.cond (.t 59) (.regD [⟨(some 60), none, .mv (.t 7), []⟩,
        ⟨(some 61), none, .mv (.t 0), []⟩,
        ⟨(some 62), none, .mv (.t 9), []⟩,
        ⟨(some 63), none, .iaddr 3 (.t 61) (.t 62), []⟩,
        ⟨(some 64), none, .faddr 1 (.t 63), []⟩,
        ⟨(some 65), none, .load false 1 (.t 64), []⟩,
        ⟨(some 66), none, .mv (.t 1), []⟩,
        ⟨(some 67), none, .mv (.t 8), []⟩,
        ⟨(some 68), none, .mv (.t 8), []⟩,
        ⟨(some 69), none, .mv (.t 0), []⟩,
        ⟨(some 70), none, .mv (.t 9), []⟩,
        ⟨(some 71), none, .iaddr 3 (.t 69) (.t 70), []⟩,
        ⟨(some 72), none, .faddr 1 (.t 71), []⟩,
        ⟨(some 73), none, .load false 1 (.t 72), []⟩,
        ⟨(some 74), none, .bin .add (.t 68) (.t 73), []⟩,
        ⟨(some 75), none, .slice (some 1) (.t 66) (some (.t 67)) (some (.t 74)) none, []⟩,
        ⟨(some 76), none, .agg [(.int .i64 0), (.int .i64 0), (.sl 1 [] .nil)] [(0, 1, (.c (.int .i64 3))), (1, 1, (.t 65)), (2, 1, (.t 75))], []⟩,
        ⟨(some 77), none, .mks 1 3 true [(.int .i64 0), (.int .i64 0), (.sl 1 [] .nil)] [(0, (.t 76))], []⟩,
        ⟨(some 78), none, .app none 3 40 (.t 60) (.t 77), [5, 13]⟩,
        ⟨(some 7), none, .mv (.t 78), []⟩] [0, 1, 7, 8, 9])
      (.skip)))
    (.seq (.seq (.reg [⟨(some 79), none, .mv (.t 0), []⟩,
        ⟨(some 80), none, .mv (.t 9), []⟩,
        ⟨(some 81), none, .iaddr 3 (.t 79) (.t 80), []⟩,
        ⟨(some 82), none, .faddr 0 (.t 81), []⟩,
        ⟨(some 83), none, .load false 1 (.t 82), []⟩,
        ⟨(some 84), none, .bin .eql (.t 83) (.c (.int .i64 1)), []⟩] [0, 1, 7, 8, 9, 84])
      (.cond (.t 84) (.reg [⟨(some 85), none, .mv (.t 7), []⟩,
         ⟨(some 86), none, .mv (.t 0), []⟩,
         ⟨(some 87), none, .mv (.t 9), []⟩,
         ⟨(some 88), none, .iaddr 3 (.t 86) (.t 87), []⟩,
         ⟨(some 89), none, .load true 3 (.t 88), []⟩,
         ⟨(some 90), none, .mks 1 3 true [(.int .i64 0), (.int .i64 0), (.sl 1 [] .nil)] [(0, (.t 89))], []⟩,
         ⟨(some 91), none, .app none 3 40 (.t 85) (.t 90), []⟩,
         ⟨(some 7), none, .mv (.t 91), []⟩] [0, 1, 7, 8, 9])
       (.skip)))
     (.seq (.seq (.reg [⟨(some 92), none, .mv (.t 0), []⟩,
         ⟨(some 93), none, .mv (.t 9), []⟩,
         ⟨(some 94), none, .iaddr 3 (.t 92) (.t 93), []⟩,
         ⟨(some 95), none, .faddr 0 (.t 94), []⟩,
         ⟨(some 96), none, .load false 1 (.t 95), []⟩,
         ⟨(some 97), none, .bin .eql (.t 96) (.c (.int .i64 3)), []⟩,
         ⟨(some 98), none, .mv (.t 97), []⟩,
         ⟨(some 99), some (98, true), .mv (.t 9), []⟩,
         ⟨(some 100), some (98, true), .bin .eql (.t 99) (.c (.int .i64 0)), []⟩,
         ⟨(some 101), some (98, true), .mv (.t 100), []⟩,
         ⟨(some 102), some (101, false), .mv (.t 0), []⟩,
         ⟨(some 103), some (101, false), .mv (.t 9), []⟩,
         ⟨(some 104), some (101, false), .bin .sub (.t 103) (.c (.int .i64 1)), []⟩,
         ⟨(some 105), some (101, false), .iaddr 3 (.t 102) (.t 104), []⟩,
         ⟨(some 106), some (101, false), .faddr 0 (.t 105), []⟩,
         ⟨(some 107), some (101, false), .load false 1 (.t 106), []⟩,
         ⟨(some 108), some (101, false), .bin .neq (.t 107) (.c (.int .i64 2)), []⟩,
         ⟨(some 109), some (98, true), .pick (.t 101) (.c (.bool true)) (.t 108), []⟩,
         ⟨(some 110), none, .pick (.t 98) (.t 109) (.c (.bool false)), []⟩] [0, 1, 7, 8, 9, 110])
       (.cond (.t 110) (.reg [⟨(some 111), none, .mv (.t 7), []⟩,
          ⟨(some 112), none, .mv (.t 0), []⟩,
          ⟨(some 113), none, .mv (.t 9), []⟩,
          ⟨(some 114), none, .iaddr 3 (.t 112) (.t 113), []⟩,
          ⟨(some 115), none, .faddr 1 (.t 114), []⟩,
          ⟨(some 116), none, .load false 1 (.t 115), []⟩,
          ⟨(some 117), none, .agg [(.int .i64 0), (.int .i64 0), (.sl 1 [] .nil)] [(0, 1, (.c (.int .i64 2))), (1, 1, (.t 116))], []⟩,
          ⟨(some 118), none, .mks 1 3 true [(.int .i64 0), (.int .i64 0), (.sl 1 [] .nil)] [(0, (.t 117))], []⟩,
          ⟨(some 119), none, .app none 3 40 (.t 111) (.t 118), []⟩,
          ⟨(some 7), none, .mv (.t 119), []⟩] [0, 1, 7, 8, 9])
        (.skip)))
      (.seq (.reg [⟨(some 120), none, .mv (.t 0), []⟩,
         ⟨(some 121), none, .mv (.t 9), []⟩,
         ⟨(some 122), none, .iaddr 3 (.t 120) (.t 121), []⟩,
         ⟨(some 123), none, .faddr 0 (.t 122), []⟩,
         ⟨(some 124), none, .load false 1 (.t 123), []⟩,
         ⟨(some 125), none, .bin .neq (.t 124) (.c (.int .i64 3)), []⟩] [0, 1, 7, 8, 9, 125])
       (.cond (.t 125) (.reg [⟨(some 126), none, .mv (.t 8), []⟩,
          ⟨(some 127), none, .mv (.t 0), []⟩,
          ⟨(some 128), none, .mv (.t 9), []⟩,
          ⟨(some 129), none, .iaddr 3 (.t 127) (.t 128), []⟩,
          ⟨(some 130), none, .faddr 1 (.t 129), []⟩,
          ⟨(some 131), none, .load false 1 (.t 130), []⟩,
          ⟨(some 132), none, .bin .add (.t 126) (.t 131), []⟩,
          ⟨(some 8), none, .mv (.t 132), []⟩] [0, 1, 7, 8, 9])
        (.skip))))))))
  (.reg [⟨(some 20), none, .mv (.t 9), []⟩,
    ⟨(some 21), none, .bin .add (.t 20) (.c (.int .i64 1)), []⟩,
    ⟨(some 9), none, .mv (.t 21), []⟩] [0, 1, 7, 8, 9]))
def A24 : AFunc := ⟨2, [.t 4, .t 5], .seq (.reg [⟨(some 4), none, .mv (.c (.sl 3 [] .nil)), []⟩,
   ⟨(some 5), none, .mv (.c (.int .i64 0)), []⟩] [0, 1])
 (.seq (.reg [⟨(some 10), none, .mv (.t 0), []⟩,
    ⟨(some 11), none, .mv (.t 1), []⟩,
    ⟨(some 12), none, .call 40 [(.t 10), (.t 11)], []⟩,
    ⟨(some 6), none, .mv (.t 12), []⟩] [0, 1, 6])
  (.seq (.seq (.reg [⟨(some 13), none, .mv (.t 6), []⟩,
      ⟨(some 14), none, .bin .neq (.t 13) (.c (.int .i64 0)), []⟩] [0, 1, 6, 14])
    (.cond (.t 14) (.seq (.reg [⟨(some 15), none, .mv (.t 6), []⟩,
        ⟨(some 4), none, .mv (.c (.sl 3 [] .nil)), []⟩,
        ⟨(some 5), none, .mv (.t 15), []⟩] [4, 5])
      (.ret))
     (.skip)))
   (.seq (.reg [⟨(some 7), none, .mv (.c (.sl 3 [] .nil)), []⟩] [0, 1, 7])
    (.seq (.reg [⟨(some 8), none, .mv (.c (.int .i64 0)), []⟩] [0, 1, 7, 8])
     (.seq (.seq (.reg [⟨(some 9), none, .mv (.c (.int .i64 0)), []⟩] [0, 1, 7, 8, 9])
       (.blk 0 (.loop L24x0)))
      (.seq (.reg [⟨(some 133), none, .mv (.t 7), []⟩,
         ⟨(some 4), none, .mv (.t 133), []⟩,
         ⟨(some 5), none, .mv (.c (.int .i64 0)), []⟩] [4, 5])
       (.ret)))))))⟩
theorem c24 : cmpF Tryd.prog ⟨[(33, 2), (35, 3), (42, 1)], false⟩ Tryd.f24 K24 = some A24 := by kernel_rfl
/-- collator/collatorref01.Texts -/
def K25 : List (List Nat) := [[0, 1], [0, 1, 10], [4], [0, 1, 5], [0, 1, 5, 14], [0, 1, 5, 25], [4], [0, 1, 5], [4]]
def L25x0 : ACode := .seq (.seq (.reg [⟨(some 11), none, .mv (.t 5), []⟩,
    ⟨(some 12), none, .mv (.t 0), []⟩,
    ⟨(some 13), none, .len false (.t 12), []⟩,
    ⟨(some 14), none, .bin .lss (.t 11) (.t 13), []⟩] [0, 1, 5, 14])
  (.cond (.t 14) (.skip)
   (.exit 0)))
 (.seq (.blk 1 (.seq (.regD [⟨(some 17), none, .mv (.t 0), []⟩,
     ⟨(some 18), none, .mv (.t 5), []⟩,
     ⟨(some 19), none, .iaddr 1 (.t 17) (.t 18), []⟩,
     ⟨(some 20), none, .load false 1 (.t 19), []⟩,
     ⟨(some 21), none, .mv (.t 1), []⟩,
     ⟨(some 22), none, .mv (.t 5), []⟩,
     ⟨(some 23), none, .iaddr 1 (.t 21) (.t 22), []⟩,
     ⟨(some 24), none, .load false 1 (.t 23), []⟩,
     ⟨(some 25), none, .bin .neq (.t 20) (.t 24), []⟩] [0, 1, 5, 25])
   (.cond (.t 25) (.seq (.reg [⟨(some 4), none, .mv (.c (.bool false)), []⟩] [4])
     (.ret))
    (.skip))))
  (.reg [⟨(some 15), none, .mv (.t 5), []⟩,
    ⟨(some 16), none, .bin .add (.t 15) (.c (.int .i64 1)), []⟩,
    ⟨(some 5), none, .mv (.t 16), []⟩] [0, 1, 5]))
def A25 : AFunc := ⟨2, [.t 4], .seq (.reg [⟨(some 4), none, .mv (.c (.bool false)), []⟩] [0, 1])
 (.seq (.seq (.reg [⟨(some 6), none, .mv (.t 0), []⟩,
     ⟨(some 7), none, .len false (.t 6), []⟩,
     ⟨(some 8), none, .mv (.t 1), []⟩,
     ⟨(some 9), none, .len false (.t 8), []⟩,
     ⟨(some 10), none, .bin .neq (.t 7) (.t 9), []⟩] [0, 1, 10])
   (.cond (.t 10) (.seq (.reg [⟨(some 4), none, .mv (.c (.bool false)), []⟩] [4])
     (.ret))
    (.skip)))
  (.seq (.seq (.reg [⟨(some 5), none, .mv (.c (.int .i64 0)), []⟩] [0, 1, 5])
    (.blk 0 (.loop L25x0)))
   (.seq (.reg [⟨(some 4), none, .mv (.c (.bool true)), []⟩] [4])
    (.ret))))⟩
theorem c25 : cmpF Tryd.prog ⟨[(33, 2), (35, 3), (42, 1)], false⟩ Tryd.f25 K25 = some A25 := by kernel_rfl
/-- collator/collatorref04.Same -/
def K26 : List (List Nat) := [[0, 1], [0, 1, 11], [4], [0, 1, 5], [0, 1, 5, 15], [0, 1, 5, 56], [4], [0, 1, 5, 6], [0, 1, 5, 6, 64], [0, 1, 5, 6, 83], [4], [0, 1, 5, 6], [0, 1, 5], [4]]
def L26x0 : ACode := .seq (.seq (.reg [⟨(some 57), none, .mv (.t 6), []⟩,
    ⟨(some 58), none, .mv (.t 0), []⟩,
    ⟨(some 59), none, .mv (.t 5), []⟩,
    ⟨(some 60), none, .iaddr 3 (.t 58) (.t 59), []⟩,
    ⟨(some 61), none, .faddr 2 (.t 60), []⟩,
    ⟨(some 62), none, .load false 1 (.t 61), []⟩,
    ⟨(some 63), none, .len false (.t 62), []⟩,
    ⟨(some 64), none, .bin .lss (.t 57) (.t 63), []⟩] [0, 1, 5, 6, 64])
  (.cond (.t 64) (.skip)
   (.exit 2)))
 (.seq (.blk 3 (.seq (.regD [⟨(some 67), none, .mv (.t 0), []⟩,
     ⟨(some 68), none, .mv (.t 5), []⟩,
     ⟨(some 69), none, .iaddr 3 (.t 67) (.t 68), []⟩,
     ⟨(some 70), none, .faddr 2 (.t 69), []⟩,
     ⟨(some 71), none, .load false 1 (.t 70), []⟩,
     ⟨(some 72), none, .mv (.t 6), []⟩,
     ⟨(some 73), none, .iaddr 1 (.t 71) (.t 72), []⟩,
     ⟨(some 74), none, .load false 1 (.t 73), [4]⟩,
     ⟨(some 75), none, .mv (.t 1), []⟩,
     ⟨(some 76), none, .mv (.t 5), []⟩,
     ⟨(some 77), none, .iaddr 3 (.t 75) (.t 76), []⟩,
     ⟨(some 78), none, .faddr 2 (.t 77), []⟩,
     ⟨(some 79), none, .load false 1 (.t 78), []⟩,
     ⟨(some 80), none, .mv (.t 6), []⟩,
     ⟨(some 81), none, .iaddr 1 (.t 79) (.t 80), []⟩,
     ⟨(some 82), none, .load false 1 (.t 81), [12]⟩,
     ⟨(some 83), none, .bin .neq (.t 74) (.t 82), []⟩] [0, 1, 5, 6, 83])
   (.cond (.t 83) (.seq (.reg [⟨(some 4), none, .mv (.c (.bool false)), []⟩] [4])
     (.ret))
    (.skip))))
  (.reg [⟨(some 65), none, .mv (.t 6), []⟩,
    ⟨(some 66), none, .bin .add (.t 65) (.c (.int .i64 1)), []⟩,
    ⟨(some 6), none, .mv (.t 66), []⟩] [0, 1, 5, 6]))
def L26x1 : ACode := .seq (.seq (.reg [⟨(some 12), none, .mv (.t 5), []⟩,
    ⟨(some 13), none, .mv (.t 0), []⟩,
    ⟨(some 14), none, .len false (.t 13), []⟩,
    ⟨(some 15), none, .bin .lss (.t 12) (.t 14), []⟩] [0, 1, 5, 15])
  (.cond (.t 15) (.skip)
   (.exit 0)))
 (.seq (.blk 1 (.seq (.seq (.regD [⟨(some 18), none, .mv (.t 0), []⟩,
      ⟨(some 19), none, .mv (.t 5), []⟩,
      ⟨(some 20), none, .iaddr 3 (.t 18) (.t 19), []⟩,
      ⟨(some 21), none, .faddr 0 (.t 20), []⟩,
      ⟨(some 22), none, .load false 1 (.t 21), []⟩,
      ⟨(some 23), none, .mv (.t 1), []⟩,
      ⟨(some 24), none, .mv (.t 5), []⟩,
      ⟨(some 25), none, .iaddr 3 (.t 23) (.t 24), []⟩,
      ⟨(some 26), none, .faddr 0 (.t 25), []⟩,
      ⟨(some 27), none, .load false 1 (.t 26), []⟩,
      ⟨(some 28), none, .bin .neq (.t 22) (.t 27), []⟩,
      ⟨(some 29), none, .mv (.t 28), []⟩,
      ⟨(some 30), some (29, false), .mv (.t 0), []⟩,
      ⟨(some 31), some (29, false), .mv (.t 5), []⟩,
      ⟨(some 32), some (29, false), .iaddr 3 (.t 30) (.t 31), []⟩,
      ⟨(some 33), some (29, false), .faddr 1 (.t 32), []⟩,
      ⟨(some 34), some (29, false), .load false 1 (.t 33), [4, 9]⟩,
      ⟨(some 35), some (29, false), .mv (.t 1), []⟩,
      ⟨(some 36), some (29, false), .mv (.t 5), []⟩,
      ⟨(some 37), some (29, false), .iaddr 3 (.t 35) (.t 36), []⟩,
      ⟨(some 38), some (29, false), .faddr 1 (.t 37), []⟩,
      ⟨(some 39), some (29, false), .load false 1 (.t 38), [4, 9]⟩,
      ⟨(some 40), some (29, false), .bin .neq (.t 34) (.t 39), []⟩,
      ⟨(some 41), none, .pick (.t 29) (.c (.bool true)) (.t 40), []⟩,
      ⟨(some 42), none, .mv (.t 41), []⟩,
      ⟨(some 43), some (42, false), .mv (.t 0), []⟩,
      ⟨(some 44), some (42, false), .mv (.t 5), []⟩,
      ⟨(some 45), some (42, false), .iaddr 3 (.t 43) (.t 44), []⟩,
      ⟨(some 46), some (42, false), .faddr 2 (.t 45), []⟩,
      ⟨(some 47), some (42, false), .load false 1 (.t 46), [4, 9, 16, 21]⟩,
      ⟨(some 48), some (42, false), .len false (.t 47), []⟩,
      ⟨(some 49), some (42, false), .mv (.t 1), []⟩,
      ⟨(some 50), some (42, false), .mv (.t 5), []⟩,
      ⟨(some 51), some (42, false), .iaddr 3 (.t 49) (.t 50), []⟩,
      ⟨(some 52), some (42, false), .faddr 2 (.t 51), []⟩,
      ⟨(some 53), some (42, false), .load false 1 (.t 52), [4, 9, 16, 21]⟩,
      ⟨(some 54), some (42, false), .len false (.t 53), []⟩,
      ⟨(some 55), some (42, false), .bin .neq (.t 48) (.t 54), []⟩,
      ⟨(some 56), none, .pick (.t 42) (.c (.bool true)) (.t 55), []⟩] [0, 1, 5, 56])
    (.cond (.t 56) (.seq (.reg [⟨(some 4), none, .mv (.c (.bool false)), []⟩] [4])
      (.ret))
     (.skip)))
   (.seq (.reg [⟨(some 6), none, .mv (.c (.int .i64 0)), []⟩] [0, 1, 5, 6])
    (.blk 2 (.loop L26x0)))))
  (.reg [⟨(some 16), none, .mv (.t 5), []⟩,
    ⟨(some 17), none, .bin .add (.t 16) (.c (.int .i64 1)), []⟩,
    ⟨(some 5), none, .mv (.t 17), []⟩] [0, 1, 5]))
def A26 : AFunc := ⟨2, [.t 4], .seq (.reg [⟨(some 4), none, .mv (.c (.bool false)), []⟩] [0, 1])
 (.seq (.seq (.reg [⟨(some 7), none, .mv (.t 0), []⟩,
     ⟨(some 8), none, .len false (.t 7), []⟩,
     ⟨(some 9), none, .mv (.t 1), []⟩,
     ⟨(some 10), none, .len false (.t 9), []⟩,
     ⟨(some 11), none, .bin .neq (.t 8) (.t 10), []⟩] [0, 1, 11])
   (.cond (.t 11) (.seq (.reg [⟨(some 4), none, .mv (.c (.bool false)), []⟩] [4])
     (.ret))
    (.skip)))
  (.seq (.seq (.reg [⟨(some 5), none, .mv (.c (.int .i64 0)), []⟩] [0, 1, 5])
    (.blk 0 (.loop L26x1)))
   (.seq (.reg [⟨(some 4), none, .mv (.c (.bool true)), []⟩] [4])
    (.ret))))⟩
theorem c26 : cmpF Tryd.prog ⟨[(33, 2), (35, 3), (42, 1)], false⟩ Tryd.f26 K26 = some A26 := by kernel_rfl
/-- collator/collatorlaw04.pick -/
def K27 : List (List Nat) := [[0, 1], [0, 1, 6], [0, 1], [4]]
def A27 : AFunc := ⟨2, [.t 4], .seq (.reg [⟨(some 4), none, .mv (.c (.int .i64 0)), []⟩] [0, 1])
 (.seq (.seq (.reg [⟨(some 5), none, .mv (.t 0), []⟩,
     ⟨(some 6), none, .bin .lss (.t 5) (.c (.int .i64 0)), []⟩] [0, 1, 6])
   (.cond (.t 6) (.reg [⟨(some 7), none, .mv (.t 0), []⟩,
      ⟨(some 8), none, .bin .add (.t 7) (.c (.int .i64 1)), []⟩,
      ⟨(some 9), none, .un .neg (.t 8), []⟩,
      ⟨(some 0), none, .mv (.t 9), []⟩] [0, 1])
    (.skip)))
  (.seq (.reg [⟨(some 10), none, .mv (.t 0), []⟩,
     ⟨(some 11), none, .mv (.t 1), []⟩,
     ⟨(some 12), none, .bin .rem (.t 10) (.t 11), []⟩,
     ⟨(some 4), none, .mv (.t 12), []⟩] [4])
   (.ret)))⟩
theorem c27 : cmpF Tryd.prog ⟨[(33, 2), (35, 3), (42, 1)], false⟩ Tryd.f27 K27 = some A27 := by kernel_rfl
/-- collator/script.Decode -/
def K28 : List (List Nat) := [[1, 2, 3], [1, 2, 3], [1, 2, 3, 4], [1, 2, 3, 4, 12], [1, 2, 3, 4, 5], [1, 2, 3, 4, 5], [1, 2, 3, 4, 5], [1, 2, 3, 4, 5, 6], [1, 2, 3, 4, 5, 6], [1, 2, 3, 4, 5, 6, 7], [1, 2, 3, 4, 5, 6, 7, 36], [1, 2, 3, 4, 5, 6, 7, 8], [1, 2, 3, 4, 5, 6, 7, 8], [1, 2, 3, 4, 5, 6, 7], [1, 2, 3, 4, 5, 6, 7], [1, 2, 3, 4], [2, 3], [2, 3]]
def L28x0 : ACode := .seq (.seq (.reg [⟨(some 29), none, .mv (.t 5), []⟩,
    ⟨(some 30), none, .bin .eql (.t 29) (.c (.int .i64 3)), []⟩,
    ⟨(some 31), none, .mv (.t 30), []⟩,
    ⟨(some 32), some (31, true), .mv (.t 7), []⟩,
    ⟨(some 33), some (31, true), .faddr 1 (.t 6), []⟩,
    ⟨(some 34), some (31, true), .load false 1 (.t 33), []⟩,
    ⟨(some 35), some (31, true), .bin .lss (.t 32) (.t 34), []⟩,
    ⟨(some 36), none, .pick (.t 31) (.t 35) (.c (.bool false)), []⟩] [1, 2, 3, 4, 5, 6, 7, 36])
  (.cond (.t 36) (.skip)
   (.exit 2)))
 (.seq (.blk 3 (.seq (.reg [⟨(some 39), none, .mv (.t 4), []⟩,
     ⟨(some 40), none, .callv (.t 39) [(.c (.str [58]))], []⟩,
     ⟨(some 8), none, .mv (.t 40), []⟩] [1, 2, 3, 4, 5, 6, 7, 8])
   (.seq (.reg [⟨(some 41), none, .mv (.t 8), []⟩,
      ⟨(some 42), none, .load false 1 (.t 1), []⟩,
      ⟨(some 43), none, .len true (.t 42), []⟩,
      ⟨(some 44), none, .bin .leq (.t 41) (.t 43), []⟩,
      ⟨(some 45), none, .call 46 [(.t 44)], []⟩] [1, 2, 3, 4, 5, 6, 7, 8])
    (.regD [⟨(some 46), none, .faddr 2 (.t 6), []⟩,
      ⟨(some 47), none, .load false 1 (.t 46), []⟩,
      ⟨(some 48), none, .load false 1 (.t 1), []⟩,
      ⟨(some 49), none, .mv (.t 8), []⟩,
      ⟨(some 50), none, .slice none (.t 48) none (some (.t 49)) none, []⟩,
      ⟨(some 51), none, .mks 1 1 false [(.str [])] [(0, (.t 50))], []⟩,
      ⟨(some 52), none, .app none 1 16 (.t 47) (.t 51), [1, 2]⟩,
      ⟨(some 53), none, .load false 1 (.t 1), []⟩,
      ⟨(some 54), none, .mv (.t 8), []⟩,
      ⟨(some 55), none, .slice none (.t 53) (some (.t 54)) none none, []⟩,
      ⟨(some 56), none, .faddr 2 (.t 6), []⟩,
      ⟨none, none, .store 1 (.t 56) (.t 52), [6, 1, 2]⟩,
      ⟨none, none, .store 1 (.t 1) (.t 55), [11, 1, 2, 6, 7]⟩] [1, 2, 3, 4, 5, 6, 7]))))
  (.reg [⟨(some 37), none, .mv (.t 7), []⟩,
    ⟨(some 38), none, .bin .add (.t 37) (.c (.int .i64 1)), []⟩,
    ⟨(some 7), none, .mv (.t 38), []⟩] [1, 2, 3, 4, 5, 6, 7]))
def L28x1 : ACode := .seq (.seq (.reg [⟨(some 11), none, .load false 1 (.t 1), []⟩,
    ⟨(some 12), none, .bin .neq (.t 11) (.c (.str [])), []⟩] [1, 2, 3, 4, 12])
  (.cond (.t 12) (.skip)
   (.exit 0)))
 (.blk 1 (.seq (.reg [⟨(some 13), none, .load false 1 (.t 1), []⟩,
    ⟨(some 14), none, .sidx (.t 13) (.c (.int .i64 0)), []⟩,
    ⟨(some 15), none, .call 48 [(.c (.str [63, 61, 45, 43])), (.t 14)], []⟩,
    ⟨(some 5), none, .mv (.t 15), []⟩] [1, 2, 3, 4, 5])
  (.seq (.reg [⟨(some 16), none, .mv (.t 5), []⟩,
     ⟨(some 17), none, .bin .gtr (.t 16) (.c (.int .i64 0)), []⟩,
     ⟨(some 18), none, .call 46 [(.t 17)], []⟩] [1, 2, 3, 4, 5])
   (.seq (.reg [⟨(some 19), none, .load false 1 (.t 1), []⟩,
      ⟨(some 20), none, .slice none (.t 19) (some (.c (.int .i64 1))) none none, []⟩,
      ⟨none, none, .store 1 (.t 1) (.t 20), []⟩] [1, 2, 3, 4, 5])
    (.seq (.reg [⟨(some 21), none, .mv (.t 5), []⟩,
       ⟨(some 22), none, .mv (.t 4), []⟩,
       ⟨(some 23), none, .callv (.t 22) [(.c (.str [59]))], []⟩,
       ⟨(some 24), none, .agg [(.int .i64 0), (.int .i64 0), (.sl 1 [] .nil)] [(0, 1, (.t 21)), (1, 1, (.t 23))], []⟩,
       ⟨(some 6), none, .alloc [(.int .i64 0), (.int .i64 0), (.sl 1 [] .nil)], []⟩,
       ⟨none, none, .store 3 (.t 6) (.t 24), []⟩] [1, 2, 3, 4, 5, 6])
     (.seq (.reg [⟨(some 25), none, .faddr 1 (.t 6), []⟩,
        ⟨(some 26), none, .load false 1 (.t 25), []⟩,
        ⟨(some 27), none, .bin .leq (.t 26) (.c (.int .i64 1048576)), []⟩,
        ⟨(some 28), none, .call 46 [(.t 27)], []⟩] [1, 2, 3, 4, 5, 6])
      (.seq (.seq (.reg [⟨(some 7), none, .mv (.c (.int .i64 0)), []⟩] [1, 2, 3, 4, 5, 6, 7])
        (.blk 2 (.loop L28x0)))
       (.reg [⟨(some 57), none, .load false 1 (.t 2), []⟩,
         ⟨(some 58), none, .load true 3 (.t 6), []⟩,
         ⟨(some 59), none, .mks 1 3 true [(.int .i64 0), (.int .i64 0), (.sl 1 [] .nil)] [(0, (.t 58))], []⟩,
         ⟨(some 60), none, .app none 3 40 (.t 57) (.t 59), []⟩,
         ⟨none, none, .store 1 (.t 2) (.t 60), []⟩] [1, 2, 3, 4]))))))))
def A28 : AFunc := ⟨1, [.c 2 false 1, .c 3 false 1], .seq (.reg [⟨(some 1), none, .box (.t 0), []⟩,
   ⟨(some 2), none, .alloc [(.sl 3 [] .nil)], []⟩,
   ⟨(some 3), none, .alloc [(.int .i64 0)], []⟩] [1, 2, 3])
 (.seq (.dfr 9 43 [(.t 2), (.t 3)])
  (.seq (.reg [⟨(some 10), none, .mkf 44 [(.t 1)], []⟩,
     ⟨(some 4), none, .mv (.t 10), []⟩] [1, 2, 3, 4])
   (.seq (.blk 0 (.loop L28x1))
    (.seq (.reg [⟨(some 61), none, .load false 1 (.t 2), []⟩,
       ⟨(some 62), none, .call 16 [(.t 61)], []⟩,
       ⟨(some 63), none, .call 46 [(.t 62)], []⟩] [2, 3])
     (.seq (.reg [⟨(some 64), none, .load false 1 (.t 2), []⟩,
        ⟨none, none, .store 1 (.t 2) (.t 64), []⟩,
        ⟨none, none, .store 1 (.t 3) (.c (.int .i64 0)), []⟩] [2, 3])
      (.ret))))))⟩
theorem c28 : cmpF Tryd.prog ⟨[(33, 2), (35, 3), (42, 1)], false⟩ Tryd.f28 K28 = some A28 := by kernel_rfl
/-- collator/collatorref04.Decode -/
def K29 : List (List Nat) := [[0], [0, 4], [4, 5], [4, 5, 12], [4, 6, 7, 8], [4, 6, 7, 20], [2, 3], [4, 7], [4, 5], [4, 9], [4, 29], [2, 3], [2, 3]]
def L29x0 : ACode := .seq (.seq (.reg [⟨(some 11), none, .mv (.t 5), []⟩,
    ⟨(some 12), none, .bin .neq (.t 11) (.c (.str [])), []⟩] [4, 5, 12])
  (.cond (.t 12) (.skip)
   (.exit 0)))
 (.blk 1 (.seq (.reg [⟨(some 14), none, .mv (.t 5), []⟩,
    ⟨(some 15), none, .call 49 [(.t 14)], []⟩,
    ⟨(some 13), none, .mv (.t 15), []⟩,
    ⟨(some 16), none, .ext (.t 13) 0, []⟩,
    ⟨(some 17), none, .ext (.t 13) 1, []⟩,
    ⟨(some 18), none, .ext (.t 13) 2, []⟩,
    ⟨(some 6), none, .alloc [(.int .i64 0), (.int .i64 0), (.sl 1 [] .nil)], []⟩,
    ⟨none, none, .store 3 (.t 6) (.t 16), []⟩,
    ⟨(some 7), none, .mv (.t 17), []⟩,
    ⟨(some 8), none, .mv (.t 18), []⟩] [4, 6, 7, 8])
  (.seq (.seq (.reg [⟨(some 19), none, .mv (.t 8), []⟩,
      ⟨(some 20), none, .un .not (.t 19), []⟩] [4, 6, 7, 20])
    (.cond (.t 20) (.seq (.reg [⟨(some 2), none, .mv (.c (.sl 3 [] .nil)), []⟩,
        ⟨(some 3), none, .mv (.c (.int .i64 11)), []⟩] [2, 3])
      (.ret))
     (.skip)))
   (.seq (.reg [⟨(some 21), none, .mv (.t 4), []⟩,
      ⟨(some 22), none, .load true 3 (.t 6), []⟩,
      ⟨(some 23), none, .mks 1 3 true [(.int .i64 0), (.int .i64 0), (.sl 1 [] .nil)] [(0, (.t 22))], []⟩,
      ⟨(some 24), none, .app none 3 40 (.t 21) (.t 23), []⟩,
      ⟨(some 4), none, .mv (.t 24), []⟩] [4, 7])
    (.reg [⟨(some 25), none, .mv (.t 7), []⟩,
      ⟨(some 5), none, .mv (.t 25), []⟩] [4, 5])))))
def A29 : AFunc := ⟨1, [.t 2, .t 3], .seq (.reg [⟨(some 2), none, .mv (.c (.sl 3 [] .nil)), []⟩,
   ⟨(some 3), none, .mv (.c (.int .i64 0)), []⟩] [0])
 (.seq (.reg [⟨(some 4), none, .mv (.c (.sl 3 [] .nil)), []⟩] [0, 4])
  (.seq (.seq (.reg [⟨(some 10), none, .mv (.t 0), []⟩,
      ⟨(some 5), none, .mv (.t 10), []⟩] [4, 5])
    (.blk 0 (.loop L29x0)))
   (.seq (.reg [⟨(some 26), none, .mv (.t 4), []⟩,
      ⟨(some 27), none, .call 17 [(.t 26)], []⟩,
      ⟨(some 9), none, .mv (.t 27), []⟩] [4, 9])
    (.seq (.seq (.reg [⟨(some 28), none, .mv (.t 9), []⟩,
        ⟨(some 29), none, .un .not (.t 28), []⟩] [4, 29])
      (.cond (.t 29) (.seq (.reg [⟨(some 2), none, .mv (.c (.sl 3 [] .nil)), []⟩,
          ⟨(some 3), none, .mv (.c (.int .i64 11)), []⟩] [2, 3])
        (.ret))
       (.skip)))
     (.seq (.reg [⟨(some 30), none, .mv (.t 4), []⟩,
        ⟨(some 2), none, .mv (.t 30), []⟩,
        ⟨(some 3), none, .mv (.c (.int .i64 0)), []⟩] [2, 3])
      (.ret))))))⟩
theorem c29 : cmpF Tryd.prog ⟨[(33, 2), (35, 3), (42, 1)], false⟩ Tryd.f29 K29 = some A29 := by kernel_rfl
/-- collator/collatorref04.Digits -/
def K30 : List (List Nat) := [[0], [0, 4], [2], [2]]
def A30 : AFunc := ⟨1, [.t 2], .seq (.reg [⟨(some 2), none, .mv (.c (.str [])), []⟩] [0])
 (.seq (.seq (.reg [⟨(some 3), none, .mv (.t 0), []⟩,
     ⟨(some 4), none, .bin .lss (.t 3) (.c (.int .i64 10)), []⟩] [0, 4])
   (.cond (.t 4) (.seq (.reg [⟨(some 5), none, .mv (.t 0), []⟩,
       ⟨(some 6), none, .mv (.t 0), []⟩,
       ⟨(some 7), none, .bin .add (.t 6) (.c (.int .i64 1)), []⟩,
       ⟨(some 8), none, .slice none (.c (.str [48, 49, 50, 51, 52, 53, 54, 55, 56, 57])) (some (.t 5)) (some (.t 7)) none, []⟩,
       ⟨(some 2), none, .mv (.t 8), []⟩] [2])
     (.ret))
    (.skip)))
  (.seq (.reg [⟨(some 9), none, .mv (.t 0), []⟩,
     ⟨(some 10), none, .bin .quo (.t 9) (.c (.int .i64 10)), []⟩,
     ⟨(some 11), none, .call 30 [(.t 10)], []⟩,
     ⟨(some 12), none, .mv (.t 0), []⟩,
     ⟨(some 13), none, .bin .rem (.t 12) (.c (.int .i64 10)), []⟩,
     ⟨(some 14), none, .call 30 [(.t 13)], []⟩,
     ⟨(some 15), none, .bin .add (.t 11) (.t 14), []⟩,
     ⟨(some 2), none, .mv (.t 15), []⟩] [2])
   (.ret)))⟩
theorem c30 : cmpF Tryd.prog ⟨[(33, 2), (35, 3), (42, 1)], false⟩ Tryd.f30 K30 = some A30 := by kernel_rfl
/-- collator/collatorlaw04.full -/
def K31 : List (List Nat) := [[0, 1], [0, 1, 5], [0, 1, 5, 6], [0, 1, 5, 6, 10], [0, 1, 5, 6, 7], [0, 1, 5, 6, 7, 17], [0, 1, 5, 6, 7], [0, 1, 5, 6], [0, 1, 5, 6], [4]]
def L31x0 : ACode := .seq (.seq (.reg [⟨(some 8), none, .mv (.t 6), []⟩,
    ⟨(some 9), none, .mv (.t 1), []⟩,
    ⟨(some 10), none, .bin .lss (.t 8) (.t 9), []⟩] [0, 1, 5, 6, 10])
  (.cond (.t 10) (.skip)
   (.exit 0)))
 (.seq (.blk 1 (.seq (.reg [⟨(some 13), none, .mv (.t 6), []⟩,
     ⟨(some 7), none, .mv (.t 13), []⟩] [0, 1, 5, 6, 7])
   (.seq (.seq (.reg [⟨(some 14), none, .mv (.t 6), []⟩,
       ⟨(some 15), none, .mv (.t 0), []⟩,
       ⟨(some 16), none, .len false (.t 15), []⟩,
       ⟨(some 17), none, .bin .lss (.t 14) (.t 16), []⟩] [0, 1, 5, 6, 7, 17])
     (.cond (.t 17) (.reg [⟨(some 18), none, .mv (.t 0), []⟩,
        ⟨(some 19), none, .mv (.t 6), []⟩,
        ⟨(some 20), none, .iaddr 1 (.t 18) (.t 19), []⟩,
        ⟨(some 21), none, .load false 1 (.t 20), []⟩,
        ⟨(some 7), none, .mv (.t 21), []⟩] [0, 1, 5, 6, 7])
      (.skip)))
    (.reg [⟨(some 22), none, .mv (.t 5), []⟩,
      ⟨(some 23), none, .mks 5 1 false [(.str [])] [(0, (.c (.str [97, 10]))), (1, (.c (.str [98, 10]))), (2, (.c (.str [99, 10]))), (3, (.c (.str []))), (4, (.c (.str [120, 58, 121, 59])))], []⟩,
      ⟨(some 24), none, .mv (.t 7), []⟩,
      ⟨(some 25), none, .call 27 [(.t 24), (.c (.int .i64 5))], []⟩,
      ⟨(some 26), none, .iaddr 1 (.t 23) (.t 25), []⟩,
      ⟨(some 27), none, .load false 1 (.t 26), []⟩,
      ⟨(some 28), none, .mks 1 1 false [(.str [])] [(0, (.t 27))], []⟩,
      ⟨(some 29), none, .app none 1 16 (.t 22) (.t 28), []⟩,
      ⟨(some 5), none, .mv (.t 29), []⟩] [0, 1, 5, 6]))))
  (.reg [⟨(some 11), none, .mv (.t 6), []⟩,
    ⟨(some 12), none, .bin .add (.t 11) (.c (.int .i64 1)), []⟩,
    ⟨(some 6), none, .mv (.t 12), []⟩] [0, 1, 5, 6]))
def A31 : AFunc := ⟨2, [.t 4], .seq (.reg [⟨(some 4), none, .mv (.c (.sl 1 [] .nil)), []⟩] [0, 1])
 (.seq (.reg [⟨(some 5), none, .mv (.c (.sl 1 [] .nil)), []⟩] [0, 1, 5])
  (.seq (.seq (.reg [⟨(some 6), none, .mv (.c (.int .i64 0)), []⟩] [0, 1, 5, 6])
    (.blk 0 (.loop L31x0)))
   (.seq (.reg [⟨(some 30), none, .mv (.t 5), []⟩,
      ⟨(some 4), none, .mv (.t 30), []⟩] [4])
    (.ret))))⟩
theorem c31 : cmpF Tryd.prog ⟨[(33, 2), (35, 3), (42, 1)], false⟩ Tryd.f31 K31 = some A31 := by kernel_rfl
/-- collator/collatorref04.many -/
def K32 : List (List Nat) := [[0, 1, 2], [0, 1, 2, 7], [0, 1, 2, 7, 8], [0, 1, 2, 7, 8, 12], [0, 1, 2, 7, 8, 30], [0, 1, 2, 7, 8], [0, 1, 2, 7, 8], [6]]
def L32x0 : ACode := .seq (.seq (.reg [⟨(some 9), none, .mv (.t 8), []⟩,
    ⟨(some 10), none, .mv (.t 0), []⟩,
    ⟨(some 11), none, .len false (.t 10), []⟩,
    ⟨(some 12), none, .bin .lss (.t 9) (.t 11), []⟩] [0, 1, 2, 7, 8, 12])
  (.cond (.t 12) (.skip)
   (.exit 0)))
 (.seq (.blk 1 (.seq (.reg [⟨(some 15), none, .mv (.t 0), []⟩,
     ⟨(some 16), none, .mv (.t 8), []⟩,
     ⟨(some 17), none, .iaddr 3 (.t 15) (.t 16), []⟩,
     ⟨(some 18), none, .faddr 0 (.t 17), []⟩,
     ⟨(some 19), none, .load false 1 (.t 18), []⟩,
     ⟨(some 20), none, .mv (.t 1), []⟩,
     ⟨(some 21), none, .bin .eql (.t 19) (.t 20), []⟩,
     ⟨(some 22), none, .mv (.t 21), []⟩,
     ⟨(some 23), some (22, false), .mv (.t 0), []⟩,
     ⟨(some 24), some (22, false), .mv (.t 8), []⟩,
     ⟨(some 25), some (22, false), .iaddr 3 (.t 23) (.t 24), []⟩,
     ⟨(some 26), some (22, false), .faddr 0 (.t 25), []⟩,
     ⟨(some 27), some (22, false), .load false 1 (.t 26), []⟩,
     ⟨(some 28), some (22, false), .mv (.t 2), []⟩,
     ⟨(some 29), some (22, false), .bin .eql (.t 27) (.t 28), []⟩,
     ⟨(some 30), none, .pick (.t 22) (.c (.bool true)) (.t 29), []⟩] [0, 1, 2, 7, 8, 30])
   (.cond (.t 30) (.reg [⟨(some 31), none, .mv (.t 7), []⟩,
      ⟨(some 32), none, .mv (.t 0), []⟩,
      ⟨(some 33), none, .mv (.t 8), []⟩,
      ⟨(some 34), none, .iaddr 3 (.t 32) (.t 33), []⟩,
      ⟨(some 35), none, .faddr 1 (.t 34), []⟩,
      ⟨(some 36), none, .load false 1 (.t 35), []⟩,
      ⟨(some 37), none, .bin .add (.t 31) (.t 36), []⟩,
      ⟨(some 7), none, .mv (.t 37), []⟩] [0, 1, 2, 7, 8])
    (.skip))))
  (.reg [⟨(some 13), none, .mv (.t 8), []⟩,
    ⟨(some 14), none, .bin .add (.t 13) (.c (.int .i64 1)), []⟩,
    ⟨(some 8), none, .mv (.t 14), []⟩] [0, 1, 2, 7, 8]))
def A32 : AFunc := ⟨3, [.t 6], .seq (.reg [⟨(some 6), none, .mv (.c (.int .i64 0)), []⟩] [0, 1, 2])
 (.seq (.reg [⟨(some 7), none, .mv (.c (.int .i64 0)), []⟩] [0, 1, 2, 7])
  (.seq (.seq (.reg [⟨(some 8), none, .mv (.c (.int .i64 0)), []⟩] [0, 1, 2, 7, 8])
    (.blk 0 (.loop L32x0)))
   (.seq (.reg [⟨(some 38), none, .mv (.t 7), []⟩,
      ⟨(some 6), none, .mv (.t 38), []⟩] [6])
    (.ret))))⟩
theorem c32 : cmpF Tryd.prog ⟨[(33, 2), (35, 3), (42, 1)], false⟩ Tryd.f32 K32 = some A32 := by kernel_rfl
/-- collator/script.may -/
def K36 : List (List Nat) := [[1], [1, 10], [2], [1, 12], [1, 12, 13], [1, 12, 13], [2], [1, 20], [2], [2]]
def A36 : AFunc := ⟨1, [.t 2], .seq (.reg [⟨(some 1), none, .box (.t 0), []⟩,
   ⟨(some 2), none, .mv (.c (.bool false)), []⟩] [1])
 (.seq (.seq (.reg [⟨(some 3), none, .faddr 1 (.t 1), []⟩,
     ⟨(some 4), none, .load false 1 (.t 3), []⟩,
     ⟨(some 5), none, .bin .lss (.t 4) (.c (.int .i64 1)), []⟩,
     ⟨(some 6), none, .mv (.t 5), []⟩,
     ⟨(some 7), some (6, false), .faddr 1 (.t 1), []⟩,
     ⟨(some 8), some (6, false), .load false 1 (.t 7), []⟩,
     ⟨(some 9), some (6, false), .bin .gtr (.t 8) (.c (.int .i64 1048576)), []⟩,
     ⟨(some 10), none, .pick (.t 6) (.c (.bool true)) (.t 9), []⟩] [1, 10])
   (.cond (.t 10) (.seq (.reg [⟨(some 2), none, .mv (.c (.bool false)), []⟩] [2])
     (.ret))
    (.skip)))
  (.seq (.seq (.reg [⟨(some 11), none, .faddr 0 (.t 1), []⟩,
      ⟨(some 12), none, .load false 1 (.t 11), []⟩] [1, 12])
    (.blk 0 (.seq (.seq (.reg [⟨(some 14), none, .bin .eql (.t 12) (.c (.int .i64 1)), []⟩,
        ⟨(some 13), none, .mv (.t 14), []⟩] [1, 12, 13])
      (.cond (.t 13) (.skip)
       (.reg [⟨(some 15), none, .bin .eql (.t 12) (.c (.int .i64 2)), []⟩,
         ⟨(some 13), none, .mv (.t 15), []⟩] [1, 12, 13])))
     (.cond (.t 13) (.seq (.reg [⟨(some 16), none, .faddr 2 (.t 1), []⟩,
         ⟨(some 17), none, .load false 1 (.t 16), []⟩,
         ⟨(some 18), none, .len false (.t 17), []⟩,
         ⟨(some 19), none, .bin .eql (.t 18) (.c (.int .i64 0)), []⟩,
         ⟨(some 2), none, .mv (.t 19), []⟩] [2])
       (.ret))
      (.seq (.reg [⟨(some 21), none, .bin .eql (.t 12) (.c (.int .i64 3)), []⟩,
         ⟨(some 20), none, .mv (.t 21), []⟩] [1, 20])
       (.cond (.t 20) (.seq (.reg [⟨(some 22), none, .faddr 2 (.t 1), []⟩,
           ⟨(some 23), none, .load false 1 (.t 22), []⟩,
           ⟨(some 24), none, .len false (.t 23), []⟩,
           ⟨(some 25), none, .faddr 1 (.t 1), []⟩,
           ⟨(some 26), none, .load false 1 (.t 25), []⟩,
           ⟨(some 27), none, .bin .eql (.t 24) (.t 26), []⟩,
           ⟨(some 2), none, .mv (.t 27), []⟩] [2])
         (.ret))
        (.skip)))))))
   (.seq (.reg [⟨(some 2), none, .mv (.c (.bool false)), []⟩] [2])
    (.ret))))⟩
theorem c36 : cmpF Tryd.prog ⟨[(33, 2), (35, 3), (42, 1)], false⟩ Tryd.f36 K36 = some A36 := by kernel_rfl
/-- collator/collatorref04.may -/
def K37 : List (List Nat) := [[1], [1, 20], [2], [1, 23], [2], [2]]
def A37 : AFunc := ⟨1, [.t 2], .seq (.reg [⟨(some 1), none, .box (.t 0), []⟩,
   ⟨(some 2), none, .mv (.c (.bool false)), []⟩] [1])
 (.seq (.seq (.reg [⟨(some 3), none, .faddr 0 (.t 1), []⟩,
     ⟨(some 4), none, .load false 1 (.t 3), []⟩,
     ⟨(some 5), none, .bin .lss (.t 4) (.c (.int .i64 1)), []⟩,
     ⟨(some 6), none, .mv (.t 5), []⟩,
     ⟨(some 7), some (6, false), .faddr 0 (.t 1), []⟩,
     ⟨(some 8), some (6, false), .load false 1 (.t 7), []⟩,
     ⟨(some 9), some (6, false), .bin .gtr (.t 8) (.c (.int .i64 3)), []⟩,
     ⟨(some 10), none, .pick (.t 6) (.c (.bool true)) (.t 9), []⟩,
     ⟨(some 11), none, .mv (.t 10), []⟩,
     ⟨(some 12), some (11, false), .faddr 1 (.t 1), []⟩,
     ⟨(some 13), some (11, false), .load false 1 (.t 12), []⟩,
     ⟨(some 14), some (11, false), .bin .lss (.t 13) (.c (.int .i64 1)), []⟩,
     ⟨(some 15), none, .pick (.t 11) (.c (.bool true)) (.t 14), []⟩,
     ⟨(some 16), none, .mv (.t 15), []⟩,
     ⟨(some 17), some (16, false), .faddr 1 (.t 1), []⟩,
     ⟨(some 18), some (16, false), .load false 1 (.t 17), []⟩,
     ⟨(some 19), some (16, false), .bin .gtr (.t 18) (.c (.int .i64 1048576)), []⟩,
     ⟨(some 20), none, .pick (.t 16) (.c (.bool true)) (.t 19), []⟩] [1, 20])
   (.cond (.t 20) (.seq (.reg [⟨(some 2), none, .mv (.c (.bool false)), []⟩] [2])
     (.ret))
    (.skip)))
  (.seq (.seq (.reg [⟨(some 21), none, .faddr 0 (.t 1), []⟩,
      ⟨(some 22), none, .load false 1 (.t 21), []⟩,
      ⟨(some 23), none, .bin .eql (.t 22) (.c (.int .i64 3)), []⟩] [1, 23])
    (.cond (.t 23) (.seq (.reg [⟨(some 24), none, .faddr 2 (.t 1), []⟩,
        ⟨(some 25), none, .load false 1 (.t 24), []⟩,
        ⟨(some 26), none, .len false (.t 25), []⟩,
        ⟨(some 27), none, .faddr 1 (.t 1), []⟩,
        ⟨(some 28), none, .load false 1 (.t 27), []⟩,
        ⟨(some 29), none, .bin .eql (.t 26) (.t 28), []⟩,
        ⟨(some 2), none, .mv (.t 29), []⟩] [2])
      (.ret))
     (.skip)))
   (.seq (.reg [⟨(some 30), none, .faddr 2 (.t 1), []⟩,
      ⟨(some 31), none, .load false 1 (.t 30), []⟩,
      ⟨(some 32), none, .len false (.t 31), []⟩,
      ⟨(some 33), none, .bin .eql (.t 32) (.c (.int .i64 0)), []⟩,
      ⟨(some 2), none, .mv (.t 33), []⟩] [2])
    (.ret))))⟩
theorem c37 : cmpF Tryd.prog ⟨[(33, 2), (35, 3), (42, 1)], false⟩ Tryd.f37 K37 = some A37 := by kernel_rfl
/-- collator/collatorlaw03.pick -/
def K38 : List (List Nat) := [[0, 1], [0, 1, 6], [0, 1], [4]]
def A38 : AFunc := ⟨2, [.t 4], .seq (.reg [⟨(some 4), none, .mv (.c (.int .i64 0)), []⟩] [0, 1])
 (.seq (.seq (.reg [⟨(some 5), none, .mv (.t 0), []⟩,
     ⟨(some 6), none, .bin .lss (.t 5) (.c (.int .i64 0)), []⟩] [0, 1, 6])
   (.cond (.t 6) (.reg [⟨(some 7), none, .mv (.t 0), []⟩,
      ⟨(some 8), none, .bin .add (.t 7) (.c (.int .i64 1)), []⟩,
      ⟨(some 9), none, .un .neg (.t 8), []⟩,
      ⟨(some 0), none, .mv (.t 9), []⟩] [0, 1])
    (.skip)))
  (.seq (.reg [⟨(some 10), none, .mv (.t 0), []⟩,
     ⟨(some 11), none, .mv (.t 1), []⟩,
     ⟨(some 12), none, .bin .rem (.t 10) (.t 11), []⟩,
     ⟨(some 4), none, .mv (.t 12), []⟩] [4])
   (.ret)))⟩
theorem c38 : cmpF Tryd.prog ⟨[(33, 2), (35, 3), (42, 1)], false⟩ Tryd.f38 K38 = some A38 := by kernel_rfl
/-- collator/script.fits -/
def K39 : List (List Nat) := [[0, 1], [0, 1, 5], [1, 5, 12], [4], [16], [4], [4]]
def A39 : AFunc := ⟨2, [.t 4], .seq (.reg [⟨(some 4), none, .mv (.c (.int .i64 0)), []⟩] [0, 1])
 (.seq (.reg [⟨(some 8), none, .mv (.t 0), []⟩,
    ⟨(some 9), none, .call 12 [(.t 8)], []⟩,
    ⟨(some 7), none, .mv (.t 9), []⟩,
    ⟨(some 10), none, .ext (.t 7) 0, []⟩,
    ⟨(some 11), none, .ext (.t 7) 1, []⟩,
    ⟨(some 5), none, .mv (.t 10), []⟩,
    ⟨(some 6), none, .mv (.t 11), []⟩] [0, 1, 5])
  (.seq (.blk 0 (.seq (.reg [⟨(some 13), none, .mv (.t 0), []⟩,
      ⟨(some 14), none, .call 16 [(.t 13)], []⟩,
      ⟨(some 15), none, .un .not (.t 14), []⟩,
      ⟨(some 12), none, .mv (.t 15), []⟩] [1, 5, 12])
    (.cond (.t 12) (.seq (.reg [⟨(some 4), none, .mv (.c (.int .i64 1)), []⟩] [4])
      (.ret))
     (.seq (.reg [⟨(some 17), none, .mv (.t 5), []⟩,
        ⟨(some 18), none, .mv (.t 1), []⟩,
        ⟨(some 19), none, .len false (.t 18), []⟩,
        ⟨(some 20), none, .bin .neq (.t 17) (.t 19), []⟩,
        ⟨(some 16), none, .mv (.t 20), []⟩] [16])
      (.cond (.t 16) (.seq (.reg [⟨(some 4), none, .mv (.c (.int .i64 11)), []⟩] [4])
        (.ret))
       (.skip))))))
   (.seq (.reg [⟨(some 4), none, .mv (.c (.int .i64 0)), []⟩] [4])
    (.ret))))⟩
theorem c39 : cmpF Tryd.prog ⟨[(33, 2), (35, 3), (42, 1)], false⟩ Tryd.f39 K39 = some A39 := by kernel_rfl
/-- collator/collatorref04.fits -/
def K40 : List (List Nat) := [[0, 1], [0, 1, 5], [0, 1, 9], [4], [14], [4], [4]]
def A40 : AFunc := ⟨2, [.t 4], .seq (.reg [⟨(some 4), none, .mv (.c (.int .i64 0)), []⟩] [0, 1])
 (.seq (.reg [⟨(some 6), none, .mv (.t 0), []⟩,
    ⟨(some 7), none, .call 17 [(.t 6)], []⟩,
    ⟨(some 5), none, .mv (.t 7), []⟩] [0, 1, 5])
  (.seq (.seq (.reg [⟨(some 8), none, .mv (.t 5), []⟩,
      ⟨(some 9), none, .un .not (.t 8), []⟩] [0, 1, 9])
    (.cond (.t 9) (.seq (.reg [⟨(some 4), none, .mv (.c (.int .i64 1)), []⟩] [4])
      (.ret))
     (.skip)))
   (.seq (.seq (.reg [⟨(some 10), none, .mv (.t 0), []⟩,
       ⟨(some 11), none, .call 32 [(.t 10), (.c (.int .i64 1)), (.c (.int .i64 2))], []⟩,
       ⟨(some 12), none, .mv (.t 1), []⟩,
       ⟨(some 13), none, .len false (.t 12), []⟩,
       ⟨(some 14), none, .bin .neq (.t 11) (.t 13), []⟩] [14])
     (.cond (.t 14) (.seq (.reg [⟨(some 4), none, .mv (.c (.int .i64 11)), []⟩] [4])
       (.ret))
      (.skip)))
    (.seq (.reg [⟨(some 4), none, .mv (.c (.int .i64 0)), []⟩] [4])
     (.ret)))))⟩
theorem c40 : cmpF Tryd.prog ⟨[(33, 2), (35, 3), (42, 1)], false⟩ Tryd.f40 K40 = some A40 := by kernel_rfl
/-- collator/script.Decode$2 -/
def K44 : List (List Nat) := [[0, 1], [1, 4], [1, 4], [1, 4, 5, 6], [1, 4, 5], [5], [3]]
def A44 : AFunc := ⟨2, [.t 3], .seq (.reg [⟨(some 3), none, .mv (.c (.int .i64 0)), []⟩] [0, 1])
 (.seq (.reg [⟨(some 7), none, .load false 1 (.t 1), []⟩,
    ⟨(some 8), none, .mv (.t 0), []⟩,
    ⟨(some 9), none, .call 45 [(.t 7), (.t 8)], []⟩,
    ⟨(some 4), none, .mv (.t 9), []⟩] [1, 4])
  (.seq (.reg [⟨(some 10), none, .mv (.t 4), []⟩,
     ⟨(some 11), none, .bin .gtr (.t 10) (.c (.int .i64 0)), []⟩,
     ⟨(some 12), none, .call 46 [(.t 11)], []⟩] [1, 4])
   (.seq (.reg [⟨(some 14), none, .load false 1 (.t 1), []⟩,
      ⟨(some 15), none, .mv (.t 4), []⟩,
      ⟨(some 16), none, .slice none (.t 14) none (some (.t 15)) none, []⟩,
      ⟨(some 17), none, .call 47 [(.t 16)], []⟩,
      ⟨(some 13), none, .mv (.t 17), []⟩,
      ⟨(some 18), none, .ext (.t 13) 0, []⟩,
      ⟨(some 19), none, .ext (.t 13) 1, []⟩,
      ⟨(some 5), none, .mv (.t 18), []⟩,
      ⟨(some 6), none, .mv (.t 19), []⟩] [1, 4, 5, 6])
    (.seq (.regD [⟨(some 20), none, .mv (.t 6), []⟩,
       ⟨(some 21), none, .isn false (.t 20), []⟩,
       ⟨(some 22), none, .mv (.t 21), []⟩,
       ⟨(some 23), some (22, true), .mv (.t 5), []⟩,
       ⟨(some 24), some (22, true), .bin .geq (.t 23) (.c (.int .i64 0)), []⟩,
       ⟨(some 25), none, .pick (.t 22) (.t 24) (.c (.bool false)), []⟩,
       ⟨(some 26), none, .mv (.t 25), []⟩,
       ⟨(some 27), some (26, true), .mv (.t 5), []⟩,
       ⟨(some 28), some (26, true), .call 34 [(.t 27)], []⟩,
       ⟨(some 29), some (26, true), .load false 1 (.t 1), []⟩,
       ⟨(some 30), some (26, true), .mv (.t 4), []⟩,
       ⟨(some 31), some (26, true), .slice none (.t 29) none (some (.t 30)) none, []⟩,
       ⟨(some 32), some (26, true), .bin .eql (.t 28) (.t 31), [8]⟩,
       ⟨(some 33), none, .pick (.t 26) (.t 32) (.c (.bool false)), [8]⟩,
       ⟨(some 34), none, .call 46 [(.t 33)], [8, 9]⟩] [1, 4, 5])
     (.seq (.reg [⟨(some 35), none, .load false 1 (.t 1), []⟩,
        ⟨(some 36), none, .mv (.t 4), []⟩,
        ⟨(some 37), none, .bin .add (.t 36) (.c (.int .i64 1)), []⟩,
        ⟨(some 38), none, .slice none (.t 35) (some (.t 37)) none none, []⟩,
        ⟨none, none, .store 1 (.t 1) (.t 38), []⟩] [5])
      (.seq (.reg [⟨(some 39), none, .mv (.t 5), []⟩,
         ⟨(some 3), none, .mv (.t 39), []⟩] [3])
       (.ret)))))))⟩
theorem c44 : cmpF Tryd.prog ⟨[(33, 2), (35, 3), (42, 1)], false⟩ Tryd.f44 K44 = some A44 := by kernel_rfl
/-- collator/collatorref04.edit -/
def K49 : List (List Nat) := [[0, 2], [0, 2, 5], [0, 2, 5, 6], [0, 2, 5, 6, 16], [0, 2, 5, 6, 23], [0, 2, 5, 6], [0, 2, 5, 6], [2, 5, 7, 8, 9], [2, 5, 7, 8, 42], [2, 3, 4], [2, 5, 7, 8, 10], [2, 5, 7, 8, 10, 11], [2, 5, 7, 8, 10, 11, 53], [2, 5, 7, 10, 11, 12, 13, 14], [2, 5, 7, 10, 11, 12, 13, 69], [2, 3, 4], [2, 5, 7, 10, 11, 12, 13], [2, 5, 7, 8, 10, 11], [2, 5, 7, 8, 10, 11], [2, 3, 4]]
def L49x0 : ACode := .seq (.seq (.reg [⟨(some 15), none, .mv (.t 6), []⟩,
    ⟨(some 16), none, .bin .lss (.t 15) (.c (.int .i64 3)), []⟩] [0, 2, 5, 6, 16])
  (.cond (.t 16) (.skip)
   (.exit 0)))
 (.seq (.blk 1 (.seq (.regD [⟨(some 19), none, .mv (.t 6), []⟩,
     ⟨(some 20), none, .sidx (.c (.str [61, 45, 43])) (.t 19), []⟩,
     ⟨(some 21), none, .mv (.t 0), []⟩,
     ⟨(some 22), none, .sidx (.t 21) (.c (.int .i64 0)), []⟩,
     ⟨(some 23), none, .bin .eql (.t 20) (.t 22), []⟩] [0, 2, 5, 6, 23])
   (.cond (.t 23) (.reg [⟨(some 24), none, .mv (.t 6), []⟩,
      ⟨(some 25), none, .bin .add (.t 24) (.c (.int .i64 1)), []⟩,
      ⟨(some 5), none, .mv (.t 25), []⟩] [0, 2, 5, 6])
    (.skip))))
  (.reg [⟨(some 17), none, .mv (.t 6), []⟩,
    ⟨(some 18), none, .bin .add (.t 17) (.c (.int .i64 1)), []⟩,
    ⟨(some 6), none, .mv (.t 18), []⟩] [0, 2, 5, 6]))
def L49x1 : ACode := .seq (.seq (.reg [⟨(some 47), none, .mv (.t 5), []⟩,
    ⟨(some 48), none, .bin .eql (.t 47) (.c (.int .i64 3)), []⟩,
    ⟨(some 49), none, .mv (.t 48), []⟩,
    ⟨(some 50), some (49, true), .mv (.t 11), []⟩,
    ⟨(some 51), some (49, true), .mv (.t 7), []⟩,
    ⟨(some 52), some (49, true), .bin .lss (.t 50) (.t 51), []⟩,
    ⟨(some 53), none, .pick (.t 49) (.t 52) (.c (.bool false)), []⟩] [2, 5, 7, 8, 10, 11, 53])
  (.cond (.t 53) (.skip)
   (.exit 2)))
 (.seq (.blk 3 (.seq (.reg [⟨(some 57), none, .mv (.t 8), []⟩,
     ⟨(some 58), none, .call 58 [(.t 57), (.c (.int .u8 58))], []⟩,
     ⟨(some 56), none, .mv (.t 58), []⟩,
     ⟨(some 59), none, .ext (.t 56) 0, []⟩,
     ⟨(some 60), none, .ext (.t 56) 1, []⟩,
     ⟨(some 61), none, .ext (.t 56) 2, []⟩,
     ⟨(some 12), none, .mv (.t 59), []⟩,
     ⟨(some 13), none, .mv (.t 60), []⟩,
     ⟨(some 14), none, .mv (.t 61), []⟩] [2, 5, 7, 10, 11, 12, 13, 14])
   (.seq (.seq (.reg [⟨(some 62), none, .mv (.t 14), []⟩,
       ⟨(some 63), none, .un .not (.t 62), []⟩,
       ⟨(some 64), none, .mv (.t 63), []⟩,
       ⟨(some 65), some (64, false), .mv (.t 12), []⟩,
       ⟨(some 66), some (64, false), .mv (.t 13), []⟩,
       ⟨(some 67), some (64, false), .len true (.t 66), []⟩,
       ⟨(some 68), some (64, false), .bin .gtr (.t 65) (.t 67), []⟩,
       ⟨(some 69), none, .pick (.t 64) (.c (.bool true)) (.t 68), []⟩] [2, 5, 7, 10, 11, 12, 13, 69])
     (.cond (.t 69) (.seq (.reg [⟨(some 70), none, .agg [(.int .i64 0), (.int .i64 0), (.sl 1 [] .nil)] [], []⟩,
         ⟨none, none, .store 3 (.t 2) (.t 70), []⟩,
         ⟨(some 3), none, .mv (.c (.str [])), []⟩,
         ⟨(some 4), none, .mv (.c (.bool false)), []⟩] [2, 3, 4])
       (.ret))
      (.skip)))
    (.seq (.regD [⟨(some 71), none, .faddr 2 (.t 10), []⟩,
       ⟨(some 72), none, .load false 1 (.t 71), []⟩,
       ⟨(some 73), none, .mv (.t 13), []⟩,
       ⟨(some 74), none, .mv (.t 12), []⟩,
       ⟨(some 75), none, .slice none (.t 73) none (some (.t 74)) none, []⟩,
       ⟨(some 76), none, .mks 1 1 false [(.str [])] [(0, (.t 75))], []⟩,
       ⟨(some 77), none, .app none 1 16 (.t 72) (.t 76), [1]⟩,
       ⟨(some 78), none, .faddr 2 (.t 10), []⟩,
       ⟨none, none, .store 1 (.t 78) (.t 77), [6, 1]⟩] [2, 5, 7, 10, 11, 12, 13])
     (.reg [⟨(some 79), none, .mv (.t 13), []⟩,
       ⟨(some 80), none, .mv (.t 12), []⟩,
       ⟨(some 81), none, .slice none (.t 79) (some (.t 80)) none none, []⟩,
       ⟨(some 8), none, .mv (.t 81), []⟩] [2, 5, 7, 8, 10, 11])))))
  (.reg [⟨(some 54), none, .mv (.t 11), []⟩,
    ⟨(some 55), none, .bin .add (.t 54) (.c (.int .i64 1)), []⟩,
    ⟨(some 11), none, .mv (.t 55), []⟩] [2, 5, 7, 8, 10, 11]))
def A49 : AFunc := ⟨1, [.c 2 true 3, .t 3, .t 4], .seq (.reg [⟨(some 2), none, .alloc [(.int .i64 0), (.int .i64 0), (.sl 1 [] .nil)], []⟩,
   ⟨(some 3), none, .mv (.c (.str [])), []⟩,
   ⟨(some 4), none, .mv (.c (.bool false)), []⟩] [0, 2])
 (.seq (.reg [⟨(some 5), none, .mv (.c (.int .i64 0)), []⟩] [0, 2, 5])
  (.seq (.seq (.reg [⟨(some 6), none, .mv (.c (.int .i64 0)), []⟩] [0, 2, 5, 6])
    (.blk 0 (.loop L49x0)))
   (.seq (.reg [⟨(some 27), none, .mv (.t 0), []⟩,
      ⟨(some 28), none, .slice none (.t 27) (some (.c (.int .i64 1))) none none, []⟩,
      ⟨(some 29), none, .call 58 [(.t 28), (.c (.int .u8 59))], []⟩,
      ⟨(some 26), none, .mv (.t 29), []⟩,
      ⟨(some 30), none, .ext (.t 26) 0, []⟩,
      ⟨(some 31), none, .ext (.t 26) 1, []⟩,
      ⟨(some 32), none, .ext (.t 26) 2, []⟩,
      ⟨(some 7), none, .mv (.t 30), []⟩,
      ⟨(some 8), none, .mv (.t 31), []⟩,
      ⟨(some 9), none, .mv (.t 32), []⟩] [2, 5, 7, 8, 9])
    (.seq (.seq (.reg [⟨(some 33), none, .mv (.t 5), []⟩,
        ⟨(some 34), none, .bin .eql (.t 33) (.c (.int .i64 0)), []⟩,
        ⟨(some 35), none, .mv (.t 34), []⟩,
        ⟨(some 36), some (35, false), .mv (.t 9), []⟩,
        ⟨(some 37), some (35, false), .un .not (.t 36), []⟩,
        ⟨(some 38), none, .pick (.t 35) (.c (.bool true)) (.t 37), []⟩,
        ⟨(some 39), none, .mv (.t 38), []⟩,
        ⟨(some 40), some (39, false), .mv (.t 7), []⟩,
        ⟨(some 41), some (39, false), .bin .gtr (.t 40) (.c (.int .i64 1048576)), []⟩,
        ⟨(some 42), none, .pick (.t 39) (.c (.bool true)) (.t 41), []⟩] [2, 5, 7, 8, 42])
      (.cond (.t 42) (.seq (.reg [⟨(some 43), none, .agg [(.int .i64 0), (.int .i64 0), (.sl 1 [] .nil)] [], []⟩,
          ⟨none, none, .store 3 (.t 2) (.t 43), []⟩,
          ⟨(some 3), none, .mv (.c (.str [])), []⟩,
          ⟨(some 4), none, .mv (.c (.bool false)), []⟩] [2, 3, 4])
        (.ret))
       (.skip)))
     (.seq (.reg [⟨(some 44), none, .mv (.t 5), []⟩,
        ⟨(some 45), none, .mv (.t 7), []⟩,
        ⟨(some 46), none, .agg [(.int .i64 0), (.int .i64 0), (.sl 1 [] .nil)] [(0, 1, (.t 44)), (1, 1, (.t 45))], []⟩,
        ⟨(some 10), none, .alloc [(.int .i64 0), (.int .i64 0), (.sl 1 [] .nil)], []⟩,
        ⟨none, none, .store 3 (.t 10) (.t 46), []⟩] [2, 5, 7, 8, 10])
      (.seq (.seq (.reg [⟨(some 11), none, .mv (.c (.int .i64 0)), []⟩] [2, 5, 7, 8, 10, 11])
        (.blk 2 (.loop L49x1)))
       (.seq (.reg [⟨(some 82), none, .load true 3 (.t 10), []⟩,
          ⟨(some 83), none, .mv (.t 8), []⟩,
          ⟨none, none, .store 3 (.t 2) (.t 82), []⟩,
          ⟨(some 3), none, .mv (.t 83), []⟩,
          ⟨(some 4), none, .mv (.c (.bool true)), []⟩] [2, 3, 4])
        (.ret))))))))⟩
theorem c49 : cmpF Tryd.prog ⟨[(33, 2), (35, 3), (42, 1)], false⟩ Tryd.f49 K49 = some A49 := by kernel_rfl
/-- collator/collatorref04.Number -/
def K58 : List (List Nat) := [[0, 1], [0, 1, 7], [0, 1, 7, 8], [0, 1, 7, 8, 16], [0, 1, 7, 8, 23], [4, 5, 6], [0, 1, 7, 8, 49], [4, 5, 6], [0, 1, 7, 8], [0, 1, 7, 8], [4, 5, 6]]
def L58x0 : ACode := .seq (.seq (.reg [⟨(some 9), none, .mv (.t 8), []⟩,
    ⟨(some 10), none, .mv (.t 0), []⟩,
    ⟨(some 11), none, .len true (.t 10), []⟩,
    ⟨(some 12), none, .bin .lss (.t 9) (.t 11), []⟩,
    ⟨(some 13), none, .mv (.t 12), []⟩,
    ⟨(some 14), some (13, true), .mv (.t 8), []⟩,
    ⟨(some 15), some (13, true), .bin .lss (.t 14) (.c (.int .i64 10)), []⟩,
    ⟨(some 16), none, .pick (.t 13) (.t 15) (.c (.bool false)), []⟩] [0, 1, 7, 8, 16])
  (.cond (.t 16) (.skip)
   (.exit 0)))
 (.seq (.blk 1 (.seq (.seq (.reg [⟨(some 19), none, .mv (.t 0), []⟩,
      ⟨(some 20), none, .mv (.t 8), []⟩,
      ⟨(some 21), none, .sidx (.t 19) (.t 20), []⟩,
      ⟨(some 22), none, .mv (.t 1), []⟩,
      ⟨(some 23), none, .bin .eql (.t 21) (.t 22), []⟩] [0, 1, 7, 8, 23])
    (.cond (.t 23) (.seq (.regD [⟨(some 24), none, .mv (.t 7), []⟩,
        ⟨(some 25), none, .mv (.t 0), []⟩,
        ⟨(some 26), none, .mv (.t 8), []⟩,
        ⟨(some 27), none, .bin .add (.t 26) (.c (.int .i64 1)), []⟩,
        ⟨(some 28), none, .slice none (.t 25) (some (.t 27)) none none, []⟩,
        ⟨(some 29), none, .mv (.t 8), []⟩,
        ⟨(some 30), none, .bin .gtr (.t 29) (.c (.int .i64 0)), []⟩,
        ⟨(some 31), none, .mv (.t 30), []⟩,
        ⟨(some 32), some (31, true), .mv (.t 8), []⟩,
        ⟨(some 33), some (31, true), .bin .eql (.t 32) (.c (.int .i64 1)), []⟩,
        ⟨(some 34), some (31, true), .mv (.t 33), []⟩,
        ⟨(some 35), some (34, false), .mv (.t 0), []⟩,
        ⟨(some 36), some (34, false), .sidx (.t 35) (.c (.int .i64 0)), []⟩,
        ⟨(some 37), some (34, false), .bin .neq (.t 36) (.c (.int .u8 48)), []⟩,
        ⟨(some 38), some (31, true), .pick (.t 34) (.c (.bool true)) (.t 37), []⟩,
        ⟨(some 39), none, .pick (.t 31) (.t 38) (.c (.bool false)), []⟩,
        ⟨(some 4), none, .mv (.t 24), []⟩,
        ⟨(some 5), none, .mv (.t 28), []⟩,
        ⟨(some 6), none, .mv (.t 39), []⟩] [4, 5, 6])
      (.ret))
     (.skip)))
   (.seq (.seq (.reg [⟨(some 40), none, .mv (.t 0), []⟩,
       ⟨(some 41), none, .mv (.t 8), []⟩,
       ⟨(some 42), none, .sidx (.t 40) (.t 41), []⟩,
       ⟨(some 43), none, .bin .lss (.t 42) (.c (.int .u8 48)), []⟩,
       ⟨(some 44), none, .mv (.t 43), []⟩,
       ⟨(some 45), some (44, false), .mv (.t 0), []⟩,
       ⟨(some 46), some (44, false), .mv (.t 8), []⟩,
       ⟨(some 47), some (44, false), .sidx (.t 45) (.t 46), []⟩,
       ⟨(some 48), some (44, false), .bin .gtr (.t 47) (.c (.int .u8 57)), []⟩,
       ⟨(some 49), none, .pick (.t 44) (.c (.bool true)) (.t 48), []⟩] [0, 1, 7, 8, 49])
     (.cond (.t 49) (.seq (.reg [⟨(some 4), none, .mv (.c (.int .i64 0)), []⟩,
         ⟨(some 5), none, .mv (.c (.str [])), []⟩,
         ⟨(some 6), none, .mv (.c (.bool false)), []⟩] [4, 5, 6])
       (.ret))
      (.skip)))
    (.reg [⟨(some 50), none, .mv (.t 7), []⟩,
      ⟨(some 51), none, .bin .mul (.c (.int .i64 10)) (.t 50), []⟩,
      ⟨(some 52), none, .mv (.t 0), []⟩,
      ⟨(some 53), none, .mv (.t 8), []⟩,
      ⟨(some 54), none, .sidx (.t 52) (.t 53), []⟩,
      ⟨(some 55), none, .bin .sub (.t 54) (.c (.int .u8 48)), []⟩,
      ⟨(some 56), none, .conv (.toInt .i64) (.t 55), []⟩,
      ⟨(some 57), none, .bin .add (.t 51) (.t 56), []⟩,
      ⟨(some 7), none, .mv (.t 57), []⟩] [0, 1, 7, 8]))))
  (.reg [⟨(some 17), none, .mv (.t 8), []⟩,
    ⟨(some 18), none, .bin .add (.t 17) (.c (.int .i64 1)), []⟩,
    ⟨(some 8), none, .mv (.t 18), []⟩] [0, 1, 7, 8]))
def A58 : AFunc := ⟨2, [.t 4, .t 5, .t 6], .seq (.reg [⟨(some 4), none, .mv (.c (.int .i64 0)), []⟩,
   ⟨(some 5), none, .mv (.c (.str [])), []⟩,
   ⟨(some 6), none, .mv (.c (.bool false)), []⟩] [0, 1])
 (.seq (.reg [⟨(some 7), none, .mv (.c (.int .i64 0)), []⟩] [0, 1, 7])
  (.seq (.seq (.reg [⟨(some 8), none, .mv (.c (.int .i64 0)), []⟩] [0, 1, 7, 8])
    (.blk 0 (.loop L58x0)))
   (.seq (.reg [⟨(some 4), none, .mv (.c (.int .i64 0)), []⟩,
      ⟨(some 5), none, .mv (.c (.str [])), []⟩,
      ⟨(some 6), none, .mv (.c (.bool false)), []⟩] [4, 5, 6])
    (.ret))))⟩
theorem c58 : cmpF Tryd.prog ⟨[(33, 2), (35, 3), (42, 1)], false⟩ Tryd.f58 K58 = some A58 := by kernel_rfl
end Go.Proofs.YtdcgldhhdajocaaDoor.Rx
