/-
  THE ROW'S CLOSED FACTS of a great program, piece by piece: who is called from where (once around, the seen ones as a number's bits), the types' rows in parts.
  Conditions: none.
-/
import Derived.Test.YtcmbokfnglkfnaaGreatDoorCards
import Derived.JoinedOf
import Derived.KernelRfl
import GoSem.ClaimSeven
namespace Go.Proofs.YtcmbokfnglkfnaaGreatDoor.Jf
open Go
set_option linter.all false

/-- Who is looked up in a list of lists: by the list's own recursor. -/
noncomputable def at' (T : List (List Nat)) : Nat → List Nat :=
  List.rec (motive := fun _ => Nat → List Nat) (fun _ => []) (fun a _ ih n => Nat.casesOn n a fun m => ih m) T

theorem at'_eq (T : List (List Nat)) (n : Nat) : at' T n = (T[n]?).getD [] := by
  induction T generalizing n with
  | nil => simp [at']
  | cons a T ih => cases n with
    | zero => rfl
    | succ n => simpa [at'] using ih n

/-- The closure, with the seen ones as a number's bits. -/
noncomputable def fast (T : List (List Nat)) (n : Nat) : List Nat → Nat → List Nat → List Nat :=
  Nat.rec (motive := fun _ => List Nat → Nat → List Nat → List Nat) (fun _ _ acc => acc.reverse)
    (fun _ ih todo mask acc => List.casesOn (motive := fun _ => List Nat) todo acc.reverse fun f todo =>
      Bool.casesOn (motive := fun _ => List Nat) (Nat.beq (Nat.land (Nat.shiftRight mask f) 1) 1)
        (ih (List.append (at' T f) todo) (Nat.lor mask (Nat.shiftLeft 1 f)) (f :: acc))
        (ih todo mask acc)) n

theorem bit_eq (m f : Nat) : Nat.beq (Nat.land (Nat.shiftRight m f) 1) 1 = m.testBit f := by
  have h : Nat.land (Nat.shiftRight m f) 1 = (m >>> f) % 2 := by
    show (m >>> f) &&& 1 = _
    exact Nat.and_one_is_mod _
  rw [h, Nat.testBit_eq_decide_div_mod_eq, Nat.shiftRight_eq_div_pow]
  rw [Bool.eq_iff_iff]
  simp

theorem fast_eq (P : Program) (T : List (List Nat)) (hT : ∀ f : Nat, (P.funcs[f]?).elim [] P.leadsTo = (T[f]?).getD []) :
    ∀ (n : Nat) (todo : List Nat) (mask : Nat) (seen : List Nat), (∀ f, mask.testBit f = seen.contains f) → P.closureVia n todo seen = fast T n todo mask seen
  | 0, _, _, _, _ => by rw [Program.closureVia]; rfl
  | n + 1, [], _, _, _ => by rw [Program.closureVia]; rfl; intro h; cases h
  | n + 1, f :: todo, mask, seen, h => by
    have e : fast T (n + 1) (f :: todo) mask seen = Bool.casesOn (motive := fun _ => List Nat) (Nat.beq (Nat.land (Nat.shiftRight mask f) 1) 1)
        (fast T n (List.append (at' T f) todo) (Nat.lor mask (Nat.shiftLeft 1 f)) (f :: seen)) (fast T n todo mask seen) := rfl
    rw [e, bit_eq, h f, Program.closureVia]
    cases hs : seen.contains f
    · simp only [Bool.false_eq_true, if_false]
      rw [hT f, ← at'_eq]
      refine fast_eq P T hT n _ _ _ fun g => ?_
      show (mask ||| 1 <<< f).testBit g = _
      rw [Nat.testBit_or, h g, Nat.one_shiftLeft, Nat.testBit_two_pow, List.contains_cons, Bool.or_comm]
      congr 1
      by_cases e : f = g
      · subst e; simp
      · simp [e, Ne.symm e]
    · simp only [if_true]
      exact fast_eq P T hT n _ _ _ h

/-- A type that a variable may have, with the number of types given. -/
def isV (P : Program) (N : Nat) (t : TypeId) : Bool := Nat.ble (t + 1) N && kindOk (P.underlying t)
def rowF (P : Program) (N : Nat) (t : TypeId) : Bool :=
  !isV P N t ||
  match P.underlying t with
  | some (.struct fs) => fs.toList.all (fun f => isV P N f.type) && P.cellsOf t == (fs.toList.map fun f => P.cellsOf f.type).sum &&
      (List.range fs.toList.length).all fun j => match fs.toList[j]? with | some f => f.offset == ((fs.toList.take j).map fun f => P.cellsOf f.type).sum | none => true
  | some (.array n e) => isV P N e && P.cellsOf t == n * P.cellsOf e
  | some (.pointer e) => isV P N e && P.cellsOf t == 1
  | some (.slice e) => isV P N e && P.cellsOf t == 1
  | _ => P.cellsOf t == 1
theorem isV_eq {P : Program} {N : Nat} (h : P.types.size = N) : isV P N = isVar P := by
  funext t
  unfold isV isVar
  rw [h]
  congr 1
  rw [Bool.eq_iff_iff]
  simp [Nat.lt_iff_add_one_le]
theorem rowF_eq {P : Program} {N : Nat} (h : P.types.size = N) : rowF P N = rowFine P := by
  funext t
  unfold rowF rowFine
  rw [isV_eq h]
  rfl
theorem range_more {p : Nat → Bool} {k n m : Nat} (h : k + n = m) (h1 : (List.range' 0 k).all p = true) (h2 : (List.range' k n).all p = true) : (List.range' 0 m).all p = true := by
  have e := List.range'_append (s := 0) (m := k) (n := n) (step := 1)
  rw [show 0 + 1 * k = k by omega, h] at e
  rw [← e, List.all_append, h1, h2]
  rfl
theorem laid_of {P : Program} {N : Nat} (h : P.types.size = N) (h1 : (List.range' 0 N).all (rowF P N) = true) (h2 : P.globals.toList.all (fun g => Nat.ble (g.type + 1) N) = true)
    (h3 : P.funcs.toList.all (fun f => f.params.toList.all fun t => Nat.ble (t + 1) N) = true) : laidOutB P = true := by
  unfold laidOutB
  rw [h, Bool.and_eq_true, Bool.and_eq_true]
  refine ⟨⟨?_, ?_⟩, ?_⟩
  · rw [List.range_eq_range', ← rowF_eq h]; exact h1
  · rw [← Array.all_toList]
    rw [List.all_eq_true] at h2 ⊢
    intro g hg
    have := h2 g hg
    simpa [Nat.lt_iff_add_one_le] using this
  · rw [← Array.all_toList]
    rw [List.all_eq_true] at h3 ⊢
    intro g hg
    have := h3 g hg
    rw [← Array.all_toList]
    rw [List.all_eq_true] at this ⊢
    intro t ht
    have := this t ht
    simpa [Nat.lt_iff_add_one_le] using this

def lt : List (List Nat) := [[], [], [1], [5, 4, 5, 4, 6], [7, 8, 9, 10, 11, 12, 13, 14, 15], [16, 17], [5, 4, 18, 19, 20], [21, 22, 23, 24, 25], [26], [], [], [27], [28, 29, 30, 
 31, 32], [], [28, 33], [29, 34, 29], [35, 36, 37], [38, 39], [40, 41], [43, 42, 43, 42], [44], [46, 46, 47, 48, 50, 49, 52, 53], [54, 55, 54, 54], [40, 56, 58, 57], [21, 59], [21, 
 59, 61, 60], [], [62, 63], [34, 30], [64], [65], [66], [67, 68], [71, 67], [73, 74, 75], [76, 77, 78], [], [79, 81, 80, 79, 83, 82, 79, 84, 85, 86, 87], [88, 89, 90, 91, 92], [93, 
 94, 95, 95], [21, 22, 96, 97], [58, 98, 100, 99], [101], [103, 102, 103, 102], [45], [104], [], [105], [], [106], [46, 46, 51], [46, 107, 109, 108], [], [110, 111, 112], [], [114, 
 113], [115], [116, 117, 115], [118], [119], [120, 55], [121], [], [], [40, 122, 123], [40, 125], [], [126, 70], [69, 70], [127, 128, 129, 130, 128, 129, 132, 131, 115], [56], [57, 
 70, 72], [116], [40, 41], [], [134, 134, 135, 136, 137, 138, 139, 139], [], [], [76, 140, 76, 142, 143, 144, 145, 146], [147, 148], [79, 79, 85], [149, 87, 148], [79, 79, 85], 
 [81, 85, 150, 85], [81, 85, 81, 80, 86], [79, 87], [152, 151], [], [154, 155, 155, 156, 155, 158, 157, 160], [], [91, 161, 162, 164, 163, 166, 165, 90, 90], [], [], [167], [], 
 [93, 93, 93, 93, 94, 168, 93, 94, 94, 168, 39, 39, 94, 94, 94, 93, 93, 168, 39], [], [72], [116, 169, 170], [171, 172], [173], [], [], [174], [], [], [], [175], [177], [], [], [], 
 [111, 112], [178, 179, 180, 181, 182, 183, 184, 185, 186, 113, 113], [187, 188], [189, 190, 191, 193, 192], [115, 194, 195, 194], [], [43], [], [196], [], [], [124], [197, 198, 
 199], [127, 200, 201], [116, 117, 202, 203, 115], [197, 204, 195], [205], [207], [209, 208], [210], [133], [211, 45], [201], [213, 212], [214, 214, 74, 19, 99, 74, 201], [212, 
 218], [220, 220, 220, 220, 125, 220], [74], [141, 142], [], [], [221, 222], [223], [], [224], [225], [], [226], [87, 148, 227], [147, 87, 85], [79, 153], [228, 148, 81, 147, 229, 
 85, 230, 85], [231, 232, 233, 234, 235, 236, 238, 237], [156], [239], [240], [159], [156, 155, 160], [241], [245, 164, 163, 90], [], [246], [162, 164, 163], [247], [164, 163, 166, 
 165], [167], [248, 249, 168, 250, 168, 168, 251, 252], [253, 254], [256, 257, 258, 259, 260, 260], [261], [263, 263, 262, 265, 265, 264, 266, 267, 267], [19], [268], [46, 46, 176, 
 108], [], [], [184], [269, 269], [270, 271], [272, 272, 272, 273], [], [184, 184, 184], [274, 274], [184, 184], [184, 184, 184, 184], [], [], [275, 131, 276, 131], [], [], [277], 
 [278, 279, 280, 281, 282], [283, 284, 285, 286], [287, 288, 289, 277, 193, 192], [], [116], [], [290], [56], [291, 292, 74, 126, 200], [210], [253, 293], [295], [43, 206], [296, 
 255, 298, 297], [256, 257], [300], [207], [], [], [301, 74, 302, 303, 201], [214, 216, 215, 217, 200], [304], [305, 306, 307, 310, 311, 312], [], [313, 169, 261, 314, 315, 316, 
 317, 316, 318, 318, 318, 195], [219, 200, 100], [313, 319, 318, 195], [320, 74, 257, 257, 74, 43, 43, 214, 214, 321, 322, 216, 215, 43, 206, 323, 324, 325, 201], [326], [327, 328, 
 329, 330], [331, 332, 333, 334], [], [], [76, 335, 142, 336], [337, 222], [338, 339, 340, 340, 341, 342, 343], [344, 151], [345, 349, 348, 346], [226], [351, 350], [353, 352], 
 [354, 355, 356, 357, 358, 359, 233, 234, 233, 234], [361, 360], [226], [362, 157], [226, 232, 233, 234], [], [], [242, 242, 242, 156, 243, 244], [156, 156], [242, 242, 243], [243, 
 244], [363], [], [], [93], [93], [], [94], [93, 110, 93], [364], [255], [365], [296, 299, 366], [255, 367], [368], [368], [369, 367], [370, 370, 260], [266], [], [266], [], [260], 
 [371, 42], [], [184, 184], [114], [], [273], [372, 372, 372], [], [169], [], [278, 279, 278, 133], [43], [373, 374, 375, 376, 377, 378, 379, 380], [382], [282], [257], [133], 
 [133], [], [], [383, 208, 384, 208], [], [282, 282], [256, 257], [385], [72], [294], [365, 188], [], [169], [], [299], [386], [], [388, 387, 66], [], [58, 323, 325, 58, 325], [21, 
 389, 390, 391, 392, 99, 393], [394, 395, 396], [171, 397], [308, 309], [261, 263, 399, 265, 399, 398], [171, 263, 263, 400, 267, 265, 265, 400, 267], [324, 43, 258], [255, 42, 
 42], [401, 309], [116], [169], [], [256, 386, 402, 324], [403], [43], [], [214, 214, 308, 309], [404, 405], [394, 394, 406, 404], [407], [408, 409], [410, 57, 200], [411, 411, 
 411, 411, 411, 411, 412], [413], [413], [413, 245, 414], [413, 245, 414], [], [188, 415, 416], [], [417, 418], [141, 142], [420, 419], [221], [85], [81, 85], [421, 85], [421, 86, 
 79, 86], [421, 86], [81, 85, 230, 422, 85], [230, 85], [347, 348, 346], [147, 148, 147], [147, 423, 151, 147, 424, 151, 149, 81, 147, 229, 150], [425], [348, 346], [426], [], 
 [427], [], [], [226], [428, 108], [429, 355, 356, 357], [431, 430], [432, 356, 357, 358, 359], [433], [], [], [223], [], [], [324], [], [434, 102, 409], [408, 102, 409], [255], 
 [], [184], [435], [], [43], [436, 382, 439, 440], [435, 441], [435, 435, 441, 442, 410], [114, 443], [381], [296, 444, 445], [], [169], [], [], [408, 446, 102], [], [31], [395, 
 447], [449, 47], [21], [392, 173, 450, 66, 450, 451, 452, 453, 454], [], [455, 396], [456], [261], [263, 265, 263, 265, 398], [457, 266, 267, 458, 266, 267], [407], [324], [171, 
 459, 460], [], [45], [394], [308], [309], [255, 101, 102], [255], [461, 102, 462, 102, 462, 102], [297, 463], [], [411, 411, 411, 411, 411, 411], [], [], [], [], [], [464, 465], 
 [225], [466, 467], [85, 468, 85], [79, 79, 85], [347], [230, 85], [], [], [], [], [], [469], [], [], [], [408, 470, 102], [169], [438, 437], [257], [256], [438, 471, 437, 437, 
 472, 474, 473], [438, 43, 206, 474, 476, 475, 438, 474, 473], [477], [478, 480, 479], [481, 482, 483, 484, 485, 486, 487, 488, 443, 443], [], [260], [490, 489], [100, 448], [171, 
 263, 263, 266, 265, 265, 266], [], [491], [492], [173, 493, 100, 450], [494, 495, 496, 497, 173, 448, 173, 448, 498, 450], [499, 308, 321, 498, 308, 321, 500, 309, 501, 401], 
 [504], [], [], [], [263, 263, 263, 265, 265, 263, 265, 265, 398], [505, 505, 386], [506, 507, 508, 174], [506, 507, 509, 174], [101], [], [], [], [510], [511, 513, 514], [], [516, 
 517, 103, 101, 518, 519, 519, 520, 521, 522, 524, 523, 524], [525], [526], [527, 478], [407], [], [], [442, 480, 43, 206, 479, 480, 528, 529], [530, 410, 531, 297], [407, 527, 
 478], [533], [], [534, 534], [270, 271], [535, 535, 535, 536], [], [], [], [], [365], [537, 538, 538, 490, 490, 540, 540, 490, 539, 541, 541, 540], [396, 306], [19], [448, 99], 
 [171, 542, 459, 543, 459, 543, 397], [171, 542, 263, 399, 265, 262, 43, 400, 263, 399, 262, 265, 264, 265, 505, 263, 505, 267, 267], [544, 460], [544, 545], [100, 493], [498], 
 [322], [173, 502, 455, 503, 503], [20], [396, 546, 404], [], [257], [365], [547], [], [], [548, 549], [512], [], [515, 514], [147, 148, 147], [147, 550, 151, 551, 151, 148, 230, 
 147, 87, 148, 230], [365, 365], [365, 552, 553, 524], [188], [554, 63, 174], [553, 63, 508], [63, 508, 509, 509], [508, 508], [554, 101, 174], [268], [435, 169, 256, 257], [], 
 [255, 255, 296, 555, 297], [], [556, 557], [296, 558], [532], [434], [559], [], [536], [560, 560, 560], [63, 508, 508, 561], [561], [462], [461], [], [43, 407, 371, 42, 42, 371, 
 172], [505, 505, 505, 259, 258], [171, 19, 172, 562, 459], [258], [401], [565], [], [], [515], [468, 85], [566], [518], [365], [299, 299, 366], [], [567], [568, 470], [], [], [], 
 [563, 564, 42], [255, 569], [294, 114, 446, 446], [], [], [570, 570, 570], [365], [365], [], [], [], [], [], [], [], [], [], [], [], [], [], [], [], [], [], [], [], [], [], [], 
 [], [], [], [], [], [], [], [], [], [], [], [414, 414]] 
def cl : List Nat := [3, 5, 16, 35, 76, 77, 78, 140, 141, 142, 143, 221, 326, 411, 412, 222, 327, 413, 328, 329, 245, 363, 223, 331, 332, 188, 415, 416, 333, 334, 417, 418, 464, 
 465, 414, 330, 144, 145, 146, 224, 36, 37, 79, 147, 225, 148, 81, 149, 226, 335, 336, 420, 466, 467, 510, 548, 549, 419, 87, 80, 85, 83, 150, 227, 337, 82, 84, 86, 152, 153, 228, 
 338, 339, 340, 421, 468, 511, 512, 513, 515, 550, 151, 551, 230, 345, 347, 423, 424, 229, 344, 348, 425, 346, 349, 514, 341, 342, 343, 422, 17, 38, 88, 154, 231, 232, 351, 350, 
 426, 233, 353, 352, 427, 234, 354, 355, 356, 428, 108, 177, 357, 429, 358, 431, 430, 469, 359, 432, 235, 361, 360, 433, 236, 238, 237, 362, 157, 240, 155, 156, 239, 158, 159, 160, 
 241, 242, 243, 244, 89, 90, 91, 161, 164, 162, 163, 246, 166, 165, 247, 92, 39, 93, 167, 94, 95, 168, 248, 249, 250, 251, 252, 110, 4, 7, 21, 46, 47, 105, 48, 50, 51, 107, 175, 
 176, 109, 49, 106, 52, 53, 111, 112, 22, 54, 55, 114, 187, 113, 178, 184, 274, 179, 269, 180, 270, 271, 181, 272, 273, 372, 182, 183, 185, 186, 23, 40, 96, 97, 72, 116, 115, 189, 
 275, 169, 253, 364, 254, 255, 365, 131, 210, 276, 190, 191, 193, 278, 43, 103, 174, 268, 102, 279, 373, 435, 374, 375, 376, 436, 438, 256, 296, 299, 386, 408, 446, 490, 537, 63, 
 508, 561, 538, 540, 461, 506, 507, 547, 565, 539, 462, 509, 541, 489, 366, 324, 409, 437, 257, 367, 382, 439, 471, 525, 472, 526, 474, 407, 101, 473, 527, 555, 297, 478, 530, 558, 
 568, 470, 516, 517, 552, 566, 553, 518, 524, 519, 554, 520, 521, 522, 523, 410, 463, 531, 532, 434, 440, 206, 298, 476, 475, 377, 441, 477, 442, 480, 533, 559, 479, 528, 529, 556, 
 557, 567, 570, 378, 379, 443, 481, 482, 534, 483, 484, 535, 536, 560, 485, 486, 487, 488, 380, 381, 444, 445, 260, 369, 280, 281, 282, 192, 277, 133, 211, 45, 104, 194, 283, 284, 
 285, 286, 195, 287, 383, 208, 300, 384, 288, 289, 56, 58, 118, 57, 117, 24, 59, 119, 25, 61, 121, 60, 120, 196, 8, 26, 9, 10, 11, 27, 62, 12, 28, 34, 73, 41, 98, 170, 258, 368, 
 259, 100, 173, 19, 42, 99, 171, 261, 370, 172, 263, 262, 266, 265, 264, 267, 371, 74, 75, 134, 201, 291, 385, 292, 126, 202, 203, 293, 294, 200, 135, 213, 214, 304, 389, 395, 456, 
 447, 448, 390, 449, 391, 392, 450, 491, 396, 306, 397, 398, 457, 458, 66, 451, 492, 452, 493, 453, 494, 542, 459, 543, 505, 495, 399, 400, 496, 544, 562, 563, 569, 564, 460, 497, 
 545, 498, 454, 499, 308, 321, 404, 394, 455, 504, 405, 500, 322, 406, 309, 501, 502, 20, 44, 503, 546, 401, 393, 216, 215, 305, 307, 310, 311, 312, 217, 313, 314, 315, 316, 402, 
 317, 403, 318, 212, 301, 388, 31, 387, 302, 303, 323, 325, 136, 137, 218, 219, 319, 138, 220, 320, 125, 127, 197, 204, 295, 139, 30, 65, 29, 64, 122, 123, 124, 198, 199, 290, 32, 
 67, 70, 68, 69, 128, 205, 129, 207, 130, 209, 132, 13, 14, 33, 71, 15, 6, 18] 
set_option maxRecDepth 100000
theorem lt_eq : Tryz.prog.funcs.toList.map Tryz.prog.leadsTo = lt := by kernel_rfl
theorem fuel_eq : 1 + (lt.map fun l => l.length + 1).sum = 1849 := by kernel_rfl
theorem cl_fast : fast lt 1849 [3] 0 [] = cl := by kernel_rfl
theorem lead (f : Nat) : (Tryz.prog.funcs[f]?).elim [] Tryz.prog.leadsTo = (lt[f]?).getD [] := by
  rw [← lt_eq, List.getElem?_map, Array.getElem?_toList]
  cases Tryz.prog.funcs[f]? <;> rfl
theorem closure_eq : Tryz.prog.closure 3 = cl := by
  unfold Program.closure
  have e : (Tryz.prog.funcs.toList.map fun g => (Tryz.prog.leadsTo g).length + 1) = lt.map fun l => l.length + 1 := by
    rw [← lt_eq, List.map_map]; rfl
  rw [e, fuel_eq, fast_eq _ lt lead _ _ 0 _ (fun f => by simp), cl_fast]

theorem in_eq : (Rows.solveNamesRow.inPlace == Tryz.prog.inPlace 3) = true := by
  unfold Program.inPlace; rw [closure_eq]; kernel_rfl
theorem un_true : Tryz.prog.unfollowed 3 = true := by
  unfold Program.unfollowed; rw [closure_eq]; kernel_rfl
theorem un_eq : (Rows.solveNamesRow.unfollowed == Tryz.prog.unfollowed 3) = true := by
  rw [un_true]; kernel_rfl
theorem re_eq : (Rows.solveNamesRow.recurses == Tryz.prog.recurses 3) = true := by
  unfold Program.recurses; rw [un_true]; kernel_rfl
theorem na_eq : (Rows.solveNamesRow.named == Tryz.prog.varsNamed 3) = true := by
  unfold Program.varsNamed; rw [closure_eq]; kernel_rfl
theorem go1 : cl.any (fun g => (Tryz.prog.funcs[g]?).any Func.goes) = false := by kernel_rfl
theorem go2 : Tryz.prog.funcs.toList.any Func.goes = false := by kernel_rfl
theorem go3 : Tryz.prog.funcNamed Rows.solveNamesRow.func = some 3 := by kernel_rfl
theorem goes_eq : false = Rows.solveNamesRow.goesBy Tryz.prog := by
  unfold OpenClaim.goesBy Program.goesAt Program.goesFrom
  rw [go3, Option.any_some]
  unfold Program.goes
  rw [closure_eq, go1, ← Array.any_toList, go2, Bool.and_false]
  kernel_rfl

theorem ty : Tryz.prog.types.size = 686 := by kernel_rfl
theorem k0 : (List.range' 0 100).all (rowF Tryz.prog 686) = true := by kernel_rfl
theorem c1 : (List.range' 100 100).all (rowF Tryz.prog 686) = true := by kernel_rfl
theorem k1 : (List.range' 0 200).all (rowF Tryz.prog 686) = true := range_more rfl k0 c1
theorem c2 : (List.range' 200 100).all (rowF Tryz.prog 686) = true := by kernel_rfl
theorem k2 : (List.range' 0 300).all (rowF Tryz.prog 686) = true := range_more rfl k1 c2
theorem c3 : (List.range' 300 100).all (rowF Tryz.prog 686) = true := by kernel_rfl
theorem k3 : (List.range' 0 400).all (rowF Tryz.prog 686) = true := range_more rfl k2 c3
theorem c4 : (List.range' 400 100).all (rowF Tryz.prog 686) = true := by kernel_rfl
theorem k4 : (List.range' 0 500).all (rowF Tryz.prog 686) = true := range_more rfl k3 c4
theorem c5 : (List.range' 500 100).all (rowF Tryz.prog 686) = true := by kernel_rfl
theorem k5 : (List.range' 0 600).all (rowF Tryz.prog 686) = true := range_more rfl k4 c5
theorem c6 : (List.range' 600 86).all (rowF Tryz.prog 686) = true := by kernel_rfl
theorem k6 : (List.range' 0 686).all (rowF Tryz.prog 686) = true := range_more rfl k5 c6
theorem laid_eq : laidOutB Tryz.prog = true :=
  laid_of ty k6 (by kernel_rfl) (by kernel_rfl)

theorem maps_eq : mapsRowed Tryz.prog = true := by kernel_rfl
theorem keys_eq : (Rows.solveNamesRow.plainKeys == Tryz.prog.plainKeys) = true := by kernel_rfl
theorem heard_eq : Tryz.prog.stopsHeard = true := by kernel_rfl
theorem enter_eq : Tryz.prog.mayEnter = true := by kernel_rfl
theorem fits_eq : Rows.solveNamesRow.veiledFits Tryz.prog Tryz.f3.params.toList (Tryz.f3.params.toList ++ Rows.solveNamesSpec.plain.varTypes Tryz.prog ++ Tryz.f3.resultTypes.toList) = true := by kernel_rfl

theorem facts : joinedFacts Tryz.prog 3 Tryz.f3 Rows.solveNamesSpec Rows.solveNamesRow = true := by
  unfold joinedFacts
  rw [laid_eq, in_eq, un_eq, re_eq, na_eq, maps_eq, keys_eq, heard_eq, enter_eq, fits_eq]
  kernel_rfl
end Go.Proofs.YtcmbokfnglkfnaaGreatDoor.Jf
