/-
  THE ROW'S CLOSED FACTS of a great program, piece by piece: who is called from where (once around, the seen ones as a number's bits), the types' vj in parts.
  Conditions: none.
-/
import Derived.Test.YtopigipibioclaaGreatDoorCards
import Derived.JoinedOf
import Derived.KernelRfl
import GoSem.ClaimSeven
namespace Go.Proofs.YtopigipibioclaaGreatDoor.Jf
open Go
set_option linter.all false

/-- Who is looked up in a list of lists: by the list's own recursor. -/
noncomputable def at' (T : List (List Nat)) : Nat → List Nat :=
  List.rec (motive := fun _ => Nat → List Nat) (fun _ => []) (fun a _ ih n => Nat.casesOn n a fun m => ih m) T

theorem B7 (T : List (List Nat)) (n : Nat) : at' T n = (T[n]?).getD [] := by
  induction T generalizing n with
  | nil => simp [at']
  | cons a T ih => cases n with
    | zero => rfl
    | succ n => simpa [at'] using ih n

/-- The closure, with the seen ones as a number's bits. -/
noncomputable def oh (T : List (List Nat)) (n : Nat) : List Nat → Nat → List Nat → List Nat :=
  Nat.rec (motive := fun _ => List Nat → Nat → List Nat → List Nat) (fun _ _ acc => acc.reverse)
    (fun _ ih todo mask acc => List.casesOn (motive := fun _ => List Nat) todo acc.reverse fun f todo =>
      Bool.casesOn (motive := fun _ => List Nat) (Nat.beq (Nat.land (Nat.shiftRight mask f) 1) 1)
        (ih (List.append (at' T f) todo) (Nat.lor mask (Nat.shiftLeft 1 f)) (f :: acc))
        (ih todo mask acc)) n

theorem B6 (m f : Nat) : Nat.beq (Nat.land (Nat.shiftRight m f) 1) 1 = m.testBit f := by
  have h : Nat.land (Nat.shiftRight m f) 1 = (m >>> f) % 2 := by
    show (m >>> f) &&& 1 = _
    exact Nat.and_one_is_mod _
  rw [h, Nat.testBit_eq_decide_div_mod_eq, Nat.shiftRight_eq_div_pow]
  rw [Bool.eq_iff_iff]
  simp

theorem my (P : Program) (T : List (List Nat)) (hT : ∀ f : Nat, (P.funcs[f]?).elim [] P.leadsTo = (T[f]?).getD []) :
    ∀ (n : Nat) (todo : List Nat) (mask : Nat) (seen : List Nat), (∀ f, mask.testBit f = seen.contains f) → P.closureVia n todo seen = oh T n todo mask seen
  | 0, _, _, _, _ => by rw [Program.closureVia]; rfl
  | n + 1, [], _, _, _ => by rw [Program.closureVia]; rfl; intro h; cases h
  | n + 1, f :: todo, mask, seen, h => by
    have e : oh T (n + 1) (f :: todo) mask seen = Bool.casesOn (motive := fun _ => List Nat) (Nat.beq (Nat.land (Nat.shiftRight mask f) 1) 1)
        (oh T n (List.append (at' T f) todo) (Nat.lor mask (Nat.shiftLeft 1 f)) (f :: seen)) (oh T n todo mask seen) := rfl
    rw [e, B6, h f, Program.closureVia]
    cases hs : seen.contains f
    · simp only [Bool.false_eq_true, if_false]
      rw [hT f, ← B7]
      refine my P T hT n _ _ _ fun g => ?_
      show (mask ||| 1 <<< f).testBit g = _
      rw [Nat.testBit_or, h g, Nat.one_shiftLeft, Nat.testBit_two_pow, List.contains_cons, Bool.or_comm]
      congr 1
      by_cases e : f = g
      · subst e; simp
      · simp [e, Ne.symm e]
    · simp only [if_true]
      exact my P T hT n _ _ _ h

/-- A type that a variable may have, with the number of types given. -/
def zz (P : Program) (N : Nat) (t : TypeId) : Bool := Nat.ble (t + 1) N && kindOk (P.underlying t)
def iG (P : Program) (N : Nat) (t : TypeId) : Bool :=
  !zz P N t ||
  match P.underlying t with
  | some (.struct fs) => fs.toList.all (fun f => zz P N f.type) && P.cellsOf t == (fs.toList.map fun f => P.cellsOf f.type).sum &&
      (List.range fs.toList.length).all fun j => match fs.toList[j]? with | some f => f.offset == ((fs.toList.take j).map fun f => P.cellsOf f.type).sum | none => true
  | some (.array n e) => zz P N e && P.cellsOf t == n * P.cellsOf e
  | some (.pointer e) => zz P N e && P.cellsOf t == 1
  | some (.slice e) => zz P N e && P.cellsOf t == 1
  | _ => P.cellsOf t == 1
theorem zy {P : Program} {N : Nat} (h : P.types.size = N) : zz P N = isVar P := by
  funext t
  unfold zz isVar
  rw [h]
  congr 1
  rw [Bool.eq_iff_iff]
  simp [Nat.lt_iff_add_one_le]
theorem vo {P : Program} {N : Nat} (h : P.types.size = N) : iG P N = rowFine P := by
  funext t
  unfold iG rowFine
  rw [zy h]
  rfl
theorem fy {p : Nat → Bool} {k n m : Nat} (h : k + n = m) (h1 : (List.range' 0 k).all p = true) (h2 : (List.range' k n).all p = true) : (List.range' 0 m).all p = true := by
  have e := List.range'_append (s := 0) (m := k) (n := n) (step := 1)
  rw [show 0 + 1 * k = k by omega, h] at e
  rw [← e, List.all_append, h1, h2]
  rfl
theorem vG {P : Program} {N : Nat} (h : P.types.size = N) (h1 : (List.range' 0 N).all (iG P N) = true) (h2 : P.globals.toList.all (fun g => Nat.ble (g.type + 1) N) = true)
    (h3 : P.funcs.toList.all (fun f => f.params.toList.all fun t => Nat.ble (t + 1) N) = true) : laidOutB P = true := by
  unfold laidOutB
  rw [h, Bool.and_eq_true, Bool.and_eq_true]
  refine ⟨⟨?_, ?_⟩, ?_⟩
  · rw [List.range_eq_range', ← vo h]; exact h1
  · rw [← Array.all_toList]
    rw [List.all_eq_true] at h2 ⊢
    intro g hg
    have := h2 g hg
    simpa [Nat.lt_iff_add_one_le] using this
  · rw [← Array.all_toList]
    rw [List.all_eq_true] at h3 ⊢
    intro g hg
    have := h3 g hg
    rw [← Array.all_toList]
    rw [List.all_eq_true] at this ⊢
    intro t ht
    have := this t ht
    simpa [Nat.lt_iff_add_one_le] using this

def lt : List (List Nat) := [[], [], [1], [5, 4, 5, 4, 4, 6], [7, 9, 11, 13, 15, 17, 19], [], [5, 4, 5, 4], [8], [20, 18], [10], [21, 22, 23], [12], [24, 25, 25, 26, 25, 28, 27, 
 30], [14], [31, 32], [16], [33, 34, 35, 36, 37, 38], [18], [39, 40, 41, 42, 43, 44, 45, 46, 47], [48], [], [49, 50, 51], [], [52, 54, 53, 52, 56, 55, 52, 57, 58, 59, 60], [61, 63, 
 64, 65, 66, 67, 69, 68], [26], [70], [71], [29], [26, 25, 30], [72], [12, 76, 77, 78, 79], [80, 81, 82, 82], [83, 83, 84, 85, 87, 86, 89, 90], [91], [94, 93], [], [], [], [33, 95, 
 96, 97, 98], [99], [], [], [100], [101, 102, 103, 104, 105], [], [101, 106], [102, 107, 102], [108, 109, 110, 109, 111, 112, 113], [], [], [49, 114, 49, 116, 117, 118, 119, 120], 
 [121, 122], [52, 52, 58], [123, 60, 122], [52, 52, 58], [54, 58, 124, 58], [54, 58, 54, 53, 59], [52, 60], [126, 125], [], [62], [49, 128, 116, 129], [131, 130], [133, 132], [134, 
 135, 136, 137, 138, 139, 64, 65, 64, 65], [141, 140], [62], [142, 27], [62, 63, 64, 65], [], [], [73, 73, 73, 26, 74, 75], [26, 26], [73, 73, 74], [74, 75], [], [78, 143, 144, 
 146, 145, 148, 147, 77, 77], [], [], [149], [], [80, 80, 80, 80, 81, 150, 80, 81, 81, 150, 32, 32, 81, 81, 81, 80, 80, 150, 32], [], [151], [], [152], [83, 83, 88], [83, 153, 155, 
 154], [], [156, 157, 158], [92], [], [159, 160, 161, 162, 163, 164, 165, 166, 167, 93, 93], [168, 169], [170, 35, 170, 170], [171, 172, 174, 173], [33, 175], [33, 175, 177, 176], 
 [], [178, 179], [107, 103], [180], [181], [182], [183, 184], [187, 183], [108, 189, 190], [171, 191], [192], [194, 193, 194, 193], [195, 197, 197, 196, 198, 198, 196], [94, 199], 
 [], [115, 116], [], [], [200, 201], [202], [], [203], [204], [], [62], [60, 122, 205], [121, 60, 58], [52, 127], [206, 122, 54, 121, 207, 58, 208, 58], [115, 116], [210, 209], 
 [211], [], [212], [], [], [62], [213, 154], [214, 135, 136, 137], [216, 215], [217, 136, 137, 138, 139], [218], [], [], [219, 146, 145, 77], [], [220], [144, 146, 145], [221], 
 [146, 145, 148, 147], [149], [222, 223, 150, 224, 150, 150, 225, 226], [], [], [227], [229], [], [], [], [157, 158], [165], [230, 230], [231, 232], [233, 233, 233, 234], [], [165, 
 165, 165], [235, 235], [165, 165], [165, 165, 165, 165], [], [], [], [33, 95, 236, 237], [238], [239, 240, 238], [241], [242], [243, 35], [244], [], [], [171, 245, 246], [171, 
 248], [], [249, 186], [185, 186], [250, 251, 252, 253, 251, 252, 255, 254, 238], [172], [173, 186, 188], [239], [], [257, 257, 258, 259, 260, 261, 262, 262], [174, 263, 265, 264], 
 [33, 266, 267, 268, 269, 264, 270], [271], [273, 272, 273, 272], [274], [275], [], [], [276, 277, 278, 279, 280, 281, 282, 283, 284, 199, 199], [285], [286, 287, 288, 289], [290, 
 291, 292, 293], [], [], [294, 201], [295, 296, 297, 297, 298, 299, 300], [301, 125], [302, 306, 305, 303], [204], [307, 308], [], [], [], [], [309], [], [], [], [310], [], [], 
 [80], [80], [], [81], [80, 156, 80], [83, 83, 228, 154], [], [], [165, 165], [94], [], [234], [311, 311, 311], [], [], [188], [312, 313, 314, 316, 315], [238, 317, 318, 317], [], 
 [194], [], [319], [], [], [247], [320, 321, 322], [250, 323, 324], [239, 240, 325, 326, 238], [320, 327, 318], [328], [330], [332, 331], [333], [256], [334, 335], [324], [337, 
 336], [109, 109, 189, 110, 264, 189, 324], [336, 341], [343, 343, 343, 343, 248, 343], [189], [239, 344, 345], [195, 346], [347], [348, 349], [350, 84], [33], [269, 347, 351, 182, 
 351, 352, 353, 354, 355], [], [], [], [356], [357, 357, 275], [358, 359], [282], [360, 360], [231, 232], [361, 361, 361, 362], [], [282, 282, 282], [363, 363], [282, 282], [282, 
 282, 282, 282], [364, 364, 364, 364, 364, 364, 365], [366], [366], [366, 219, 367], [366, 219, 367], [], [169, 368, 369], [], [370, 371], [200], [58], [54, 58], [372, 58], [372, 
 59, 52, 59], [372, 59], [54, 58, 208, 373, 58], [208, 58], [304, 305, 303], [121, 122, 121], [121, 374, 125, 121, 375, 125, 123, 54, 121, 207, 124], [376], [305, 303], [], [377], 
 [], [202], [165], [378, 254, 379, 254], [], [], [380], [381, 382, 383, 384, 385], [386, 387, 388, 389], [390, 391, 392, 380, 316, 315], [], [239], [], [393], [172], [394, 395, 
 189, 249, 323], [333], [396, 397], [399], [194, 329], [400, 401, 403, 402], [405, 406], [407], [330], [], [], [408], [409, 189, 410, 411, 324], [109, 339, 338, 340, 323], [412, 
 413, 414, 417, 418, 419], [], [420, 344, 274, 421, 422, 423, 424, 423, 425, 425, 425, 318], [342, 323, 265], [420, 426, 425, 318], [427, 189, 406, 406, 189, 194, 194, 109, 109, 
 428, 429, 339, 338, 194, 329, 430, 431, 432, 324], [396, 433], [405, 406, 434, 435, 275, 275], [197, 197, 436, 198, 198, 437, 196, 438, 438], [110], [439], [265, 111], [], [440], 
 [441], [347, 442, 265, 351], [443, 444, 445, 446, 347, 111, 347, 111, 447, 351], [448, 415, 428, 447, 415, 428, 449, 416, 451, 450], [456], [401], [457, 272, 458], [], [282, 282], 
 [362], [459, 459, 459], [], [], [364, 364, 364, 364, 364, 364], [], [], [], [], [], [460, 461], [58, 462, 58], [52, 52, 58], [304], [208, 58], [], [463, 464], [344], [], [381, 
 382, 381, 256], [194], [465, 466, 467, 468, 469, 470, 471, 472], [474], [385], [406], [256], [256], [], [], [475, 331, 476, 331], [], [385, 385], [405, 406], [477], [188], [478], 
 [398], [479, 169], [], [344], [479], [], [404], [480], [400, 404, 481], [401, 359], [], [], [483, 482, 182], [], [174, 430, 432, 174, 432], [484, 348, 485], [195, 486], [415, 
 416], [274, 197, 488, 198, 488, 487], [195, 197, 197, 489, 438, 198, 198, 489, 438], [431, 194, 434], [401, 193, 193], [450, 416], [239], [344], [], [405, 480, 490, 431], [491], 
 [194], [], [109, 109, 415, 416], [492, 493], [484, 484, 494, 492], [495], [457, 458], [496, 173, 323], [401], [497], [497], [196], [196], [498, 193], [], [485, 413], [110], [111, 
 264], [195, 499, 500, 501, 500, 501, 486], [195, 499, 197, 488, 198, 436, 194, 489, 197, 488, 436, 198, 437, 198, 502, 197, 502, 438, 438], [503, 504], [503, 505], [265, 442], 
 [447], [429], [195, 500, 504], [347, 453, 452, 455, 455], [506], [454], [507], [485, 508, 492], [], [401], [509, 272, 510, 272, 510, 272], [282], [], [], [511, 513, 514], [], [], 
 [516], [], [194], [517, 474, 520, 521], [516, 522], [516, 516, 522, 523, 496], [94, 524], [473], [400, 525, 526], [], [344], [], [], [], [], [457, 527, 272], [431], [], [104], 
 [452, 485], [274], [197, 198, 197, 198, 487], [528, 196, 438, 529, 196, 438], [495], [431], [], [335], [484], [415], [416], [401, 271, 272], [402, 530], [531, 272, 458], [], [194, 
 495, 498, 193, 193, 498, 346], [197, 197, 197, 198, 198, 197, 198, 198, 487], [502, 502, 502, 435, 434], [406], [195, 110, 346, 532, 500], [502, 502, 480], [434], [], [335], 
 [450], [535, 536, 537, 356], [535, 536, 538, 356], [512], [], [515, 514], [121, 122, 121], [121, 539, 125, 540, 125, 122, 208, 121, 60, 122, 208], [344], [519, 518], [406], [405], 
 [519, 541, 518, 518, 542, 544, 543], [519, 194, 329, 544, 546, 545, 519, 544, 543], [547], [548, 550, 549], [551, 552, 553, 554, 555, 556, 557, 558, 524, 524], [], [275], [560, 
 559], [], [], [271], [457, 561, 272], [533, 534, 193], [401, 562], [398, 94, 527, 527], [479], [563], [], [], [515], [462, 58], [564], [565], [566, 548], [495], [], [], [523, 550, 
 194, 329, 549, 550, 567, 568], [569, 496, 570, 402], [495, 566, 548], [572], [], [573, 573], [231, 232], [574, 574, 574, 575], [], [], [], [], [479], [576, 577, 577, 560, 560, 
 579, 579, 560, 578, 580, 580, 579], [581, 582, 273, 271, 583, 584, 584, 585, 586, 587, 589, 588, 589], [479], [590], [516, 344, 405, 406], [], [401, 401, 400, 591, 402], [], [592, 
 593], [400, 594], [571], [531], [595], [], [575], [596, 596, 596], [179, 537, 537, 597], [597], [510], [509], [], [479, 479], [479, 598, 599, 589], [169], [600, 179, 356], [599, 
 179, 537], [179, 537, 538, 538], [537, 537], [600, 271, 356], [456], [], [404, 404, 481], [], [601], [602, 561], [], [], [], [603], [583], [479], [604, 604, 604], [479], [], [], 
 [], [], [], [], [], [], [], [], [], [], [], [], [], [], [], [], [], [], [], [], [], [], [], [], [], [], [], [], [], [], [], [], [367, 367]] 
def cl : List Nat := [3, 5, 4, 7, 8, 20, 18, 39, 33, 83, 84, 151, 85, 87, 88, 153, 227, 228, 154, 229, 155, 86, 152, 89, 90, 156, 157, 158, 95, 170, 35, 94, 168, 169, 93, 159, 165, 
 235, 160, 230, 161, 231, 232, 162, 233, 234, 311, 163, 164, 166, 167, 96, 171, 236, 237, 188, 239, 238, 312, 378, 344, 396, 478, 433, 401, 479, 254, 333, 379, 313, 314, 316, 381, 
 194, 273, 356, 456, 272, 382, 465, 516, 466, 467, 468, 517, 519, 405, 400, 404, 480, 457, 527, 560, 576, 179, 537, 597, 577, 579, 509, 535, 536, 563, 590, 578, 510, 538, 580, 559, 
 481, 431, 458, 518, 406, 359, 474, 520, 541, 564, 542, 565, 544, 495, 271, 543, 566, 591, 402, 548, 569, 594, 602, 561, 581, 582, 598, 603, 599, 583, 589, 584, 600, 585, 586, 587, 
 588, 496, 530, 570, 571, 531, 521, 329, 403, 546, 545, 469, 522, 547, 523, 550, 572, 595, 549, 567, 568, 592, 593, 601, 604, 470, 471, 524, 551, 552, 573, 553, 554, 574, 575, 596, 
 555, 556, 557, 558, 472, 473, 525, 526, 275, 358, 383, 384, 385, 315, 380, 256, 334, 335, 408, 317, 386, 387, 388, 389, 318, 390, 475, 331, 407, 476, 391, 392, 172, 174, 241, 173, 
 240, 97, 175, 242, 98, 177, 244, 176, 243, 319, 40, 99, 41, 42, 43, 100, 178, 44, 101, 107, 108, 191, 263, 345, 434, 497, 435, 265, 347, 110, 193, 264, 195, 274, 357, 346, 197, 
 436, 196, 198, 437, 438, 498, 189, 190, 257, 324, 394, 477, 395, 249, 325, 326, 397, 398, 323, 258, 337, 109, 192, 266, 348, 439, 349, 111, 267, 350, 268, 269, 351, 440, 485, 413, 
 486, 487, 528, 529, 182, 352, 441, 353, 442, 354, 443, 499, 500, 501, 502, 444, 488, 489, 445, 503, 532, 533, 562, 534, 504, 446, 505, 447, 355, 448, 415, 428, 492, 484, 452, 506, 
 493, 449, 429, 494, 416, 451, 453, 454, 507, 455, 508, 450, 270, 339, 338, 412, 414, 417, 418, 419, 340, 420, 421, 422, 423, 490, 424, 491, 425, 336, 409, 483, 104, 482, 410, 411, 
 430, 432, 259, 260, 341, 342, 426, 261, 343, 427, 248, 250, 320, 327, 399, 262, 103, 181, 102, 180, 245, 246, 247, 321, 322, 393, 105, 183, 186, 184, 185, 251, 328, 252, 330, 253, 
 332, 255, 45, 46, 106, 187, 47, 9, 10, 21, 49, 50, 51, 114, 115, 116, 117, 200, 285, 364, 365, 201, 286, 366, 287, 288, 219, 310, 202, 290, 291, 368, 369, 292, 293, 370, 371, 460, 
 461, 367, 289, 118, 119, 120, 203, 22, 23, 52, 121, 204, 122, 54, 123, 62, 128, 129, 210, 307, 308, 377, 463, 464, 209, 60, 53, 58, 56, 124, 205, 294, 55, 57, 59, 126, 127, 206, 
 295, 296, 297, 372, 462, 511, 512, 513, 515, 539, 125, 540, 208, 302, 304, 374, 375, 207, 301, 305, 376, 303, 306, 514, 298, 299, 300, 373, 11, 12, 24, 61, 63, 131, 130, 211, 64, 
 133, 132, 212, 65, 134, 135, 136, 213, 137, 214, 138, 216, 215, 309, 139, 217, 66, 141, 140, 218, 67, 69, 68, 142, 27, 71, 25, 26, 70, 28, 29, 30, 72, 73, 74, 75, 13, 14, 31, 76, 
 77, 78, 143, 146, 144, 145, 220, 148, 147, 221, 79, 32, 80, 149, 81, 82, 150, 222, 223, 224, 225, 226, 15, 16, 34, 91, 92, 36, 37, 38, 17, 19, 48, 112, 199, 276, 282, 363, 277, 
 360, 278, 279, 361, 362, 459, 280, 281, 283, 284, 113, 6] 
set_option maxRecDepth 100000
theorem x0 : Tryz.prog.funcs.toList.map Tryz.prog.leadsTo = lt := by kernel_rfl
theorem vR : 1 + (lt.map fun l => l.length + 1).sum = 1950 := by kernel_rfl
theorem xu : oh lt 1950 [3] 0 [] = cl := by kernel_rfl
theorem lead (f : Nat) : (Tryz.prog.funcs[f]?).elim [] Tryz.prog.leadsTo = (lt[f]?).getD [] := by
  rw [← x0, List.getElem?_map, Array.getElem?_toList]
  cases Tryz.prog.funcs[f]? <;> rfl
theorem iu : Tryz.prog.closure 3 = cl := by
  unfold Program.closure
  have e : (Tryz.prog.funcs.toList.map fun g => (Tryz.prog.leadsTo g).length + 1) = lt.map fun l => l.length + 1 := by
    rw [← x0, List.map_map]; rfl
  rw [e, vR, my _ lt lead _ _ 0 _ (fun f => by simp), xu]

theorem Tc : (Rows.reportNamesRow.inPlace == Tryz.prog.inPlace 3) = true := by
  unfold Program.inPlace; rw [iu]; kernel_rfl
theorem o8 : Tryz.prog.unfollowed 3 = true := by
  unfold Program.unfollowed; rw [iu]; kernel_rfl
theorem Kz : (Rows.reportNamesRow.unfollowed == Tryz.prog.unfollowed 3) = true := by
  rw [o8]; kernel_rfl
theorem MG : (Rows.reportNamesRow.recurses == Tryz.prog.recurses 3) = true := by
  unfold Program.recurses; rw [o8]; kernel_rfl
theorem ML : (Rows.reportNamesRow.named == Tryz.prog.varsNamed 3) = true := by
  unfold Program.varsNamed; rw [iu]; kernel_rfl
theorem go1 : cl.any (fun g => (Tryz.prog.funcs[g]?).any Func.goes) = false := by kernel_rfl
theorem go2 : Tryz.prog.funcs.toList.any Func.goes = false := by kernel_rfl
theorem go3 : Tryz.prog.funcNamed Rows.reportNamesRow.func = some 3 := by kernel_rfl
theorem goes_eq : false = Rows.reportNamesRow.goesBy Tryz.prog := by
  unfold OpenClaim.goesBy Program.goesAt Program.goesFrom
  rw [go3, Option.any_some]
  unfold Program.goes
  rw [iu, go1, ← Array.any_toList, go2, Bool.and_false]
  kernel_rfl

theorem ty : Tryz.prog.types.size = 720 := by kernel_rfl
theorem k0 : (List.range' 0 100).all (iG Tryz.prog 720) = true := by kernel_rfl
theorem c1 : (List.range' 100 100).all (iG Tryz.prog 720) = true := by kernel_rfl
theorem k1 : (List.range' 0 200).all (iG Tryz.prog 720) = true := fy rfl k0 c1
theorem c2 : (List.range' 200 100).all (iG Tryz.prog 720) = true := by kernel_rfl
theorem k2 : (List.range' 0 300).all (iG Tryz.prog 720) = true := fy rfl k1 c2
theorem c3 : (List.range' 300 100).all (iG Tryz.prog 720) = true := by kernel_rfl
theorem k3 : (List.range' 0 400).all (iG Tryz.prog 720) = true := fy rfl k2 c3
theorem c4 : (List.range' 400 100).all (iG Tryz.prog 720) = true := by kernel_rfl
theorem k4 : (List.range' 0 500).all (iG Tryz.prog 720) = true := fy rfl k3 c4
theorem c5 : (List.range' 500 100).all (iG Tryz.prog 720) = true := by kernel_rfl
theorem k5 : (List.range' 0 600).all (iG Tryz.prog 720) = true := fy rfl k4 c5
theorem c6 : (List.range' 600 100).all (iG Tryz.prog 720) = true := by kernel_rfl
theorem k6 : (List.range' 0 700).all (iG Tryz.prog 720) = true := fy rfl k5 c6
theorem c7 : (List.range' 700 20).all (iG Tryz.prog 720) = true := by kernel_rfl
theorem k7 : (List.range' 0 720).all (iG Tryz.prog 720) = true := fy rfl k6 c7
theorem vH : laidOutB Tryz.prog = true :=
  vG ty k7 (by kernel_rfl) (by kernel_rfl)

theorem vD : mapsRowed Tryz.prog = true := by kernel_rfl
theorem vI : (Rows.reportNamesRow.plainKeys == Tryz.prog.plainKeys) = true := by kernel_rfl
theorem rZ : Tryz.prog.stopsHeard = true := by kernel_rfl
theorem so : Tryz.prog.mayEnter = true := by kernel_rfl
theorem vS : Rows.reportNamesRow.veiledFits Tryz.prog Tryz.f3.params.toList (Tryz.f3.params.toList ++ Rows.reportNamesSpec.plain.varTypes Tryz.prog ++ Tryz.f3.resultTypes.toList) = true := by kernel_rfl

theorem facts : joinedFacts Tryz.prog 3 Tryz.f3 Rows.reportNamesSpec Rows.reportNamesRow = true := by
  unfold joinedFacts
  rw [vH, Tc, Kz, MG, ML, vD, vI, rZ, so, vS]
  kernel_rfl
end Go.Proofs.YtopigipibioclaaGreatDoor.Jf
