/-
  THE ROW'S CLOSED FACTS of a great program, piece by piece: who is called from where (once around, the seen ones as a number's bits), the types' rows in parts.
  Conditions: none.
-/
import Derived.Test.YtedembbgeljdkaaGreatDoorCards
import Derived.JoinedOf
import Derived.KernelRfl
import GoSem.ClaimSeven
namespace Go.Proofs.YtedembbgeljdkaaGreatDoor.Jf
open Go
set_option linter.all false

/-- Who is looked up in a list of lists: by the list's own recursor. -/
noncomputable def at' (T : List (List Nat)) : Nat → List Nat :=
  List.rec (motive := fun _ => Nat → List Nat) (fun _ => []) (fun a _ ih n => Nat.casesOn n a fun m => ih m) T

theorem at'_eq (T : List (List Nat)) (n : Nat) : at' T n = (T[n]?).getD [] := by
  induction T generalizing n with
  | nil => simp [at']
  | cons a T ih => cases n with
    | zero => rfl
    | succ n => simpa [at'] using ih n

/-- The closure, with the seen ones as a number's bits. -/
noncomputable def fast (T : List (List Nat)) (n : Nat) : List Nat → Nat → List Nat → List Nat :=
  Nat.rec (motive := fun _ => List Nat → Nat → List Nat → List Nat) (fun _ _ acc => acc.reverse)
    (fun _ ih todo mask acc => List.casesOn (motive := fun _ => List Nat) todo acc.reverse fun f todo =>
      Bool.casesOn (motive := fun _ => List Nat) (Nat.beq (Nat.land (Nat.shiftRight mask f) 1) 1)
        (ih (List.append (at' T f) todo) (Nat.lor mask (Nat.shiftLeft 1 f)) (f :: acc))
        (ih todo mask acc)) n

theorem bit_eq (m f : Nat) : Nat.beq (Nat.land (Nat.shiftRight m f) 1) 1 = m.testBit f := by
  have h : Nat.land (Nat.shiftRight m f) 1 = (m >>> f) % 2 := by
    show (m >>> f) &&& 1 = _
    exact Nat.and_one_is_mod _
  rw [h, Nat.testBit_eq_decide_div_mod_eq, Nat.shiftRight_eq_div_pow]
  rw [Bool.eq_iff_iff]
  simp

theorem fast_eq (P : Program) (T : List (List Nat)) (hT : ∀ f : Nat, (P.funcs[f]?).elim [] P.leadsTo = (T[f]?).getD []) :
    ∀ (n : Nat) (todo : List Nat) (mask : Nat) (seen : List Nat), (∀ f, mask.testBit f = seen.contains f) → P.closureVia n todo seen = fast T n todo mask seen
  | 0, _, _, _, _ => by rw [Program.closureVia]; rfl
  | n + 1, [], _, _, _ => by rw [Program.closureVia]; rfl; intro h; cases h
  | n + 1, f :: todo, mask, seen, h => by
    have e : fast T (n + 1) (f :: todo) mask seen = Bool.casesOn (motive := fun _ => List Nat) (Nat.beq (Nat.land (Nat.shiftRight mask f) 1) 1)
        (fast T n (List.append (at' T f) todo) (Nat.lor mask (Nat.shiftLeft 1 f)) (f :: seen)) (fast T n todo mask seen) := rfl
    rw [e, bit_eq, h f, Program.closureVia]
    cases hs : seen.contains f
    · simp only [Bool.false_eq_true, if_false]
      rw [hT f, ← at'_eq]
      refine fast_eq P T hT n _ _ _ fun g => ?_
      show (mask ||| 1 <<< f).testBit g = _
      rw [Nat.testBit_or, h g, Nat.one_shiftLeft, Nat.testBit_two_pow, List.contains_cons, Bool.or_comm]
      congr 1
      by_cases e : f = g
      · subst e; simp
      · simp [e, Ne.symm e]
    · simp only [if_true]
      exact fast_eq P T hT n _ _ _ h

/-- A type that a variable may have, with the number of types given. -/
def isV (P : Program) (N : Nat) (t : TypeId) : Bool := Nat.ble (t + 1) N && kindOk (P.underlying t)
def rowF (P : Program) (N : Nat) (t : TypeId) : Bool :=
  !isV P N t ||
  match P.underlying t with
  | some (.struct fs) => fs.toList.all (fun f => isV P N f.type) && P.cellsOf t == (fs.toList.map fun f => P.cellsOf f.type).sum &&
      (List.range fs.toList.length).all fun j => match fs.toList[j]? with | some f => f.offset == ((fs.toList.take j).map fun f => P.cellsOf f.type).sum | none => true
  | some (.array n e) => isV P N e && P.cellsOf t == n * P.cellsOf e
  | some (.pointer e) => isV P N e && P.cellsOf t == 1
  | some (.slice e) => isV P N e && P.cellsOf t == 1
  | _ => P.cellsOf t == 1
theorem isV_eq {P : Program} {N : Nat} (h : P.types.size = N) : isV P N = isVar P := by
  funext t
  unfold isV isVar
  rw [h]
  congr 1
  rw [Bool.eq_iff_iff]
  simp [Nat.lt_iff_add_one_le]
theorem rowF_eq {P : Program} {N : Nat} (h : P.types.size = N) : rowF P N = rowFine P := by
  funext t
  unfold rowF rowFine
  rw [isV_eq h]
  rfl
theorem range_more {p : Nat → Bool} {k n m : Nat} (h : k + n = m) (h1 : (List.range' 0 k).all p = true) (h2 : (List.range' k n).all p = true) : (List.range' 0 m).all p = true := by
  have e := List.range'_append (s := 0) (m := k) (n := n) (step := 1)
  rw [show 0 + 1 * k = k by omega, h] at e
  rw [← e, List.all_append, h1, h2]
  rfl
theorem laid_of {P : Program} {N : Nat} (h : P.types.size = N) (h1 : (List.range' 0 N).all (rowF P N) = true) (h2 : P.globals.toList.all (fun g => Nat.ble (g.type + 1) N) = true)
    (h3 : P.funcs.toList.all (fun f => f.params.toList.all fun t => Nat.ble (t + 1) N) = true) : laidOutB P = true := by
  unfold laidOutB
  rw [h, Bool.and_eq_true, Bool.and_eq_true]
  refine ⟨⟨?_, ?_⟩, ?_⟩
  · rw [List.range_eq_range', ← rowF_eq h]; exact h1
  · rw [← Array.all_toList]
    rw [List.all_eq_true] at h2 ⊢
    intro g hg
    have := h2 g hg
    simpa [Nat.lt_iff_add_one_le] using this
  · rw [← Array.all_toList]
    rw [List.all_eq_true] at h3 ⊢
    intro g hg
    have := h3 g hg
    rw [← Array.all_toList]
    rw [List.all_eq_true] at this ⊢
    intro t ht
    have := this t ht
    simpa [Nat.lt_iff_add_one_le] using this

def lt : List (List Nat) := [[], [], [1], [4, 5, 6, 7, 8], [9, 10], [11, 12, 14, 13], [15, 16, 17, 16, 18, 19, 20], [15, 21, 22], [4, 5, 7, 23, 17, 24], [25, 26, 27], [28, 29], 
 [30, 31, 32, 33], [35], [36, 37, 35], [38], [11, 39], [40], [42, 41, 42, 41], [43, 45, 45, 44, 46, 46, 44], [48, 47], [], [], [49, 49, 50, 51, 52, 53, 54, 54], [11, 39], [55], 
 [57, 58, 59], [], [60, 62, 61, 60, 64, 63, 60, 65, 66, 67, 68], [69, 70, 71, 72, 73], [74, 75, 76, 76], [77, 77, 78, 79, 81, 80, 83, 84], [85, 86, 85, 85], [], [34], [36], [87, 
 88, 89, 91, 90], [35, 92, 93, 92], [], [42], [14, 94, 96, 95], [30, 97, 98, 99, 100, 95, 101], [102], [104, 103, 104, 103], [105], [106], [], [], [107, 108, 109, 110, 111, 112, 
 113, 114, 115, 47, 47], [116, 117], [118], [120, 119], [16, 16, 21, 17, 95, 21, 118], [119, 125], [127, 127, 127, 127, 128, 127], [21], [56], [129], [], [], [57, 130, 57, 132, 
 133, 134, 135, 136], [137, 138], [60, 60, 66], [139, 68, 138], [60, 60, 66], [62, 66, 140, 66], [62, 66, 62, 61, 67], [60, 68], [142, 141], [], [144, 145, 145, 146, 145, 148, 147, 
 150], [], [72, 151, 152, 154, 153, 156, 155, 71, 71], [], [], [157], [], [74, 74, 74, 74, 75, 158, 74, 75, 75, 158, 29, 29, 75, 75, 75, 74, 74, 158, 29], [], [159], [], [160], 
 [77, 77, 82], [77, 161, 163, 162], [], [164, 165, 166], [], [48, 167], [169, 168, 171, 168], [], [], [172], [173, 174, 175, 176, 177], [178, 180, 181, 182], [183, 184, 185, 172, 
 91, 90], [36, 170, 186], [43, 187], [188], [189, 190], [191, 78], [30], [100, 188, 192, 193, 192, 194, 195, 196, 197], [], [], [], [198], [199, 199, 106], [200, 201], [113], [202, 
 202], [203, 204], [205, 205, 205, 206], [], [113, 113, 113], [207, 207], [113, 113], [113, 113, 113, 113], [], [], [208, 209, 21, 210, 124], [211, 21, 212, 213, 118], [16, 122, 
 121, 123, 124], [214, 215, 216, 219, 220, 221], [], [222, 170, 105, 223, 224, 225, 226, 225, 227, 227, 227, 93], [12], [126, 124, 96], [222, 228, 227, 93], [229, 21, 230, 230, 21, 
 42, 42, 16, 16, 231, 232, 122, 121, 42, 233, 234, 235, 236, 118], [237, 124, 118], [], [131, 132], [], [], [238, 239], [240], [], [241], [242], [], [243], [68, 138, 244], [137, 
 68, 66], [60, 143], [245, 138, 62, 137, 246, 66, 247, 66], [248, 249, 250, 251, 252, 253, 255, 254], [146], [256], [257], [149], [146, 145, 150], [258], [262, 154, 153, 71], [], 
 [263], [152, 154, 153], [264], [154, 153, 156, 155], [157], [265, 266, 158, 267, 158, 158, 268, 269], [], [], [270], [272], [], [], [], [165, 166], [273, 274, 275, 276, 277, 278, 
 279, 280, 281, 167, 167], [282], [170], [283, 284], [], [173, 174, 173, 179], [42], [286, 287, 288, 289, 290, 291, 292, 293], [295], [177], [230], [179], [296, 56], [179], [], [], 
 [298, 297, 299, 297], [], [177, 177], [300, 230, 301, 302, 106, 106], [45, 45, 303, 46, 46, 304, 44, 305, 305], [17], [306], [96, 18], [], [307], [], [308], [188, 309, 96, 192], 
 [310, 311, 312, 313, 188, 18, 188, 18, 314, 192], [315, 217, 231, 314, 217, 231, 316, 218, 318, 317], [322], [285], [323, 103, 324], [], [113, 113], [48], [], [206], [325, 325, 
 325], [], [326], [34], [36, 37, 327, 328, 35], [330, 329, 193], [], [14, 234, 236, 14, 236], [332, 189, 333], [43, 334], [217, 218], [105, 45, 336, 46, 336, 335], [43, 45, 45, 
 337, 305, 46, 46, 337, 305], [235, 42, 301], [285, 41, 41], [317, 218], [36], [170], [], [300, 338, 339, 235], [340], [42], [], [16, 16, 217, 218], [285, 201], [341, 342], [332, 
 332, 343, 341], [344, 285, 346, 345], [348], [323, 324], [349, 13, 124], [350, 351, 93], [352], [353, 354, 355, 356], [357, 358, 359, 360], [], [], [57, 361, 132, 362], [363, 
 239], [364, 365, 366, 366, 367, 368, 369], [370, 141], [371, 375, 374, 372], [243], [377, 376], [379, 378], [380, 381, 382, 383, 384, 385, 250, 251, 250, 251], [387, 386], [243], 
 [388, 147], [243, 249, 250, 251], [], [], [259, 259, 259, 146, 260, 261], [146, 146], [259, 259, 260], [260, 261], [389], [], [], [74], [74], [], [75], [74, 164, 74], [77, 77, 
 271, 162], [], [], [279], [390, 390], [203, 204], [391, 391, 391, 392], [], [279, 279, 279], [393, 393], [279, 279], [279, 279, 279, 279], [], [394], [285], [395], [396], [], 
 [42], [397, 295, 400, 401], [396, 402], [396, 396, 402, 403, 349], [48, 404], [294], [344, 405, 406], [], [], [407], [170], [], [344, 347, 408], [409], [409], [44], [44], [410, 
 41], [], [333, 215], [17], [18, 95], [43, 411, 412, 413, 412, 413, 334], [43, 411, 45, 336, 46, 303, 42, 337, 45, 336, 303, 46, 304, 46, 414, 45, 414, 305, 305], [415, 416], [415, 
 417], [96, 309], [314], [232], [43, 412, 416], [188, 320, 319, 321, 321], [418], [24], [333, 419, 341], [], [285], [420, 103, 421, 103, 421, 103], [113], [], [282], [283, 422], 
 [], [331], [193], [319, 333], [105], [45, 46, 45, 46, 335], [424, 44, 305, 425, 44, 305], [348], [235], [323, 426, 103], [], [56], [332], [217], [218], [170], [], [347], [338], 
 [285, 102, 103], [345, 427], [36], [428], [429, 429, 429, 429, 429, 429, 430], [431], [431], [431, 262, 432], [431, 262, 432], [], [117, 433, 434], [], [435, 436], [131, 132], 
 [438, 437], [238], [66], [62, 66], [439, 66], [439, 67, 60, 67], [439, 67], [62, 66, 247, 440, 66], [247, 66], [373, 374, 372], [137, 138, 137], [137, 441, 141, 137, 442, 141, 
 139, 62, 137, 246, 140], [443], [374, 372], [444], [], [445], [], [], [243], [446, 162], [447, 381, 382, 383], [449, 448], [450, 382, 383, 384, 385], [451], [], [], [240], [279, 
 279], [392], [452, 452, 452], [], [], [], [170], [399, 398], [230], [300], [399, 453, 398, 398, 454, 456, 455], [399, 42, 233, 456, 458, 457, 399, 456, 455], [459], [460, 462, 
 461], [463, 464, 465, 466, 467, 468, 469, 470, 404, 404], [], [106], [], [235], [471, 103, 324], [], [42, 348, 410, 41, 41, 410, 187], [45, 45, 45, 46, 46, 45, 46, 46, 335], [414, 
 414, 414, 302, 301], [230], [43, 17, 187, 472, 412], [414, 414, 338], [301], [], [317], [475, 476, 477, 198], [475, 476, 478, 198], [423], [395, 117], [], [], [480, 479], [102], 
 [], [], [429, 429, 429, 429, 429, 429], [], [], [], [], [], [481, 482], [242], [483, 484], [66, 485, 66], [60, 60, 66], [373], [247, 66], [], [], [], [], [], [486], [], [], [], 
 [279], [487], [488], [489, 460], [348], [], [], [403, 462, 42, 233, 461, 462, 490, 491], [492, 349, 493, 345], [348, 489, 460], [495], [], [496, 496], [203, 204], [497, 497, 497, 
 498], [], [], [], [], [323, 499, 103], [473, 474, 41], [285, 500], [423, 48, 426, 426], [395], [501], [], [], [395], [502, 503, 503, 480, 480, 505, 505, 480, 504, 506, 506, 505], 
 [], [], [], [507], [508, 510, 511], [], [396, 170, 300, 230], [], [285, 285, 344, 513, 345], [], [514, 515], [344, 516], [494], [471], [517], [], [498], [518, 518, 518], [519, 
 520, 104, 102, 521, 522, 522, 523, 524, 525, 527, 526, 527], [395], [528], [529, 477, 477, 530], [530], [421], [420], [], [531, 532], [509], [], [512, 511], [137, 138, 137], [137, 
 533, 141, 534, 141, 138, 247, 137, 68, 138, 247], [347, 347, 408], [], [535], [536, 499], [], [], [395, 395], [395, 537, 538, 527], [117], [539, 529, 198], [538, 529, 477], [529, 
 477, 478, 478], [477, 477], [539, 102, 198], [322], [], [], [], [], [], [512], [485, 66], [540, 540, 540], [395], [541], [521], [395], [], [], [], [], [], [], [], [], [], [], [], 
 [], [], [], [], [], [], [], [], [], [], [], [], [], [], [], [], [], [], [], [], [], [], [], [432, 432]] 
def cl : List Nat := [3, 4, 9, 25, 57, 58, 59, 130, 131, 132, 133, 238, 352, 429, 430, 239, 353, 431, 354, 355, 262, 389, 240, 357, 358, 117, 433, 434, 359, 360, 435, 436, 481, 
 482, 432, 356, 134, 135, 136, 241, 26, 27, 60, 137, 242, 138, 62, 139, 243, 361, 362, 438, 483, 484, 507, 531, 532, 437, 68, 61, 66, 64, 140, 244, 363, 63, 65, 67, 142, 143, 245, 
 364, 365, 366, 439, 485, 508, 509, 510, 512, 533, 141, 534, 247, 371, 373, 441, 442, 246, 370, 374, 443, 372, 375, 511, 367, 368, 369, 440, 10, 28, 69, 144, 248, 249, 377, 376, 
 444, 250, 379, 378, 445, 251, 380, 381, 382, 446, 162, 272, 383, 447, 384, 449, 448, 486, 385, 450, 252, 387, 386, 451, 253, 255, 254, 388, 147, 257, 145, 146, 256, 148, 149, 150, 
 258, 259, 260, 261, 70, 71, 72, 151, 154, 152, 153, 263, 156, 155, 264, 73, 29, 74, 157, 75, 76, 158, 265, 266, 267, 268, 269, 164, 5, 11, 30, 77, 78, 159, 79, 81, 82, 161, 270, 
 271, 163, 80, 160, 83, 84, 165, 166, 31, 85, 86, 48, 116, 167, 273, 279, 393, 274, 390, 275, 203, 204, 276, 391, 392, 452, 277, 278, 280, 281, 32, 33, 34, 36, 35, 87, 169, 170, 
 283, 394, 284, 285, 395, 168, 282, 171, 88, 89, 91, 173, 42, 104, 198, 322, 103, 174, 286, 396, 287, 288, 289, 397, 399, 300, 344, 347, 338, 323, 426, 480, 502, 529, 477, 530, 
 503, 505, 420, 475, 476, 501, 528, 504, 421, 478, 506, 479, 408, 235, 324, 398, 230, 201, 295, 400, 453, 487, 454, 488, 456, 348, 102, 455, 489, 513, 345, 460, 492, 516, 536, 499, 
 519, 520, 537, 541, 538, 521, 527, 522, 539, 523, 524, 525, 526, 349, 427, 493, 494, 471, 401, 233, 346, 458, 457, 290, 402, 459, 403, 462, 495, 517, 461, 490, 491, 514, 515, 535, 
 540, 291, 292, 404, 463, 464, 496, 465, 466, 497, 498, 518, 467, 468, 469, 470, 293, 294, 405, 406, 106, 200, 175, 176, 177, 90, 172, 179, 296, 56, 129, 92, 178, 180, 181, 182, 
 93, 183, 298, 297, 407, 299, 184, 185, 12, 14, 38, 13, 37, 6, 15, 39, 94, 186, 301, 409, 302, 96, 188, 17, 41, 95, 43, 105, 199, 187, 45, 303, 44, 46, 304, 305, 410, 16, 40, 97, 
 189, 306, 190, 18, 98, 191, 99, 100, 192, 307, 333, 215, 334, 335, 424, 425, 193, 194, 308, 195, 309, 196, 310, 411, 412, 413, 414, 311, 336, 337, 312, 415, 472, 473, 500, 474, 
 423, 416, 313, 417, 314, 197, 315, 217, 231, 341, 332, 319, 418, 342, 316, 232, 343, 218, 318, 320, 24, 55, 321, 419, 317, 101, 19, 47, 107, 113, 207, 108, 202, 109, 110, 205, 
 206, 325, 111, 112, 114, 115, 20, 7, 21, 22, 49, 118, 208, 326, 209, 210, 327, 328, 422, 124, 50, 120, 122, 121, 214, 216, 219, 220, 221, 123, 222, 223, 224, 225, 339, 226, 340, 
 227, 119, 211, 330, 331, 329, 212, 213, 234, 236, 51, 52, 125, 126, 228, 53, 127, 229, 128, 237, 350, 351, 428, 54, 8, 23] 
set_option maxRecDepth 100000
theorem lt_eq : Tryz.prog.funcs.toList.map Tryz.prog.leadsTo = lt := by kernel_rfl
theorem fuel_eq : 1 + (lt.map fun l => l.length + 1).sum = 1782 := by kernel_rfl
theorem cl_fast : fast lt 1782 [3] 0 [] = cl := by kernel_rfl
theorem lead (f : Nat) : (Tryz.prog.funcs[f]?).elim [] Tryz.prog.leadsTo = (lt[f]?).getD [] := by
  rw [← lt_eq, List.getElem?_map, Array.getElem?_toList]
  cases Tryz.prog.funcs[f]? <;> rfl
theorem closure_eq : Tryz.prog.closure 3 = cl := by
  unfold Program.closure
  have e : (Tryz.prog.funcs.toList.map fun g => (Tryz.prog.leadsTo g).length + 1) = lt.map fun l => l.length + 1 := by
    rw [← lt_eq, List.map_map]; rfl
  rw [e, fuel_eq, fast_eq _ lt lead _ _ 0 _ (fun f => by simp), cl_fast]

theorem in_eq : (Rows.xferNamesRow.inPlace == Tryz.prog.inPlace 3) = true := by
  unfold Program.inPlace; rw [closure_eq]; kernel_rfl
theorem un_true : Tryz.prog.unfollowed 3 = true := by
  unfold Program.unfollowed; rw [closure_eq]; kernel_rfl
theorem un_eq : (Rows.xferNamesRow.unfollowed == Tryz.prog.unfollowed 3) = true := by
  rw [un_true]; kernel_rfl
theorem re_eq : (Rows.xferNamesRow.recurses == Tryz.prog.recurses 3) = true := by
  unfold Program.recurses; rw [un_true]; kernel_rfl
theorem na_eq : (Rows.xferNamesRow.named == Tryz.prog.varsNamed 3) = true := by
  unfold Program.varsNamed; rw [closure_eq]; kernel_rfl
theorem go1 : cl.any (fun g => (Tryz.prog.funcs[g]?).any Func.goes) = false := by kernel_rfl
theorem go2 : Tryz.prog.funcs.toList.any Func.goes = false := by kernel_rfl
theorem go3 : Tryz.prog.funcNamed Rows.xferNamesRow.func = some 3 := by kernel_rfl
theorem goes_eq : false = Rows.xferNamesRow.goesBy Tryz.prog := by
  unfold OpenClaim.goesBy Program.goesAt Program.goesFrom
  rw [go3, Option.any_some]
  unfold Program.goes
  rw [closure_eq, go1, ← Array.any_toList, go2, Bool.and_false]
  kernel_rfl

theorem ty : Tryz.prog.types.size = 651 := by kernel_rfl
theorem k0 : (List.range' 0 100).all (rowF Tryz.prog 651) = true := by kernel_rfl
theorem c1 : (List.range' 100 100).all (rowF Tryz.prog 651) = true := by kernel_rfl
theorem k1 : (List.range' 0 200).all (rowF Tryz.prog 651) = true := range_more rfl k0 c1
theorem c2 : (List.range' 200 100).all (rowF Tryz.prog 651) = true := by kernel_rfl
theorem k2 : (List.range' 0 300).all (rowF Tryz.prog 651) = true := range_more rfl k1 c2
theorem c3 : (List.range' 300 100).all (rowF Tryz.prog 651) = true := by kernel_rfl
theorem k3 : (List.range' 0 400).all (rowF Tryz.prog 651) = true := range_more rfl k2 c3
theorem c4 : (List.range' 400 100).all (rowF Tryz.prog 651) = true := by kernel_rfl
theorem k4 : (List.range' 0 500).all (rowF Tryz.prog 651) = true := range_more rfl k3 c4
theorem c5 : (List.range' 500 100).all (rowF Tryz.prog 651) = true := by kernel_rfl
theorem k5 : (List.range' 0 600).all (rowF Tryz.prog 651) = true := range_more rfl k4 c5
theorem c6 : (List.range' 600 51).all (rowF Tryz.prog 651) = true := by kernel_rfl
theorem k6 : (List.range' 0 651).all (rowF Tryz.prog 651) = true := range_more rfl k5 c6
theorem laid_eq : laidOutB Tryz.prog = true :=
  laid_of ty k6 (by kernel_rfl) (by kernel_rfl)

theorem maps_eq : mapsRowed Tryz.prog = true := by kernel_rfl
theorem keys_eq : (Rows.xferNamesRow.plainKeys == Tryz.prog.plainKeys) = true := by kernel_rfl
theorem heard_eq : Tryz.prog.stopsHeard = true := by kernel_rfl
theorem enter_eq : Tryz.prog.mayEnter = true := by kernel_rfl
theorem fits_eq : Rows.xferNamesRow.veiledFits Tryz.prog Tryz.f3.params.toList (Tryz.f3.params.toList ++ Rows.xferNamesSpec.plain.varTypes Tryz.prog ++ Tryz.f3.resultTypes.toList) = true := by kernel_rfl

theorem facts : joinedFacts Tryz.prog 3 Tryz.f3 Rows.xferNamesSpec Rows.xferNamesRow = true := by
  unfold joinedFacts
  rw [laid_eq, in_eq, un_eq, re_eq, na_eq, maps_eq, keys_eq, heard_eq, enter_eq, fits_eq]
  kernel_rfl
end Go.Proofs.YtedembbgeljdkaaGreatDoor.Jf
