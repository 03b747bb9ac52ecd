/-
  Calls of the law's run, each with what it reads and what it leaves.
-/
import Derived.Test.YtedembbgeljdkaaGreatDoorEvMemo
namespace Go.Proofs.YtedembbgeljdkaaGreatDoor.Ev
open Go
set_option maxRecDepth 1000000
set_option linter.all false
def me0 : ME := ⟨0, 3735, 243, [(.str ⟨#[120]⟩)],
 [],
 [],
 [],
 (.bool true), false⟩
def tr0 : MTree := .leaf
def tp0 : MTree := .leaf
def me1 : ME := ⟨6, 3784, 455, [(.agg [(.bool false), (.own 0 0 1 1 1 true)]), (.own 1 0 2 2 2 true), (.agg [(.bool false), (.own 2 0 0 0 1 true)]), (.own 3 0 2 2 2 true)],
 [(0, (.cells [(.int .u64 1), (.int .u64 0)] 213 true)), (1, (.cells [(.bool false), .nilSl, (.bool false), (.own 4 0 1 1 1 true)] 76 true)), (2, (.cells [] 213 true)), (3, (.cells [(.bool false), (.own 5 0 1 1 1 true), (.bool false), .nilSl] 76 true)), (4, (.cells [(.int .u64 1)] 213 true)), (5, (.cells [(.int .u64 1)] 213 true))],
 [],
 [(2932, (.cells [(.bool false), (.own 3197 0 0 0 1 true), (.bool false), (.own 3596 0 1 1 1 true)] 76 true)), (3197, (.cells [] 213 true)), (3596, (.cells [(.int .u64 1)] 213 true))],
 (.own 2932 0 2 2 2 true), false⟩
def tr1 : MTree := .leaf
def tp1 : MTree := .leaf
def me2 : ME := ⟨6, 3461, 291, [(.own 0 0 2 2 2 true), (.own 1 0 1 1 1 false)],
 [(0, (.cells [(.bool false), (.own 2 0 1 1 1 true), (.bool false), .nilSl] 76 true)), (1, (.cells [(.own 3 0 2 2 2 true)] 58 true)), (2, (.cells [(.int .u64 1)] 213 true)), (3, (.cells [(.bool false), (.own 4 0 0 0 1 true), (.bool false), (.own 5 0 1 1 1 true)] 76 true)), (4, (.cells [] 213 true)), (5, (.cells [(.int .u64 1)] 213 true))],
 [],
 [(3387, (.cells [(.bool false), (.own 3421 0 1 1 1 false), (.bool false), (.own 3452 0 0 0 1 true)] 76 true)), (3421, (.cells [(.int .u64 1)] 213 true)), (3452, (.cells [] 213 true))],
 (.tup [(.own 3387 0 2 2 2 true), (.int .i64 0)]), false⟩
def tr2 : MTree := .leaf
def tp2 : MTree := .leaf
def me3 : ME := ⟨6, 3784, 455, [(.agg [(.bool false), (.own 0 0 1 1 1 true)]), (.own 1 0 2 2 2 true), (.agg [(.bool false), (.own 2 0 0 0 1 true)]), (.own 3 0 2 2 2 true)],
 [(0, (.cells [(.int .u64 1), (.int .u64 0)] 213 true)), (1, (.cells [(.bool false), (.own 4 0 1 1 1 true), (.bool false), .nilSl] 76 true)), (2, (.cells [] 213 true)), (3, (.cells [(.bool false), .nilSl, (.bool false), (.own 5 0 1 1 1 true)] 76 true)), (4, (.cells [(.int .u64 1)] 213 true)), (5, (.cells [(.int .u64 1)] 213 true))],
 [],
 [(2932, (.cells [(.bool false), (.own 3197 0 1 1 1 true), (.bool false), (.own 3640 0 0 0 1 true)] 76 true)), (3197, (.cells [(.int .u64 1)] 213 true)), (3640, (.cells [] 213 true))],
 (.own 2932 0 2 2 2 true), false⟩
def tr3 : MTree := .leaf
def tp3 : MTree := .leaf
def me4 : ME := ⟨9, 10557, 289, [(.ptr 0 0), (.own 1 0 2 2 2 true), (.bool true)],
 [(1, (.cells [(.bool false), (.own 3 0 0 0 1 true), (.bool false), (.own 4 0 1 1 1 true)] 76 true)), (2, (.cells [(.own 5 0 2 2 2 true), (.own 6 0 2 2 2 true)] 58 true)), (3, (.cells [] 213 true)), (4, (.cells [(.int .u64 1)] 213 true)), (5, (.cells [(.bool false), (.own 7 0 1 1 1 true), (.bool false), .nilSl] 76 true)), (6, (.cells [(.bool false), .nilSl, (.bool false), (.own 8 0 1 1 1 true)] 76 true)), (7, (.cells [(.int .u64 1)] 213 true)), (8, (.cells [(.int .u64 1)] 213 true))],
 [(0, (.cells [(.own 2 0 2 2 1 false), .nilSl, .nilSl] 416 true))],
 [(0, (.cells [(.own 5082 0 1 2 1 false), .nilSl, .nilSl] 416 true)), (5082, (.cells [(.own 9681 0 2 2 2 true), .nilSl] 58 true)), (9681, (.cells [(.bool false), (.own 9946 0 1 1 1 true), (.bool false), (.own 10389 0 0 0 1 true)] 76 true)), (9946, (.cells [(.int .u64 1)] 213 true)), (10389, (.cells [] 213 true))],
 (.tup []), false⟩
def tr4 : MTree := (.node .leaf 6755 3 [4994, 5, 6739, 6, 7, 8] .leaf)
def tp4 : MTree := .leaf
def me5 : ME := ⟨3, 1736, 291, [(.own 0 0 2 2 2 true), .nilSl],
 [(0, (.cells [(.bool false), (.own 1 0 1 1 1 true), (.bool false), (.own 2 0 0 0 1 true)] 76 true)), (1, (.cells [(.int .u64 1)] 213 true)), (2, (.cells [] 213 true))],
 [],
 [(1662, (.cells [(.bool false), (.own 1696 0 1 1 1 false), (.bool false), (.own 1727 0 0 0 1 true)] 76 true)), (1696, (.cells [(.int .u64 1)] 213 true)), (1727, (.cells [] 213 true))],
 (.tup [(.own 1662 0 2 2 2 true), (.int .i64 0)]), false⟩
def tr5 : MTree := .leaf
def tp5 : MTree := .leaf
def me6 : ME := ⟨0, 31996, 35, [(.int .i64 1), .nilSl],
 [],
 [],
 [(15088, (.cells [(.int .u8 1), (.own 10398 0 2 2 2 true), (.int .u8 3), (.own 14738 0 2 2 2 true)] 302 true)), (10398, (.cells [(.bool false), (.own 10663 0 0 0 1 true), (.bool false), (.own 11062 0 1 1 1 true)] 76 true)), (10663, (.cells [] 213 true)), (11062, (.cells [(.int .u64 1)] 213 true)), (14738, (.cells [(.bool false), (.own 14772 0 1 1 1 false), (.bool false), (.own 14803 0 0 0 1 true)] 76 true)), (14772, (.cells [(.int .u64 1)] 213 true)), (14803, (.cells [] 213 true))],
 (.tup [(.agg [(.int .i64 1), .nilSl, (.own 15088 0 2 2 2 false)]), (.int .i64 0)]), false⟩
def tr6 : MTree := (.node (.node (.node .leaf 5792 1 [4031, 495, 5776, 430, 512, 447] .leaf) 11357 2 [430, 11334, 447, 10398, 10663, 11062] .leaf) 15722 4 [15573, 10398, 15704, 10663, 11062, 15582, 15647, 15599, 15664] (.node .leaf 29990 5 [25394, 25659, 26102] .leaf))
def tp6 : MTree := .leaf
def me7 : ME := ⟨7, 3645, 289, [(.ptr 0 0), (.own 1 0 2 2 2 true), (.bool false)],
 [(1, (.cells [(.bool false), (.own 3 0 1 1 1 true), (.bool false), .nilSl] 76 true)), (2, (.cells [(.own 4 0 2 2 2 true), .nilSl] 58 true)), (3, (.cells [(.int .u64 1)] 213 true)), (4, (.cells [(.bool false), (.own 5 0 1 1 1 true), (.bool false), (.own 6 0 0 0 1 true)] 76 true)), (5, (.cells [(.int .u64 1)] 213 true)), (6, (.cells [] 213 true))],
 [(0, (.cells [(.own 2 0 1 2 1 false), .nilSl, .nilSl] 416 true))],
 [(0, (.cells [(.own 3552 0 0 1 1 false), (.own 3628 0 1 1 1 false), (.own 3641 0 1 1 1 false)] 416 true)), (3552, (.cells [.nilSl] 58 true)), (3628, (.cells [(.own 4 0 2 2 2 true)] 58 true)), (3641, (.cells [(.own 1 0 2 2 2 true)] 58 true))],
 (.tup []), false⟩
def tr7 : MTree := .leaf
def tp7 : MTree := .leaf
def me8 : ME := ⟨4, 15006, 90, [(.int .i64 1), (.own 0 0 1 1 2 false)],
 [(0, (.cells [(.int .u8 3), (.own 1 0 2 2 2 true)] 302 true)), (1, (.cells [(.bool false), (.own 2 0 1 1 1 false), (.bool false), (.own 3 0 0 0 1 true)] 76 true)), (2, (.cells [(.int .u64 1)] 213 true)), (3, (.cells [] 213 true))],
 [],
 [(14794, (.cells [(.own 10307 0 2 2 2 true), (.bool true)] 61 true)), (10307, (.cells [(.bool false), (.own 10572 0 0 0 1 true), (.bool false), (.own 10971 0 1 1 1 true)] 76 true)), (10572, (.cells [] 213 true)), (10971, (.cells [(.int .u64 1)] 213 true))],
 (.tup [(.agg [(.int .i64 1), (.own 14794 0 1 1 2 false), (.own 0 0 1 1 2 false)]), (.int .i64 0)]), false⟩
def tr8 : MTree := (.node (.node .leaf 5701 1 [3940, 404, 5685, 339, 421, 356] .leaf) 11266 2 [339, 11243, 356, 10307, 10572, 10971] .leaf)
def tp8 : MTree := .leaf
def me9 : ME := ⟨10, 64597, 13, [(.agg [(.int .i64 1), .nilSl, (.own 0 0 2 2 2 false)]), (.agg [(.own 1 0 2 2 2 true), (.bool true)])],
 [(0, (.cells [(.int .u8 1), (.own 2 0 2 2 2 true), (.int .u8 3), (.own 3 0 2 2 2 true)] 302 true)), (1, (.cells [(.bool false), (.own 4 0 0 0 1 true), (.bool false), (.own 5 0 1 1 1 true)] 76 true)), (2, (.cells [(.bool false), (.own 6 0 0 0 1 true), (.bool false), (.own 7 0 1 1 1 true)] 76 true)), (3, (.cells [(.bool false), (.own 8 0 1 1 1 false), (.bool false), (.own 9 0 0 0 1 true)] 76 true)), (4, (.cells [(.int .u64 0)] 213 true)), (5, (.cells [(.int .u64 1)] 213 true)), (6, (.cells [] 213 true)), (7, (.cells [(.int .u64 1)] 213 true)), (8, (.cells [(.int .u64 1)] 213 true)), (9, (.cells [] 213 true))],
 [],
 [(64385, (.cells [(.own 59898 0 2 2 2 true), (.bool true)] 61 true)), (59898, (.cells [(.bool false), (.own 60163 0 0 0 1 true), (.bool false), (.own 60562 0 1 1 1 true)] 76 true)), (60163, (.cells [] 213 true)), (60562, (.cells [(.int .u64 1)] 213 true)), (49590, (.cells [(.int .u8 3), (.own 49252 0 2 2 2 true)] 302 true)), (49252, (.cells [(.bool false), (.own 49286 0 1 1 1 false), (.bool false), (.own 49317 0 0 0 1 true)] 76 true)), (49286, (.cells [(.int .u64 1)] 213 true)), (49317, (.cells [] 213 true))],
 (.tup [(.agg [(.int .i64 1), (.own 64385 0 1 1 2 false), (.own 49590 0 1 1 2 false)]), (.int .i64 0)]), false⟩
def tr9 : MTree := (.node (.node (.node .leaf 34 6 [] .leaf) 40071 3 [38310, 33185, 40055, 33250, 33202, 33267] .leaf) 43886 7 [33176, 32677, 38398, 32694, 42997, 43262, 43705] (.node (.node .leaf 47593 5 [42997, 43262, 43705] .leaf) 49595 8 [49590, 49252, 49286, 49317] .leaf))
def tp9 : MTree := .leaf
def me10 : ME := ⟨8, 32573, 36, [(.agg [(.int .i64 1), (.own 0 0 1 1 2 false), (.own 1 0 1 1 2 false)])],
 [(0, (.cells [(.own 2 0 2 2 2 true), (.bool true)] 61 true)), (1, (.cells [(.int .u8 3), (.own 3 0 2 2 2 true)] 302 true)), (2, (.cells [(.bool false), (.own 4 0 0 0 1 true), (.bool false), (.own 5 0 1 1 1 true)] 76 true)), (3, (.cells [(.bool false), (.own 6 0 1 1 1 false), (.bool false), (.own 7 0 0 0 1 true)] 76 true)), (4, (.cells [] 213 true)), (5, (.cells [(.int .u64 1)] 213 true)), (6, (.cells [(.int .u64 1)] 213 true)), (7, (.cells [] 213 true))],
 [],
 [],
 (.int .i64 0), false⟩
def tr10 : MTree := (.node (.node (.node .leaf 924 4 [775, 2, 906, 4, 5, 784, 849, 801, 866] .leaf) 11485 7 [775, 276, 5997, 293, 10596, 10861, 11304] .leaf) 15192 5 [10596, 10861, 11304] (.node .leaf 17194 8 [17189, 16851, 16885, 16916] .leaf))
def tp10 : MTree := .leaf
def me11 : ME := ⟨11, 35903, 94, [(.agg [(.int .i64 1), (.own 0 0 1 1 2 false), (.own 1 0 1 1 2 false)]), (.own 2 0 2 2 2 true)],
 [(0, (.cells [(.own 3 0 2 2 2 true), (.bool true)] 61 true)), (1, (.cells [(.int .u8 3), (.own 4 0 2 2 2 true)] 302 true)), (2, (.cells [(.bool false), (.own 5 0 0 0 1 true), (.bool false), (.own 6 0 1 1 1 true)] 76 true)), (3, (.cells [(.bool false), (.own 7 0 0 0 1 true), (.bool false), (.own 8 0 1 1 1 true)] 76 true)), (4, (.cells [(.bool false), (.own 9 0 1 1 1 false), (.bool false), (.own 10 0 0 0 1 true)] 76 true)), (5, (.cells [(.int .u64 0)] 213 true)), (6, (.cells [(.int .u64 1)] 213 true)), (7, (.cells [] 213 true)), (8, (.cells [(.int .u64 1)] 213 true)), (9, (.cells [(.int .u64 1)] 213 true)), (10, (.cells [] 213 true))],
 [],
 [(34591, (.cells [] 213 true)), (34989, (.cells [] 213 true))],
 (.tup [(.agg [(.bool false), (.bool false), (.own 34591 0 0 0 1 true), (.bool false), (.bool false), (.own 34989 0 0 0 1 true)]), (.int .i64 0)]), false⟩
def tr11 : MTree := (.node .leaf 17 10 [0, 1, 3, 4, 7, 8, 9, 10] .leaf)
def tp11 : MTree := .leaf
def me12 : ME := ⟨14, 72148, 15, [(.agg [(.int .i64 1), .nilSl, (.int .i64 2), (.int .i64 0), (.int .i64 1), (.own 0 0 1 1 7 false)]), (.own 1 0 1 1 1 true), (.int .i64 0), (.agg [(.bool false), (.own 2 0 1 1 3 false)])],
 [(0, (.cells [(.int .i64 0), (.int .i64 1), (.int .u8 3), (.int .i64 0), (.int .u8 0), (.own 3 0 1 1 5 false), (.int .i64 11)] 133 true)), (1, (.cells [(.own 4 0 1 1 1 true)] 22 true)), (2, (.cells [(.int .i64 1), (.own 5 0 1 1 2 false), (.own 6 0 1 1 2 false)] 53 true)), (3, (.cells [(.int .u8 8), (.str ⟨#[]⟩), (.int .i64 0), (.own 7 0 2 2 5 false), (.int .i64 14)] 72 true)), (4, (.cells [(.int .i64 0)] 3 true)), (5, (.cells [(.own 8 0 2 2 2 true), (.bool true)] 61 true)), (6, (.cells [(.int .u8 3), (.own 9 0 2 2 2 true)] 302 true)), (7, (.cells [(.int .u8 1), (.str ⟨#[]⟩), (.int .i64 1), .nilSl, (.int .i64 13), (.int .u8 2), (.str ⟨#[120]⟩), (.int .i64 0), .nilSl, (.int .i64 15)] 72 true)), (8, (.cells [(.bool false), (.own 10 0 0 0 1 true), (.bool false), (.own 11 0 1 1 1 true)] 76 true)), (9, (.cells [(.bool false), (.own 12 0 1 1 1 false), (.bool false), (.own 13 0 0 0 1 true)] 76 true)), (10, (.cells [] 213 true)), (11, (.cells [(.int .u64 1)] 213 true)), (12, (.cells [(.int .u64 1)] 213 true)), (13, (.cells [] 213 true))],
 [],
 [(72143, (.cells [(.int .i64 1), .nilSl, (.int .i64 2), (.int .i64 0), (.int .i64 1), (.own 0 0 1 1 7 false), (.own 1 0 1 1 1 true), (.int .u8 3), (.int .i64 0), (.int .u8 0), (.own 3 0 1 1 5 false), (.own 2 0 1 1 3 false), (.own 33415 0 1 1 6 true)] 70 true)), (33415, (.cells [(.bool false), (.bool false), (.own 72085 0 0 0 1 true), (.bool false), (.bool false), (.own 72111 0 0 0 1 true)] 80 true)), (72085, (.cells [] 213 true)), (72111, (.cells [] 213 true))],
 (.tup [(.ptr 72143 0), (.bool true), (.int .i64 0)]), false⟩
def tr12 : MTree := (.node (.node .leaf 792 10 [5, 6, 8, 9, 10, 11, 12, 13] .leaf) 33616 11 [5, 6, 33468, 8, 9, 33495, 33574, 10, 11, 12, 13] .leaf)
def tp12 : MTree := .leaf
def me13 : ME := ⟨2, 505, 105, [(.agg [(.bool false), (.bool false), (.own 0 0 1 1 1 false), (.bool false), (.bool false), (.own 1 0 1 1 1 false)])],
 [(0, (.cells [(.int .u64 1)] 213 true)), (1, (.cells [(.int .u64 1)] 213 true))],
 [],
 [],
 (.int .i64 0), false⟩
def tr13 : MTree := .leaf
def tp13 : MTree := .leaf
def me14 : ME := ⟨2, 3715, 215, [(.agg [(.bool false), (.bool false), (.own 0 0 1 1 1 false), (.bool false), (.bool false), (.own 1 0 1 1 1 false)]), (.agg [(.bool false), (.bool false), (.own 0 0 1 1 1 false), (.bool false), (.bool false), (.own 1 0 1 1 1 false)])],
 [(0, (.cells [(.int .u64 1)] 213 true)), (1, (.cells [(.int .u64 1)] 213 true))],
 [],
 [(2414, (.cells [(.int .u64 1)] 213 true)), (3713, (.cells [(.int .u64 1)] 213 true))],
 (.tup [(.agg [(.bool false), (.bool false), (.own 2414 0 1 1 1 false), (.bool false), (.bool false), (.own 3713 0 1 1 1 false)]), (.int .i64 0)]), false⟩
def tr14 : MTree := (.node (.node .leaf 23 13 [0, 1] .leaf) 538 13 [0, 1] .leaf)
def tp14 : MTree := .leaf
def me15 : ME := ⟨6, 4419, 455, [(.agg [(.bool false), (.own 0 0 1 1 1 true)]), (.own 1 0 2 2 2 true), (.agg [(.bool true), (.own 2 0 1 1 1 false)]), (.own 3 0 2 2 2 true)],
 [(0, (.cells [(.int .u64 1), (.int .u64 0)] 213 true)), (1, (.cells [(.bool false), .nilSl, (.bool false), (.own 4 0 1 1 1 true)] 76 true)), (2, (.cells [(.int .u64 1)] 213 true)), (3, (.cells [(.bool false), (.own 5 0 1 1 1 true), (.bool false), .nilSl] 76 true)), (4, (.cells [(.int .u64 1)] 213 true)), (5, (.cells [(.int .u64 1)] 213 true))],
 [],
 [(3523, (.cells [(.bool true), (.own 3788 0 1 1 1 true), (.bool false), (.own 4231 0 1 1 1 true)] 76 true)), (3788, (.cells [(.int .u64 1)] 213 true)), (4231, (.cells [(.int .u64 1)] 213 true))],
 (.own 3523 0 2 2 2 true), false⟩
def tr15 : MTree := .leaf
def tp15 : MTree := .leaf
def me16 : ME := ⟨6, 3762, 291, [(.own 0 0 2 2 2 true), (.own 1 0 1 1 1 false)],
 [(0, (.cells [(.bool false), (.own 2 0 1 1 1 true), (.bool false), .nilSl] 76 true)), (1, (.cells [(.own 3 0 2 2 2 true)] 58 true)), (2, (.cells [(.int .u64 1)] 213 true)), (3, (.cells [(.bool true), (.own 4 0 1 1 1 true), (.bool false), (.own 5 0 1 1 1 true)] 76 true)), (4, (.cells [(.int .u64 1)] 213 true)), (5, (.cells [(.int .u64 1)] 213 true))],
 [],
 [(3688, (.cells [(.bool false), (.own 3722 0 1 1 1 false), (.bool false), (.own 3753 0 0 0 1 true)] 76 true)), (3722, (.cells [(.int .u64 1)] 213 true)), (3753, (.cells [] 213 true))],
 (.tup [(.own 3688 0 2 2 2 true), (.int .i64 0)]), false⟩
def tr16 : MTree := .leaf
def tp16 : MTree := .leaf
def me17 : ME := ⟨9, 11064, 289, [(.ptr 0 0), (.own 1 0 2 2 2 true), (.bool true)],
 [(1, (.cells [(.bool true), (.own 3 0 1 1 1 true), (.bool false), (.own 4 0 1 1 1 true)] 76 true)), (2, (.cells [(.own 5 0 2 2 2 true), (.own 6 0 2 2 2 true)] 58 true)), (3, (.cells [(.int .u64 1)] 213 true)), (4, (.cells [(.int .u64 1)] 213 true)), (5, (.cells [(.bool false), (.own 7 0 1 1 1 true), (.bool false), .nilSl] 76 true)), (6, (.cells [(.bool false), .nilSl, (.bool false), (.own 8 0 1 1 1 true)] 76 true)), (7, (.cells [(.int .u64 1)] 213 true)), (8, (.cells [(.int .u64 1)] 213 true))],
 [(0, (.cells [(.own 2 0 2 2 1 false), .nilSl, .nilSl] 416 true))],
 [(0, (.cells [(.own 4922 0 1 2 1 false), .nilSl, .nilSl] 416 true)), (4922, (.cells [(.own 10144 0 2 2 2 true), .nilSl] 58 true)), (10144, (.cells [(.bool false), (.own 10409 0 1 1 1 true), (.bool false), (.own 10852 0 1 1 1 true)] 76 true)), (10409, (.cells [(.int .u64 1)] 213 true)), (10852, (.cells [(.int .u64 1)] 213 true))],
 (.tup []), false⟩
def tr17 : MTree := .leaf
def tp17 : MTree := .leaf
def me18 : ME := ⟨7, 3671, 289, [(.ptr 0 0), (.own 1 0 2 2 2 true), (.bool false)],
 [(1, (.cells [(.bool false), (.own 3 0 1 1 1 true), (.bool false), .nilSl] 76 true)), (2, (.cells [(.own 4 0 2 2 2 true), .nilSl] 58 true)), (3, (.cells [(.int .u64 1)] 213 true)), (4, (.cells [(.bool false), (.own 5 0 1 1 1 true), (.bool false), (.own 6 0 1 1 1 true)] 76 true)), (5, (.cells [(.int .u64 1)] 213 true)), (6, (.cells [(.int .u64 1)] 213 true))],
 [(0, (.cells [(.own 2 0 1 2 1 false), .nilSl, .nilSl] 416 true))],
 [(0, (.cells [(.own 3578 0 0 1 1 false), (.own 3654 0 1 1 1 false), (.own 3667 0 1 1 1 false)] 416 true)), (3578, (.cells [.nilSl] 58 true)), (3654, (.cells [(.own 4 0 2 2 2 true)] 58 true)), (3667, (.cells [(.own 1 0 2 2 2 true)] 58 true))],
 (.tup []), false⟩
def tr18 : MTree := .leaf
def tp18 : MTree := .leaf
def me19 : ME := ⟨3, 2037, 291, [(.own 0 0 2 2 2 true), .nilSl],
 [(0, (.cells [(.bool false), (.own 1 0 1 1 1 true), (.bool false), (.own 2 0 1 1 1 true)] 76 true)), (1, (.cells [(.int .u64 1)] 213 true)), (2, (.cells [(.int .u64 1)] 213 true))],
 [],
 [(1963, (.cells [(.bool false), (.own 1997 0 1 1 1 false), (.bool false), (.own 2030 0 1 1 1 false)] 76 true)), (1997, (.cells [(.int .u64 1)] 213 true)), (2030, (.cells [(.int .u64 1)] 213 true))],
 (.tup [(.own 1963 0 2 2 2 true), (.int .i64 0)]), false⟩
def tr19 : MTree := .leaf
def tp19 : MTree := .leaf
def me20 : ME := ⟨4, 16477, 90, [(.int .i64 1), (.own 0 0 1 1 2 false)],
 [(0, (.cells [(.int .u8 3), (.own 1 0 2 2 2 true)] 302 true)), (1, (.cells [(.bool false), (.own 2 0 1 1 1 false), (.bool false), (.own 3 0 1 1 1 false)] 76 true)), (2, (.cells [(.int .u64 1)] 213 true)), (3, (.cells [(.int .u64 1)] 213 true))],
 [],
 [(16265, (.cells [(.own 11433 0 2 2 2 true), (.bool true)] 61 true)), (11433, (.cells [(.bool true), (.own 11698 0 1 1 1 true), (.bool false), (.own 12141 0 1 1 1 true)] 76 true)), (11698, (.cells [(.int .u64 1)] 213 true)), (12141, (.cells [(.int .u64 1)] 213 true))],
 (.tup [(.agg [(.int .i64 1), (.own 16265 0 1 1 2 false), (.own 0 0 1 1 2 false)]), (.int .i64 0)]), false⟩
def tr20 : MTree := (.node (.node .leaf 5935 15 [4008, 404, 5921, 339, 421, 356] .leaf) 12436 16 [339, 12413, 356, 11433, 11698, 12141] .leaf)
def tp20 : MTree := .leaf
def me21 : ME := ⟨19, 125091, 120, [(.agg [(.int .i64 1), (.own 0 0 1 1 2 false), (.own 1 0 1 1 2 false)]), (.own 2 0 1 1 1 true), (.int .i64 0), (.ptr 3 0)],
 [(0, (.cells [(.own 4 0 2 2 2 true), (.bool true)] 61 true)), (1, (.cells [(.int .u8 3), (.own 5 0 2 2 2 true)] 302 true)), (2, (.cells [(.int .i64 0)] 3 true)), (3, (.cells [(.ptr 6 0)] 62 true)), (4, (.cells [(.bool false), (.own 7 0 0 0 1 true), (.bool false), (.own 8 0 1 1 1 true)] 76 true)), (5, (.cells [(.bool false), (.own 9 0 1 1 1 false), (.bool false), (.own 10 0 0 0 1 true)] 76 true)), (6, (.cells [(.int .i64 1), .nilSl, (.int .i64 2), (.int .i64 0), (.int .i64 1), (.own 11 0 1 1 7 false), (.own 12 0 1 1 1 true), (.int .u8 3), (.int .i64 0), (.int .u8 0), (.own 13 0 1 1 5 false), (.own 14 0 1 1 3 false), (.own 15 0 1 1 6 true)] 70 true)), (7, (.cells [] 213 true)), (8, (.cells [(.int .u64 1)] 213 true)), (9, (.cells [(.int .u64 1)] 213 true)), (10, (.cells [] 213 true)), (11, (.cells [(.int .i64 0), (.int .i64 1), (.int .u8 3), (.int .i64 0), (.int .u8 0), (.own 13 0 1 1 5 false), (.int .i64 11)] 133 true)), (12, (.cells [(.own 2 0 1 1 1 true)] 22 true)), (13, (.cells [(.int .u8 5), (.str ⟨#[]⟩), (.int .i64 0), (.own 16 0 2 2 5 false), (.int .i64 14)] 72 true)), (14, (.cells [(.int .i64 1), (.own 0 0 1 1 2 false), (.own 1 0 1 1 2 false)] 53 true)), (15, (.cells [(.bool false), (.bool false), (.own 17 0 0 0 1 true), (.bool false), (.bool false), (.own 18 0 0 0 1 true)] 80 true)), (16, (.cells [(.int .u8 2), (.str ⟨#[120]⟩), (.int .i64 0), .nilSl, (.int .i64 13), (.int .u8 1), (.str ⟨#[]⟩), (.int .i64 1), .nilSl, (.int .i64 15)] 72 true)), (17, (.cells [] 213 true)), (18, (.cells [] 213 true))],
 [],
 [(124863, (.cells [(.own 120031 0 2 2 2 true), (.bool true)] 61 true)), (120031, (.cells [(.bool true), (.own 120296 0 1 1 1 true), (.bool false), (.own 120739 0 1 1 1 true)] 76 true)), (120296, (.cells [(.int .u64 1)] 213 true)), (120739, (.cells [(.int .u64 1)] 213 true)), (108597, (.cells [(.int .u8 3), (.own 108259 0 2 2 2 true)] 302 true)), (108259, (.cells [(.bool false), (.own 108293 0 1 1 1 false), (.bool false), (.own 108326 0 1 1 1 false)] 76 true)), (108293, (.cells [(.int .u64 1)] 213 true)), (108326, (.cells [(.int .u64 1)] 213 true)), (22386, (.cells [(.int .u64 1)] 213 true)), (22412, (.cells [(.int .u64 1)] 213 true))],
 (.tup [(.agg [(.int .i64 1), (.own 124863 0 1 1 2 false), (.own 108597 0 1 1 2 false)]), (.agg [(.bool false), (.bool false), (.own 22386 0 1 1 1 false), (.bool false), (.bool false), (.own 22412 0 1 1 1 false)]), (.bool true)]), false⟩
def tr21 : MTree := (.node (.node (.node (.node (.node .leaf 4809 13 [4715, 4779] .leaf) 5332 14 [4715, 4779] (.node .leaf 9607 13 [4715, 4779] .leaf)) 11472 13 [4503, 4567] (.node (.node .leaf 12018 13 [7744, 9043] .leaf) 13524 13 [4503, 4567] .leaf)) 14559 13 [7744, 9043] (.node (.node (.node .leaf 15939 13 [4503, 4567] .leaf) 17948 13 [10531, 10931] .leaf) 20028 13 [10531, 10931] (.node (.node .leaf 20543 13 [10531, 10931] .leaf) 22585 13 [15483, 15883] .leaf))) 23105 13 [17329, 17729] (.node (.node (.node (.node .leaf 24121 14 [15483, 15883] .leaf) 28817 13 [28766, 28783] (.node .leaf 30477 13 [17329, 17729] .leaf)) 36447 13 [26533, 27832] (.node (.node .leaf 38276 10 [0, 1, 4, 5, 7, 8, 9, 10] .leaf) 70980 13 [37837, 38237] .leaf)) 80296 15 [78369, 74765, 80282, 74700, 74782, 74717] (.node (.node (.node .leaf 86797 16 [74700, 86774, 74717, 85794, 86059, 86502] .leaf) 91498 17 [91349, 85794, 91480, 86059, 86502, 91358, 91423, 91375, 91440] .leaf) 102566 18 [91349, 90850, 96411, 90867, 101633, 101898, 102341] (.node (.node .leaf 106299 19 [101633, 101898, 102341] .leaf) 108602 20 [108597, 108259, 108293, 108326] .leaf))))
def tp21 : MTree := .leaf
def me22 : ME := ⟨8, 34906, 36, [(.agg [(.int .i64 1), (.own 0 0 1 1 2 false), (.own 1 0 1 1 2 false)])],
 [(0, (.cells [(.own 2 0 2 2 2 true), (.bool true)] 61 true)), (1, (.cells [(.int .u8 3), (.own 3 0 2 2 2 true)] 302 true)), (2, (.cells [(.bool true), (.own 4 0 1 1 1 true), (.bool false), (.own 5 0 1 1 1 true)] 76 true)), (3, (.cells [(.bool false), (.own 6 0 1 1 1 false), (.bool false), (.own 7 0 1 1 1 false)] 76 true)), (4, (.cells [(.int .u64 1)] 213 true)), (5, (.cells [(.int .u64 1)] 213 true)), (6, (.cells [(.int .u64 1)] 213 true)), (7, (.cells [(.int .u64 1)] 213 true))],
 [],
 [],
 (.int .i64 0), false⟩
def tr22 : MTree := (.node (.node (.node .leaf 924 17 [775, 2, 906, 4, 5, 784, 849, 801, 866] .leaf) 11992 18 [775, 276, 5837, 293, 11059, 11324, 11767] .leaf) 15725 19 [11059, 11324, 11767] (.node .leaf 18028 20 [18023, 17685, 17719, 17752] .leaf))
def tp22 : MTree := .leaf
def me23 : ME := ⟨0, 660833, 8, [],
 [],
 [],
 [],
 (.bool true), false⟩
def tr23 : MTree := (.node (.node (.node (.node (.node .leaf 5380 0 [] .leaf) 9790 0 [] (.node .leaf 13860 0 [] .leaf)) 17625 0 [] (.node (.node .leaf 22221 0 [] .leaf) 26093 0 [] (.node .leaf 30078 0 [] .leaf))) 35700 6 [] (.node (.node (.node .leaf 67878 9 [50788, 67730, 46098, 50438, 67757, 67836, 46363, 46762, 50472, 50503] .leaf) 133286 10 [132253, 117458, 127766, 117120, 128031, 128430, 117154, 117185] (.node .leaf 166110 11 [132253, 117458, 165962, 127766, 117120, 165989, 166068, 128031, 128430, 117154, 117185] .leaf)) 204798 21 [132253, 117458, 132482, 204671, 127766, 117120, 204637, 128031, 128430, 117154, 117185, 34919, 132483, 34902, 132472, 165909, 34894, 204579, 204605] (.node (.node .leaf 330256 22 [329642, 313376, 324810, 313038, 325075, 325518, 313072, 313105] .leaf) 366413 17 [366264, 324810, 366395, 325075, 325518, 366273, 366338, 366290, 366355] (.node .leaf 377481 18 [366264, 365604, 371326, 365621, 376548, 376813, 377256] .leaf)))) 385607 19 [376548, 376813, 377256] (.node (.node (.node (.node .leaf 387910 20 [387905, 387567, 387601, 387634] .leaf) 404679 22 [404171, 387905, 399339, 387567, 399604, 400047, 387601, 387634] (.node .leaf 440836 17 [440687, 399339, 440818, 399604, 400047, 440696, 440761, 440713, 440778] .leaf)) 451904 18 [440687, 440027, 445749, 440044, 450971, 451236, 451679] (.node (.node .leaf 459896 19 [450971, 451236, 451679] .leaf) 462199 20 [462194, 461856, 461890, 461923] (.node .leaf 478724 22 [478460, 462194, 473628, 461856, 473893, 474336, 461890, 461923] .leaf))) 513659 22 [478460, 462194, 473628, 461856, 473893, 474336, 461890, 461923] (.node (.node (.node .leaf 549684 17 [549535, 473628, 549666, 473893, 474336, 549544, 549609, 549561, 549626] .leaf) 560752 18 [549535, 549036, 554597, 549053, 559819, 560084, 560527] (.node .leaf 564485 19 [559819, 560084, 560527] .leaf)) 566788 20 [566783, 566445, 566479, 566512] (.node (.node .leaf 584085 22 [583049, 566783, 578217, 566445, 578482, 578925, 566479, 566512] .leaf) 619239 22 [583049, 566783, 578217, 566445, 578482, 578925, 566479, 566512] .leaf))))
def tp23 : MTree := .leaf
end Go.Proofs.YtedembbgeljdkaaGreatDoor.Ev
