/- The types of this seat, as the abstract layer has them (printed by gentt.py). -/
import Derived.Test.YtlpdflhpajhnoaaGreatProg
import Derived.Test.YtlpdflhpajhnoaaGreatAb20
import Derived.KernelRfl
namespace Go.Proofs.YtlpdflhpajhnoaaGreat
open Go.Ab
def ttlllll : TyT :=
  (.node (.node (.node (.node .leaf 1 (.sc .nilfn) .leaf) 2 (.int .i64) .leaf) 3 (.int .i64) (.node .leaf 4 (.sc (.bool false)) .leaf)) 5 (.int .u8) (.node (.node (.node .leaf 6 (.int .u8) .leaf) 7 (.st [(0, 1), (1, 1), (2, 1), (3, 1)] [.int .i64 0, .int .i64 0, .bool false, .int .u8 0] true [false, false, false, false]) .leaf) 8 (.st [(0, 1), (1, 1), (2, 1), (3, 1)] [.int .i64 0, .int .i64 0, .bool false, .int .u8 0] true [false, false, false, false]) (.node .leaf 9 (.str) .leaf)))
def ttllllr : TyT :=
  (.node (.node (.node (.node .leaf 11 (.str) .leaf) 12 (.int .u64) .leaf) 13 (.st [(0, 1), (1, 1)] [.str .empty, .int .u64 0] false [false, false]) (.node .leaf 14 (.st [(0, 1), (1, 1)] [.str .empty, .int .u64 0] false [false, false]) .leaf)) 15 (.sc .nilp) (.node (.node (.node .leaf 16 (.sc .nilp) .leaf) 17 (.sc .nilp) .leaf) 18 (.st [(0, 1)] [.nilp] false [false]) (.node .leaf 19 (.st [(0, 1)] [.nilp] false [false]) .leaf)))
def ttllll : TyT := .node ttlllll 10 (.str) ttllllr
def ttlllrl : TyT :=
  (.node (.node (.node (.node .leaf 21 (.int .i32) .leaf) 22 (.sl 3 1 8 [.int .i64 0]) .leaf) 23 (.sl 93 3 40 [.int .i64 0, nilSl, .int .i64 0]) (.node .leaf 24 (.st [(0, 1), (1, 1), (2, 1), (3, 1), (4, 1), (5, 1), (6, 1)] [.int .i64 0, nilSl, nilSl, .int .i64 0, .int .i64 0, .int .i64 0, nilSl] false [false, false, false, false, false, false, false]) .leaf)) 25 (.st [(0, 1), (1, 1), (2, 1), (3, 1), (4, 1), (5, 1), (6, 1)] [.int .i64 0, nilSl, nilSl, .int .i64 0, .int .i64 0, .int .i64 0, nilSl] false [false, false, false, false, false, false, false]) (.node (.node (.node .leaf 26 (.st [(0, 1), (1, 1), (2, 1), (3, 1), (4, 1)] [.int .i64 0, .int .i64 0, .int .i64 0, .int .i64 0, .int .i64 0] true [false, false, false, false, false]) .leaf) 27 (.st [(0, 1), (1, 1), (2, 1), (3, 1), (4, 1)] [.int .i64 0, .int .i64 0, .int .i64 0, .int .i64 0, .int .i64 0] true [false, false, false, false, false]) .leaf) 28 (.sc .nilfn) (.node .leaf 29 (.sc .nilfn) .leaf)))
def ttlllrr : TyT :=
  (.node (.node (.node (.node .leaf 31 (.sc .nilp) .leaf) 32 (.sc .nilp) .leaf) 33 (.st [(0, 1), (1, 1)] [.nilp, .nilp] false [false, false]) (.node .leaf 34 (.st [(0, 1), (1, 1)] [.nilp, .nilp] false [false, false]) .leaf)) 35 (.sc .nilp) (.node (.node .leaf 36 (.st [(0, 7), (7, 5), (12, 2), (14, 1)] [.int .i64 0, nilSl, nilSl, .int .i64 0, .int .i64 0, .int .i64 0, nilSl, .int .i64 0, .int .i64 0, .int .i64 0, .int .i64 0, .int .i64 0, .nilp, .nilp, .nilp] false [true, true, true, false]) .leaf) 37 (.st [(0, 7), (7, 5), (12, 2), (14, 1)] [.int .i64 0, nilSl, nilSl, .int .i64 0, .int .i64 0, .int .i64 0, nilSl, .int .i64 0, .int .i64 0, .int .i64 0, .int .i64 0, .int .i64 0, .nilp, .nilp, .nilp] false [true, true, true, false]) (.node .leaf 38 (.sl 30 1 8 [.nilp]) .leaf)))
def ttlllr : TyT := .node ttlllrl 30 (.sc .nilp) ttlllrr
def ttlll : TyT := .node ttllll 20 (.sc .niface) ttlllr
def ttllrll : TyT :=
  (.node (.node (.node (.node .leaf 40 (.st [(0, 1), (1, 1), (2, 1), (3, 1), (4, 1), (5, 1)] [.int .i64 0, nilSl, nilSl, .bool false, .int .i64 0, .int .i64 0] false [false, false, false, false, false, false]) .leaf) 41 (.int .i64) .leaf) 43 (.sc .nilfn) (.node .leaf 45 (.sc .nilfn) .leaf)) 46 (.sc .nilfn) (.node (.node (.node .leaf 47 (.sc .nilfn) .leaf) 48 (.sl 55 6 64 [.bool false, .int .i64 0, .int .i64 0, .int .i64 0, .bool false, nilSl]) .leaf) 49 (.sc .nilfn) (.node .leaf 51 (.sc .nilfn) .leaf)))
def ttllrlr : TyT :=
  (.node (.node (.node (.node .leaf 53 (.st [(0, 1), (1, 1), (2, 1), (3, 1), (4, 1)] [.int .i64 0, .int .i64 0, .int .i64 0, .bool false, nilSl] false [false, false, false, false, false]) .leaf) 54 (.st [(0, 1), (1, 5)] [.bool false, .int .i64 0, .int .i64 0, .int .i64 0, .bool false, nilSl] false [false, true]) .leaf) 55 (.st [(0, 1), (1, 5)] [.bool false, .int .i64 0, .int .i64 0, .int .i64 0, .bool false, nilSl] false [false, true]) (.node .leaf 56 (.sc .nilfn) .leaf)) 57 (.st [(0, 1), (1, 1), (2, 1)] [.int .i64 0, .int .i64 0, .bool false] true [false, false, false]) (.node (.node (.node .leaf 58 (.st [(0, 1), (1, 1), (2, 1)] [.int .i64 0, .int .i64 0, .bool false] true [false, false, false]) .leaf) 60 (.sc .nilfn) .leaf) 62 (.sc .nilfn) (.node .leaf 63 (.sc .nilfn) .leaf)))
def ttllrl : TyT := .node ttllrll 52 (.st [(0, 1), (1, 1), (2, 1), (3, 1), (4, 1)] [.int .i64 0, .int .i64 0, .int .i64 0, .bool false, nilSl] false [false, false, false, false, false]) ttllrlr
def ttllrrl : TyT :=
  (.node (.node (.node (.node .leaf 65 (.sc .nilfn) .leaf) 66 (.sc .nilfn) .leaf) 67 (.sc .nilfn) (.node .leaf 68 (.sl 73 3 24 [.int .i64 0, .int .i64 0, .int .i64 0]) .leaf)) 69 (.st [(0, 1), (1, 1), (2, 1)] [.int .i64 0, nilSl, .int .i64 0] false [false, false, false]) (.node (.node (.node .leaf 70 (.st [(0, 1), (1, 1), (2, 1)] [.int .i64 0, nilSl, .int .i64 0] false [false, false, false]) .leaf) 71 (.sc .nilfn) .leaf) 72 (.st [(0, 1), (1, 1), (2, 1)] [.int .i64 0, .int .i64 0, .int .i64 0] true [false, false, false]) (.node .leaf 73 (.st [(0, 1), (1, 1), (2, 1)] [.int .i64 0, .int .i64 0, .int .i64 0] true [false, false, false]) .leaf)))
def ttllrrr : TyT :=
  (.node (.node (.node (.node .leaf 76 (.sc .nilfn) .leaf) 77 (.sl 84 3 24 [.int .i64 0, .int .i64 0, .int .i64 0]) .leaf) 78 (.sl 4 1 1 [.bool false]) (.node .leaf 79 (.sc .nilfn) .leaf)) 80 (.sc .nilfn) (.node (.node .leaf 81 (.arr 3 3 1 [.int .i64 0, .int .i64 0, .int .i64 0]) .leaf) 82 (.sc .nilfn) (.node .leaf 83 (.st [(0, 1), (1, 1), (2, 1)] [.int .i64 0, .int .i64 0, .int .i64 0] true [false, false, false]) .leaf)))
def ttllrr : TyT := .node ttllrrl 75 (.sc .nilfn) ttllrrr
def ttllr : TyT := .node ttllrl 64 (.sc .nilfn) ttllrr
def ttll : TyT := .node ttlll 39 (.st [(0, 1), (1, 1), (2, 1), (3, 1), (4, 1), (5, 1)] [.int .i64 0, nilSl, nilSl, .bool false, .int .i64 0, .int .i64 0] false [false, false, false, false, false, false]) ttllr
def ttlrlll : TyT :=
  (.node (.node (.node (.node .leaf 86 (.sc .nilfn) .leaf) 87 (.sc .nilfn) .leaf) 88 (.sc .nilfn) (.node .leaf 89 (.sl 53 5 56 [.int .i64 0, .int .i64 0, .int .i64 0, .bool false, nilSl]) .leaf)) 90 (.sc .nilfn) (.node (.node (.node .leaf 91 (.sc .nilfn) .leaf) 92 (.st [(0, 1), (1, 1), (2, 1)] [.int .i64 0, nilSl, .int .i64 0] false [false, false, false]) .leaf) 93 (.st [(0, 1), (1, 1), (2, 1)] [.int .i64 0, nilSl, .int .i64 0] false [false, false, false]) (.node .leaf 95 (.sc .nilfn) .leaf)))
def ttlrllr : TyT :=
  (.node (.node (.node (.node .leaf 97 (.sc .nilfn) .leaf) 98 (.sc .nilfn) .leaf) 99 (.sc .nilfn) (.node .leaf 100 (.sc .nilfn) .leaf)) 101 (.sc .nilfn) (.node (.node (.node .leaf 102 (.sc .nilfn) .leaf) 104 (.sc .nilfn) .leaf) 105 (.sc .nilfn) (.node .leaf 107 (.sc .nilfn) .leaf)))
def ttlrll : TyT := .node ttlrlll 96 (.sc .nilfn) ttlrllr
def ttlrlrl : TyT :=
  (.node (.node (.node (.node .leaf 109 (.st [(0, 1), (1, 1), (2, 1), (3, 1), (4, 1)] [.bool false, nilSl, nilSl, .int .i64 0, .int .i64 0] false [false, false, false, false, false]) .leaf) 110 (.st [(0, 1), (1, 1), (2, 1), (3, 1), (4, 1)] [.bool false, nilSl, nilSl, .int .i64 0, .int .i64 0] false [false, false, false, false, false]) .leaf) 112 (.sc .nilfn) (.node .leaf 114 (.sc .nilfn) .leaf)) 115 (.sc .nilfn) (.node (.node (.node .leaf 117 (.sc .nilfn) .leaf) 118 (.sc .nilfn) .leaf) 119 (.sc .nilfn) (.node .leaf 120 (.sc .nilfn) .leaf)))
def ttlrlrr : TyT :=
  (.node (.node (.node (.node .leaf 122 (.st [(0, 5), (5, 1), (6, 1), (7, 1), (8, 6), (14, 5)] [.int .i64 0, .int .i64 0, .int .i64 0, .bool false, nilSl, .int .i64 0, .int .i64 0, .bool false, .int .i64 0, nilSl, nilSl, .bool false, .int .i64 0, .int .i64 0, .bool false, nilSl, nilSl, .int .i64 0, .int .i64 0] false [true, false, false, false, true, true]) .leaf) 123 (.st [(0, 5), (5, 1), (6, 1), (7, 1), (8, 6), (14, 5)] [.int .i64 0, .int .i64 0, .int .i64 0, .bool false, nilSl, .int .i64 0, .int .i64 0, .bool false, .int .i64 0, nilSl, nilSl, .bool false, .int .i64 0, .int .i64 0, .bool false, nilSl, nilSl, .int .i64 0, .int .i64 0] false [true, false, false, false, true, true]) .leaf) 124 (.sc .nilfn) (.node .leaf 125 (.sc .nilfn) .leaf)) 126 (.sc .nilfn) (.node (.node .leaf 127 (.sc .nilfn) .leaf) 128 (.sc .nilfn) (.node .leaf 129 (.sc .nilfn) .leaf)))
def ttlrlr : TyT := .node ttlrlrl 121 (.sc .nilfn) ttlrlrr
def ttlrl : TyT := .node ttlrll 108 (.sc .nilfn) ttlrlr
def ttlrrll : TyT :=
  (.node (.node (.node (.node .leaf 131 (.sc .nilfn) .leaf) 132 (.sc .nilfn) .leaf) 133 (.sc .nilfn) (.node .leaf 134 (.sc .nilfn) .leaf)) 135 (.sc .nilfn) (.node (.node (.node .leaf 136 (.st [(0, 1), (1, 1), (2, 1)] [.int .i64 0, .int .i64 0, .int .i64 0] true [false, false, false]) .leaf) 137 (.st [(0, 1), (1, 1), (2, 1)] [.int .i64 0, .int .i64 0, .int .i64 0] true [false, false, false]) .leaf) 138 (.sc .nilfn) (.node .leaf 139 (.sc .nilfn) .leaf)))
def ttlrrlr : TyT :=
  (.node (.node (.node (.node .leaf 141 (.sc .nilfn) .leaf) 142 (.sc .nilfn) .leaf) 143 (.sc .nilfn) (.node .leaf 144 (.sc .nilfn) .leaf)) 145 (.sc .nilfn) (.node (.node .leaf 146 (.sl 29 1 8 [.nilfn]) .leaf) 147 (.sc .nilfn) (.node .leaf 148 (.sc .nilp) .leaf)))
def ttlrrl : TyT := .node ttlrrll 140 (.sc .nilfn) ttlrrlr
def ttlrrrl : TyT :=
  (.node (.node (.node (.node .leaf 150 (.sc .nilfn) .leaf) 151 (.sc .nilfn) .leaf) 152 (.st [(0, 6), (6, 5)] [.int .i64 0, nilSl, nilSl, .bool false, .int .i64 0, .int .i64 0, .bool false, nilSl, nilSl, .int .i64 0, .int .i64 0] false [true, true]) (.node .leaf 153 (.st [(0, 6), (6, 5)] [.int .i64 0, nilSl, nilSl, .bool false, .int .i64 0, .int .i64 0, .bool false, nilSl, nilSl, .int .i64 0, .int .i64 0] false [true, true]) .leaf)) 154 (.sc .nilfn) (.node (.node (.node .leaf 155 (.sl 153 11 152 [.int .i64 0, nilSl, nilSl, .bool false, .int .i64 0, .int .i64 0, .bool false, nilSl, nilSl, .int .i64 0, .int .i64 0]) .leaf) 156 (.st [(0, 1)] [nilSl] false [false]) .leaf) 157 (.st [(0, 1)] [nilSl] false [false]) (.node .leaf 158 (.st [(0, 1), (1, 7)] [nilSl, .int .i64 0, nilSl, nilSl, .int .i64 0, .int .i64 0, .int .i64 0, nilSl] false [true, true]) .leaf)))
def ttlrrrr : TyT :=
  (.node (.node (.node (.node .leaf 160 (.sl 164 1 8 [.nilp]) .leaf) 161 (.st [(0, 1), (1, 1), (2, 1)] [nilSl, .int .i64 0, .int .i64 0] false [false, false, false]) .leaf) 162 (.st [(0, 1), (1, 1), (2, 1)] [nilSl, .int .i64 0, .int .i64 0] false [false, false, false]) (.node .leaf 163 (.sc .nilfn) .leaf)) 164 (.sc .nilp) (.node (.node .leaf 165 (.sc .nilp) .leaf) 166 (.sc .nilfn) (.node .leaf 167 (.sc .nilfn) .leaf)))
def ttlrrr : TyT := .node ttlrrrl 159 (.st [(0, 1), (1, 7)] [nilSl, .int .i64 0, nilSl, nilSl, .int .i64 0, .int .i64 0, .int .i64 0, nilSl] false [true, true]) ttlrrrr
def ttlrr : TyT := .node ttlrrl 149 (.sc .nilfn) ttlrrr
def ttlr : TyT := .node ttlrl 130 (.sc .nilfn) ttlrr
def ttl : TyT := .node ttll 84 (.st [(0, 1), (1, 1), (2, 1)] [.int .i64 0, .int .i64 0, .int .i64 0] true [false, false, false]) ttlr
def ttrllll : TyT :=
  (.node (.node (.node (.node .leaf 169 (.mp 4 168 true false [.nilfn]) .leaf) 170 (.sc .nilfn) .leaf) 171 (.sc .nilfn) (.node .leaf 172 (.st [(0, 1), (1, 1)] [.int .i64 0, .nilfn] false [false, false]) .leaf)) 173 (.st [(0, 1), (1, 1)] [.int .i64 0, .nilfn] false [false, false]) (.node (.node (.node .leaf 174 (.sc .nilfn) .leaf) 175 (.sc .nilfn) .leaf) 176 (.sc .nilfn) (.node .leaf 177 (.sl 173 2 16 [.int .i64 0, .nilfn]) .leaf)))
def ttrlllr : TyT :=
  (.node (.node (.node (.node .leaf 179 (.sc .nilfn) .leaf) 180 (.sc .nilfn) .leaf) 182 (.sc .nilfn) (.node .leaf 183 (.sc .nilfn) .leaf)) 184 (.sc .nilfn) (.node (.node (.node .leaf 185 (.sc .nilfn) .leaf) 186 (.sl 137 3 24 [.int .i64 0, .int .i64 0, .int .i64 0]) .leaf) 187 (.sc .nilfn) (.node .leaf 188 (.sc .nilfn) .leaf)))
def ttrlll : TyT := .node ttrllll 178 (.sc .nilfn) ttrlllr
def ttrllrl : TyT :=
  (.node (.node (.node (.node .leaf 190 (.sl 125 1 8 [.nilfn]) .leaf) 191 (.st [(0, 1), (1, 1), (2, 1)] [.int .i64 0, .int .i64 0, nilSl] false [false, false, false]) .leaf) 192 (.st [(0, 1), (1, 1), (2, 1)] [.int .i64 0, .int .i64 0, nilSl] false [false, false, false]) (.node .leaf 194 (.sc .nilfn) .leaf)) 196 (.sc .nilfn) (.node (.node (.node .leaf 197 (.sc .nilfn) .leaf) 198 (.sc .nilfn) .leaf) 199 (.st [(0, 1)] [.bool false] true [false]) (.node .leaf 200 (.st [(0, 1)] [.bool false] true [false]) .leaf)))
def ttrllrr : TyT :=
  (.node (.node (.node (.node .leaf 202 (.st [(0, 1), (1, 1), (2, 1)] [.bool false, .int .i64 0, .bool false] false [true, false, false]) .leaf) 203 (.sc .nilfn) .leaf) 204 (.sc .nilp) (.node .leaf 205 (.sc .nilfn) .leaf)) 206 (.sc .nilfn) (.node (.node .leaf 207 (.sc .nilfn) .leaf) 208 (.sc .nilfn) (.node .leaf 209 (.sc .nilfn) .leaf)))
def ttrllr : TyT := .node ttrllrl 201 (.st [(0, 1), (1, 1), (2, 1)] [.bool false, .int .i64 0, .bool false] false [true, false, false]) ttrllrr
def ttrll : TyT := .node ttrlll 189 (.sc .nilfn) ttrllr
def ttrlrll : TyT :=
  (.node (.node (.node (.node .leaf 211 (.st [(0, 1), (1, 7), (8, 6), (14, 5), (19, 3), (22, 1), (23, 1), (24, 3), (27, 3), (30, 1), (31, 1), (32, 1), (33, 3), (36, 1), (37, 1), (38, 6)] [.nilp, .int .i64 0, nilSl, nilSl, .int .i64 0, .int .i64 0, .int .i64 0, nilSl, .int .i64 0, nilSl, nilSl, .bool false, .int .i64 0, .int .i64 0, .bool false, nilSl, nilSl, .int .i64 0, .int .i64 0, .int .i64 0, nilSl, .int .i64 0, .int .i64 0, .int .i64 0, .int .i64 0, .int .i64 0, nilSl, .int .i64 0, .int .i64 0, nilSl, nilSl, nilSl, nilSl, .int .i64 0, .int .i64 0, nilSl, .int .i64 0, .int .i64 0, .int .i64 0, nilSl, nilSl, .bool false, .int .i64 0, .int .i64 0] false [false, true, true, true, true, false, false, true, true, false, false, false, true, false, false, true]) .leaf) 212 (.st [(0, 1), (1, 7), (8, 6), (14, 5), (19, 3), (22, 1), (23, 1), (24, 3), (27, 3), (30, 1), (31, 1), (32, 1), (33, 3), (36, 1), (37, 1), (38, 6)] [.nilp, .int .i64 0, nilSl, nilSl, .int .i64 0, .int .i64 0, .int .i64 0, nilSl, .int .i64 0, nilSl, nilSl, .bool false, .int .i64 0, .int .i64 0, .bool false, nilSl, nilSl, .int .i64 0, .int .i64 0, .int .i64 0, nilSl, .int .i64 0, .int .i64 0, .int .i64 0, .int .i64 0, .int .i64 0, nilSl, .int .i64 0, .int .i64 0, nilSl, nilSl, nilSl, nilSl, .int .i64 0, .int .i64 0, nilSl, .int .i64 0, .int .i64 0, .int .i64 0, nilSl, nilSl, .bool false, .int .i64 0, .int .i64 0] false [false, true, true, true, true, false, false, true, true, false, false, false, true, false, false, true]) .leaf) 213 (.int .i64) (.node .leaf 214 (.sc .nilfn) .leaf)) 215 (.int .i64) (.node (.node (.node .leaf 216 (.sc .nilfn) .leaf) 217 (.sc .nilfn) .leaf) 218 (.sc .nilfn) (.node .leaf 219 (.sc .nilfn) .leaf)))
def ttrlrlr : TyT :=
  (.node (.node (.node (.node .leaf 221 (.sc .nilfn) .leaf) 222 (.sc .nilfn) .leaf) 223 (.sc .nilfn) (.node .leaf 224 (.sl 192 3 40 [.int .i64 0, .int .i64 0, nilSl]) .leaf)) 225 (.sc .nilfn) (.node (.node (.node .leaf 226 (.sc .nilfn) .leaf) 227 (.sc .nilfn) .leaf) 228 (.sc .nilfn) (.node .leaf 229 (.sc .nilfn) .leaf)))
def ttrlrl : TyT := .node ttrlrll 220 (.sc .nilfn) ttrlrlr
def ttrlrrl : TyT :=
  (.node (.node (.node (.node .leaf 231 (.sc .nilfn) .leaf) 232 (.sc .nilfn) .leaf) 233 (.sc .nilp) (.node .leaf 234 (.sc .nilfn) .leaf)) 235 (.sc .nilfn) (.node (.node (.node .leaf 236 (.sc .nilfn) .leaf) 237 (.sc .nilfn) .leaf) 238 (.sc .nilfn) (.node .leaf 239 (.sc .nilfn) .leaf)))
def ttrlrrr : TyT :=
  (.node (.node (.node (.node .leaf 241 (.sc .nilfn) .leaf) 242 (.sc .nilfn) .leaf) 243 (.int .u64) (.node .leaf 244 (.sc .nilfn) .leaf)) 245 (.sc .nilfn) (.node (.node .leaf 246 (.sc .nilfn) .leaf) 247 (.sc .nilfn) (.node .leaf 248 (.sc .nilfn) .leaf)))
def ttrlrr : TyT := .node ttrlrrl 240 (.sc .nilfn) ttrlrrr
def ttrlr : TyT := .node ttrlrl 230 (.sc .nilfn) ttrlrr
def ttrl : TyT := .node ttrll 210 (.sc .nilp) ttrlr
def ttrrlll : TyT :=
  (.node (.node (.node (.node .leaf 250 (.sc .nilfn) .leaf) 251 (.sc .nilfn) .leaf) 252 (.sc .nilfn) (.node .leaf 253 (.sc .nilfn) .leaf)) 254 (.sc .nilfn) (.node (.node (.node .leaf 255 (.sc .nilfn) .leaf) 256 (.sc .nilfn) .leaf) 257 (.sc .nilfn) (.node .leaf 259 (.sc .nilfn) .leaf)))
def ttrrllr : TyT :=
  (.node (.node (.node (.node .leaf 261 (.sc .nilfn) .leaf) 262 (.sc .nilfn) .leaf) 263 (.sc .nilfn) (.node .leaf 264 (.sc .nilfn) .leaf)) 265 (.sc .nilfn) (.node (.node (.node .leaf 266 (.sc .nilfn) .leaf) 267 (.sc .nilfn) .leaf) 268 (.sc .nilfn) (.node .leaf 269 (.sc .nilfn) .leaf)))
def ttrrll : TyT := .node ttrrlll 260 (.sc .nilfn) ttrrllr
def ttrrlrl : TyT :=
  (.node (.node (.node (.node .leaf 271 (.sc .nilfn) .leaf) 272 (.sc .nilfn) .leaf) 273 (.sc .nilfn) (.node .leaf 274 (.sc .nilfn) .leaf)) 276 (.sc .nilfn) (.node (.node (.node .leaf 277 (.sc .nilfn) .leaf) 278 (.sc .nilfn) .leaf) 279 (.sc .nilfn) (.node .leaf 280 (.sc .nilfn) .leaf)))
def ttrrlrr : TyT :=
  (.node (.node (.node (.node .leaf 282 (.sc .nilfn) .leaf) 283 (.sc .nilfn) .leaf) 284 (.sc .nilfn) (.node .leaf 285 (.sc .nilfn) .leaf)) 286 (.sc .nilfn) (.node (.node .leaf 287 (.sc .nilfn) .leaf) 288 (.int .u64) (.node .leaf 289 (.st [(0, 1), (1, 1)] [.int .i64 0, .int .u64 0] true [false, false]) .leaf)))
def ttrrlr : TyT := .node ttrrlrl 281 (.sc .nilfn) ttrrlrr
def ttrrl : TyT := .node ttrrll 270 (.sc .nilfn) ttrrlr
def ttrrrll : TyT :=
  (.node (.node (.node (.node .leaf 291 (.sc .nilfn) .leaf) 292 (.sc .nilfn) .leaf) 293 (.sc .nilfn) (.node .leaf 294 (.sc .nilfn) .leaf)) 296 (.sc .nilfn) (.node (.node (.node .leaf 297 (.sc .nilfn) .leaf) 298 (.arr 2 3 1 [.int .i64 0, .int .i64 0]) .leaf) 299 (.sc .nilfn) (.node .leaf 301 (.sc .nilfn) .leaf)))
def ttrrrlr : TyT :=
  (.node (.node (.node (.node .leaf 303 (.st [(0, 1), (1, 1)] [.int .u64 0, .int .u64 0] true [false, false]) .leaf) 305 (.sc .nilfn) .leaf) 306 (.sc .nilfn) (.node .leaf 307 (.sc .nilfn) .leaf)) 308 (.sc .nilfn) (.node (.node .leaf 309 (.sc .nilfn) .leaf) 310 (.sc .nilfn) (.node .leaf 311 (.sc .nilfn) .leaf)))
def ttrrrl : TyT := .node ttrrrll 302 (.st [(0, 1), (1, 1)] [.int .u64 0, .int .u64 0] true [false, false]) ttrrrlr
def ttrrrrl : TyT :=
  (.node (.node (.node (.node .leaf 313 (.sc .nilfn) .leaf) 314 (.sc .nilfn) .leaf) 315 (.sc .nilfn) (.node .leaf 316 (.sc .niface) .leaf)) 317 (.sc .niface) (.node (.node (.node .leaf 318 (.sc .nilfn) .leaf) 319 (.sc .nilfn) .leaf) 320 (.st [(0, 1), (1, 1), (2, 1), (3, 1)] [.nilp, .nilp, .nilp, .str .empty] false [false, false, false, false]) (.node .leaf 321 (.st [(0, 1), (1, 1), (2, 1), (3, 1)] [.nilp, .nilp, .nilp, .str .empty] false [false, false, false, false]) .leaf)))
def ttrrrrr : TyT :=
  (.node (.node (.node (.node .leaf 326 (.int .u8) .leaf) 327 (.int .u8) .leaf) 328 (.sc .nilfn) (.node .leaf 329 (.sc .nilp) .leaf)) 330 (.int .i32) (.node (.node .leaf 331 (.int .i32) .leaf) 332 (.st [(0, 1), (1, 1), (2, 1), (3, 1), (4, 1), (5, 1), (6, 1), (7, 1), (8, 1), (9, 1), (10, 1)] [.int .u64 0, .int .u64 0, .int .u32 0, .int .u8 0, .int .u8 0, .int .u8 0, .int .u8 0, .nilfn, .nilp, .int .i32 0, .int .i32 0] false [false, false, false, false, false, false, false, false, false, false, false]) (.node .leaf 333 (.st [(0, 1), (1, 1), (2, 1), (3, 1), (4, 1), (5, 1), (6, 1), (7, 1), (8, 1), (9, 1), (10, 1)] [.int .u64 0, .int .u64 0, .int .u32 0, .int .u8 0, .int .u8 0, .int .u8 0, .int .u8 0, .nilfn, .nilp, .int .i32 0, .int .i32 0] false [false, false, false, false, false, false, false, false, false, false, false]) .leaf)))
def ttrrrr : TyT := .node ttrrrrl 325 (.int .u32) ttrrrrr
def ttrrr : TyT := .node ttrrrl 312 (.sc .nilfn) ttrrrr
def ttrr : TyT := .node ttrrl 290 (.st [(0, 1), (1, 1)] [.int .i64 0, .int .u64 0] true [false, false]) ttrrr
def ttr : TyT := .node ttrl 249 (.sc .nilfn) ttrr
def tt : TyT := .node ttl 168 (.sc .nilfn) ttr
theorem ttOK : TyOK Tryz.prog tt := TyT.chk_ok (by kernel_rfl)
theorem mixed : Tryz.prog.follows .mixedOrders = true := by kernel_rfl
end Go.Proofs.YtlpdflhpajhnoaaGreat
