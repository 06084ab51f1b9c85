/- Printed by wip/tools/gen.py: the numbers of functions and types, and what lives where. No condition. -/
import Derived.Test.YtdgeponcnlkaiaaProg
import Derived.Test.YtdgeponcnlkaiaaAbC
namespace Go.Proofs.Ytdgeponcnlkaiaa.Ab
open Go

def TTab : TT := [
  (2, ⟨.int .i64, 1, 8, [.int .i64 0]⟩),
  (3, ⟨.int .i64, 1, 8, [.int .i64 0]⟩),
  (4, ⟨.bool, 1, 1, [.bool false]⟩),
  (22, ⟨.sl 3, 1, 24, [.slice none 0 0]⟩),
  (24, ⟨.st [(0, 3), (1, 3), (2, 22)], 3, 40, [.int .i64 0, .int .i64 0, .slice none 0 0]⟩),
  (25, ⟨.sl 53, 1, 24, [.slice none 0 0]⟩),
  (27, ⟨.st [(0, 24), (3, 25)], 4, 64, [.int .i64 0, .int .i64 0, .slice none 0 0, .slice none 0 0]⟩),
  (29, ⟨.st [(0, 24), (3, 22), (4, 27)], 8, 128, [.int .i64 0, .int .i64 0, .slice none 0 0, .slice none 0 0, .int .i64 0, .int .i64 0, .slice none 0 0, .slice none 0 0]⟩),
  (51, ⟨.sl 131, 1, 24, [.slice none 0 0]⟩),
  (53, ⟨.st [(0, 3), (1, 51)], 2, 32, [.int .i64 0, .slice none 0 0]⟩),
  (78, ⟨.sl 220, 1, 24, [.slice none 0 0]⟩),
  (80, ⟨.st [(0, 3), (1, 78)], 2, 32, [.int .i64 0, .slice none 0 0]⟩),
  (128, ⟨.other, 1, 8, [.pointer none]⟩),
  (131, ⟨.st [(0, 22), (1, 3)], 2, 32, [.slice none 0 0, .int .i64 0]⟩),
  (134, ⟨.arr 8 3, 8, 64, [.int .i64 0, .int .i64 0, .int .i64 0, .int .i64 0, .int .i64 0, .int .i64 0, .int .i64 0, .int .i64 0]⟩),
  (138, ⟨.map 134 3, 1, 8, [.map none]⟩),
  (140, ⟨.st [(0, 3), (1, 138)], 2, 16, [.int .i64 0, .map none]⟩),
  (174, ⟨.sl 177, 1, 24, [.slice none 0 0]⟩),
  (177, ⟨.st [(0, 3), (1, 3)], 2, 16, [.int .i64 0, .int .i64 0]⟩),
  (220, ⟨.st [(0, 22), (1, 3)], 2, 32, [.slice none 0 0, .int .i64 0]⟩),
  (229, ⟨.int .u64, 1, 8, [.int .u64 0]⟩)]
theorem tt2 : tget TTab 2 = some ⟨.int .i64, 1, 8, [.int .i64 0]⟩ := rfl
theorem tt3 : tget TTab 3 = some ⟨.int .i64, 1, 8, [.int .i64 0]⟩ := rfl
theorem tt4 : tget TTab 4 = some ⟨.bool, 1, 1, [.bool false]⟩ := rfl
theorem tt22 : tget TTab 22 = some ⟨.sl 3, 1, 24, [.slice none 0 0]⟩ := rfl
theorem tt24 : tget TTab 24 = some ⟨.st [(0, 3), (1, 3), (2, 22)], 3, 40, [.int .i64 0, .int .i64 0, .slice none 0 0]⟩ := rfl
theorem tt25 : tget TTab 25 = some ⟨.sl 53, 1, 24, [.slice none 0 0]⟩ := rfl
theorem tt27 : tget TTab 27 = some ⟨.st [(0, 24), (3, 25)], 4, 64, [.int .i64 0, .int .i64 0, .slice none 0 0, .slice none 0 0]⟩ := rfl
theorem tt29 : tget TTab 29 = some ⟨.st [(0, 24), (3, 22), (4, 27)], 8, 128, [.int .i64 0, .int .i64 0, .slice none 0 0, .slice none 0 0, .int .i64 0, .int .i64 0, .slice none 0 0, .slice none 0 0]⟩ := rfl
theorem tt51 : tget TTab 51 = some ⟨.sl 131, 1, 24, [.slice none 0 0]⟩ := rfl
theorem tt53 : tget TTab 53 = some ⟨.st [(0, 3), (1, 51)], 2, 32, [.int .i64 0, .slice none 0 0]⟩ := rfl
theorem tt78 : tget TTab 78 = some ⟨.sl 220, 1, 24, [.slice none 0 0]⟩ := rfl
theorem tt80 : tget TTab 80 = some ⟨.st [(0, 3), (1, 78)], 2, 32, [.int .i64 0, .slice none 0 0]⟩ := rfl
theorem tt128 : tget TTab 128 = some ⟨.other, 1, 8, [.pointer none]⟩ := rfl
theorem tt131 : tget TTab 131 = some ⟨.st [(0, 22), (1, 3)], 2, 32, [.slice none 0 0, .int .i64 0]⟩ := rfl
theorem tt134 : tget TTab 134 = some ⟨.arr 8 3, 8, 64, [.int .i64 0, .int .i64 0, .int .i64 0, .int .i64 0, .int .i64 0, .int .i64 0, .int .i64 0, .int .i64 0]⟩ := rfl
theorem tt138 : tget TTab 138 = some ⟨.map 134 3, 1, 8, [.map none]⟩ := rfl
theorem tt140 : tget TTab 140 = some ⟨.st [(0, 3), (1, 138)], 2, 16, [.int .i64 0, .map none]⟩ := rfl
theorem tt174 : tget TTab 174 = some ⟨.sl 177, 1, 24, [.slice none 0 0]⟩ := rfl
theorem tt177 : tget TTab 177 = some ⟨.st [(0, 3), (1, 3)], 2, 16, [.int .i64 0, .int .i64 0]⟩ := rfl
theorem tt220 : tget TTab 220 = some ⟨.st [(0, 22), (1, 3)], 2, 32, [.slice none 0 0, .int .i64 0]⟩ := rfl
theorem tt229 : tget TTab 229 = some ⟨.int .u64, 1, 8, [.int .u64 0]⟩ := rfl
attribute [simp] tt2 tt3 tt4 tt22 tt24 tt25 tt27 tt29 tt51 tt53 tt78 tt80 tt128 tt131 tt134 tt138 tt140 tt174 tt177 tt220 tt229
def MM : List (Nat × List Bool) := [(18, [true, false]), (57, [true, false]), (81, [true, false]), (82, [true, false]), (83, [true, false]), (110, [true, false, false]), (113, [true]), (148, [true, false]), (171, [true, false]), (189, [true, false])]
theorem mm0 : aget [] MM 0 = [] := rfl
theorem mm1 : aget [] MM 1 = [] := rfl
theorem mm2 : aget [] MM 2 = [] := rfl
theorem mm3 : aget [] MM 3 = [] := rfl
theorem mm4 : aget [] MM 4 = [] := rfl
theorem mm5 : aget [] MM 5 = [] := rfl
theorem mm6 : aget [] MM 6 = [] := rfl
theorem mm7 : aget [] MM 7 = [] := rfl
theorem mm8 : aget [] MM 8 = [] := rfl
theorem mm9 : aget [] MM 9 = [] := rfl
theorem mm10 : aget [] MM 10 = [] := rfl
theorem mm11 : aget [] MM 11 = [] := rfl
theorem mm12 : aget [] MM 12 = [] := rfl
theorem mm13 : aget [] MM 13 = [] := rfl
theorem mm14 : aget [] MM 14 = [] := rfl
theorem mm15 : aget [] MM 15 = [] := rfl
theorem mm16 : aget [] MM 16 = [] := rfl
theorem mm17 : aget [] MM 17 = [] := rfl
theorem mm18 : aget [] MM 18 = [true, false] := rfl
theorem mm19 : aget [] MM 19 = [] := rfl
theorem mm20 : aget [] MM 20 = [] := rfl
theorem mm21 : aget [] MM 21 = [] := rfl
theorem mm22 : aget [] MM 22 = [] := rfl
theorem mm23 : aget [] MM 23 = [] := rfl
theorem mm24 : aget [] MM 24 = [] := rfl
theorem mm25 : aget [] MM 25 = [] := rfl
theorem mm26 : aget [] MM 26 = [] := rfl
theorem mm27 : aget [] MM 27 = [] := rfl
theorem mm28 : aget [] MM 28 = [] := rfl
theorem mm29 : aget [] MM 29 = [] := rfl
theorem mm30 : aget [] MM 30 = [] := rfl
theorem mm31 : aget [] MM 31 = [] := rfl
theorem mm32 : aget [] MM 32 = [] := rfl
theorem mm33 : aget [] MM 33 = [] := rfl
theorem mm34 : aget [] MM 34 = [] := rfl
theorem mm35 : aget [] MM 35 = [] := rfl
theorem mm36 : aget [] MM 36 = [] := rfl
theorem mm37 : aget [] MM 37 = [] := rfl
theorem mm38 : aget [] MM 38 = [] := rfl
theorem mm39 : aget [] MM 39 = [] := rfl
theorem mm40 : aget [] MM 40 = [] := rfl
theorem mm41 : aget [] MM 41 = [] := rfl
theorem mm42 : aget [] MM 42 = [] := rfl
theorem mm43 : aget [] MM 43 = [] := rfl
theorem mm44 : aget [] MM 44 = [] := rfl
theorem mm45 : aget [] MM 45 = [] := rfl
theorem mm46 : aget [] MM 46 = [] := rfl
theorem mm47 : aget [] MM 47 = [] := rfl
theorem mm48 : aget [] MM 48 = [] := rfl
theorem mm49 : aget [] MM 49 = [] := rfl
theorem mm50 : aget [] MM 50 = [] := rfl
theorem mm51 : aget [] MM 51 = [] := rfl
theorem mm52 : aget [] MM 52 = [] := rfl
theorem mm53 : aget [] MM 53 = [] := rfl
theorem mm54 : aget [] MM 54 = [] := rfl
theorem mm55 : aget [] MM 55 = [] := rfl
theorem mm56 : aget [] MM 56 = [] := rfl
theorem mm57 : aget [] MM 57 = [true, false] := rfl
theorem mm58 : aget [] MM 58 = [] := rfl
theorem mm59 : aget [] MM 59 = [] := rfl
theorem mm60 : aget [] MM 60 = [] := rfl
theorem mm61 : aget [] MM 61 = [] := rfl
theorem mm62 : aget [] MM 62 = [] := rfl
theorem mm63 : aget [] MM 63 = [] := rfl
theorem mm64 : aget [] MM 64 = [] := rfl
theorem mm65 : aget [] MM 65 = [] := rfl
theorem mm66 : aget [] MM 66 = [] := rfl
theorem mm67 : aget [] MM 67 = [] := rfl
theorem mm68 : aget [] MM 68 = [] := rfl
theorem mm69 : aget [] MM 69 = [] := rfl
theorem mm70 : aget [] MM 70 = [] := rfl
theorem mm71 : aget [] MM 71 = [] := rfl
theorem mm72 : aget [] MM 72 = [] := rfl
theorem mm73 : aget [] MM 73 = [] := rfl
theorem mm74 : aget [] MM 74 = [] := rfl
theorem mm75 : aget [] MM 75 = [] := rfl
theorem mm76 : aget [] MM 76 = [] := rfl
theorem mm77 : aget [] MM 77 = [] := rfl
theorem mm78 : aget [] MM 78 = [] := rfl
theorem mm79 : aget [] MM 79 = [] := rfl
theorem mm80 : aget [] MM 80 = [] := rfl
theorem mm81 : aget [] MM 81 = [true, false] := rfl
theorem mm82 : aget [] MM 82 = [true, false] := rfl
theorem mm83 : aget [] MM 83 = [true, false] := rfl
theorem mm84 : aget [] MM 84 = [] := rfl
theorem mm85 : aget [] MM 85 = [] := rfl
theorem mm86 : aget [] MM 86 = [] := rfl
theorem mm87 : aget [] MM 87 = [] := rfl
theorem mm88 : aget [] MM 88 = [] := rfl
theorem mm89 : aget [] MM 89 = [] := rfl
theorem mm90 : aget [] MM 90 = [] := rfl
theorem mm91 : aget [] MM 91 = [] := rfl
theorem mm92 : aget [] MM 92 = [] := rfl
theorem mm93 : aget [] MM 93 = [] := rfl
theorem mm94 : aget [] MM 94 = [] := rfl
theorem mm95 : aget [] MM 95 = [] := rfl
theorem mm96 : aget [] MM 96 = [] := rfl
theorem mm97 : aget [] MM 97 = [] := rfl
theorem mm98 : aget [] MM 98 = [] := rfl
theorem mm99 : aget [] MM 99 = [] := rfl
theorem mm100 : aget [] MM 100 = [] := rfl
theorem mm101 : aget [] MM 101 = [] := rfl
theorem mm102 : aget [] MM 102 = [] := rfl
theorem mm103 : aget [] MM 103 = [] := rfl
theorem mm104 : aget [] MM 104 = [] := rfl
theorem mm105 : aget [] MM 105 = [] := rfl
theorem mm106 : aget [] MM 106 = [] := rfl
theorem mm107 : aget [] MM 107 = [] := rfl
theorem mm108 : aget [] MM 108 = [] := rfl
theorem mm109 : aget [] MM 109 = [] := rfl
theorem mm110 : aget [] MM 110 = [true, false, false] := rfl
theorem mm111 : aget [] MM 111 = [] := rfl
theorem mm112 : aget [] MM 112 = [] := rfl
theorem mm113 : aget [] MM 113 = [true] := rfl
theorem mm114 : aget [] MM 114 = [] := rfl
theorem mm115 : aget [] MM 115 = [] := rfl
theorem mm116 : aget [] MM 116 = [] := rfl
theorem mm117 : aget [] MM 117 = [] := rfl
theorem mm118 : aget [] MM 118 = [] := rfl
theorem mm119 : aget [] MM 119 = [] := rfl
theorem mm120 : aget [] MM 120 = [] := rfl
theorem mm121 : aget [] MM 121 = [] := rfl
theorem mm122 : aget [] MM 122 = [] := rfl
theorem mm123 : aget [] MM 123 = [] := rfl
theorem mm124 : aget [] MM 124 = [] := rfl
theorem mm125 : aget [] MM 125 = [] := rfl
theorem mm126 : aget [] MM 126 = [] := rfl
theorem mm127 : aget [] MM 127 = [] := rfl
theorem mm128 : aget [] MM 128 = [] := rfl
theorem mm129 : aget [] MM 129 = [] := rfl
theorem mm130 : aget [] MM 130 = [] := rfl
theorem mm131 : aget [] MM 131 = [] := rfl
theorem mm132 : aget [] MM 132 = [] := rfl
theorem mm133 : aget [] MM 133 = [] := rfl
theorem mm134 : aget [] MM 134 = [] := rfl
theorem mm135 : aget [] MM 135 = [] := rfl
theorem mm136 : aget [] MM 136 = [] := rfl
theorem mm137 : aget [] MM 137 = [] := rfl
theorem mm138 : aget [] MM 138 = [] := rfl
theorem mm139 : aget [] MM 139 = [] := rfl
theorem mm140 : aget [] MM 140 = [] := rfl
theorem mm141 : aget [] MM 141 = [] := rfl
theorem mm142 : aget [] MM 142 = [] := rfl
theorem mm143 : aget [] MM 143 = [] := rfl
theorem mm144 : aget [] MM 144 = [] := rfl
theorem mm145 : aget [] MM 145 = [] := rfl
theorem mm146 : aget [] MM 146 = [] := rfl
theorem mm147 : aget [] MM 147 = [] := rfl
theorem mm148 : aget [] MM 148 = [true, false] := rfl
theorem mm149 : aget [] MM 149 = [] := rfl
theorem mm150 : aget [] MM 150 = [] := rfl
theorem mm151 : aget [] MM 151 = [] := rfl
theorem mm152 : aget [] MM 152 = [] := rfl
theorem mm153 : aget [] MM 153 = [] := rfl
theorem mm154 : aget [] MM 154 = [] := rfl
theorem mm155 : aget [] MM 155 = [] := rfl
theorem mm156 : aget [] MM 156 = [] := rfl
theorem mm157 : aget [] MM 157 = [] := rfl
theorem mm158 : aget [] MM 158 = [] := rfl
theorem mm159 : aget [] MM 159 = [] := rfl
theorem mm160 : aget [] MM 160 = [] := rfl
theorem mm161 : aget [] MM 161 = [] := rfl
theorem mm162 : aget [] MM 162 = [] := rfl
theorem mm163 : aget [] MM 163 = [] := rfl
theorem mm164 : aget [] MM 164 = [] := rfl
theorem mm165 : aget [] MM 165 = [] := rfl
theorem mm166 : aget [] MM 166 = [] := rfl
theorem mm167 : aget [] MM 167 = [] := rfl
theorem mm168 : aget [] MM 168 = [] := rfl
theorem mm169 : aget [] MM 169 = [] := rfl
theorem mm170 : aget [] MM 170 = [] := rfl
theorem mm171 : aget [] MM 171 = [true, false] := rfl
theorem mm172 : aget [] MM 172 = [] := rfl
theorem mm173 : aget [] MM 173 = [] := rfl
theorem mm174 : aget [] MM 174 = [] := rfl
theorem mm175 : aget [] MM 175 = [] := rfl
theorem mm176 : aget [] MM 176 = [] := rfl
theorem mm177 : aget [] MM 177 = [] := rfl
theorem mm178 : aget [] MM 178 = [] := rfl
theorem mm179 : aget [] MM 179 = [] := rfl
theorem mm180 : aget [] MM 180 = [] := rfl
theorem mm181 : aget [] MM 181 = [] := rfl
theorem mm182 : aget [] MM 182 = [] := rfl
theorem mm183 : aget [] MM 183 = [] := rfl
theorem mm184 : aget [] MM 184 = [] := rfl
theorem mm185 : aget [] MM 185 = [] := rfl
theorem mm186 : aget [] MM 186 = [] := rfl
theorem mm187 : aget [] MM 187 = [] := rfl
theorem mm188 : aget [] MM 188 = [] := rfl
theorem mm189 : aget [] MM 189 = [true, false] := rfl
theorem mm190 : aget [] MM 190 = [] := rfl
theorem mm191 : aget [] MM 191 = [] := rfl
theorem mm192 : aget [] MM 192 = [] := rfl
theorem mm193 : aget [] MM 193 = [] := rfl
theorem mm194 : aget [] MM 194 = [] := rfl
theorem mm195 : aget [] MM 195 = [] := rfl
theorem mm196 : aget [] MM 196 = [] := rfl
theorem mm197 : aget [] MM 197 = [] := rfl
theorem mm198 : aget [] MM 198 = [] := rfl
theorem mm199 : aget [] MM 199 = [] := rfl
theorem mm200 : aget [] MM 200 = [] := rfl
theorem mm201 : aget [] MM 201 = [] := rfl
theorem mm202 : aget [] MM 202 = [] := rfl
theorem mm203 : aget [] MM 203 = [] := rfl
theorem mm204 : aget [] MM 204 = [] := rfl
theorem mm205 : aget [] MM 205 = [] := rfl
theorem mm206 : aget [] MM 206 = [] := rfl
theorem mm207 : aget [] MM 207 = [] := rfl
theorem mm208 : aget [] MM 208 = [] := rfl
theorem mm209 : aget [] MM 209 = [] := rfl
theorem mm210 : aget [] MM 210 = [] := rfl
theorem mm211 : aget [] MM 211 = [] := rfl
theorem mm212 : aget [] MM 212 = [] := rfl
theorem mm213 : aget [] MM 213 = [] := rfl
theorem mm214 : aget [] MM 214 = [] := rfl
theorem mm215 : aget [] MM 215 = [] := rfl
theorem mm216 : aget [] MM 216 = [] := rfl
theorem mm217 : aget [] MM 217 = [] := rfl
theorem mm218 : aget [] MM 218 = [] := rfl
theorem mm219 : aget [] MM 219 = [] := rfl
theorem mm220 : aget [] MM 220 = [] := rfl
theorem mm221 : aget [] MM 221 = [] := rfl
theorem mm222 : aget [] MM 222 = [] := rfl
theorem mm223 : aget [] MM 223 = [] := rfl
theorem mm224 : aget [] MM 224 = [] := rfl
theorem mm225 : aget [] MM 225 = [] := rfl
theorem mm226 : aget [] MM 226 = [] := rfl
theorem mm227 : aget [] MM 227 = [] := rfl
theorem mm228 : aget [] MM 228 = [] := rfl
theorem mm229 : aget [] MM 229 = [] := rfl
theorem mm230 : aget [] MM 230 = [] := rfl
theorem mm231 : aget [] MM 231 = [] := rfl
theorem mm232 : aget [] MM 232 = [] := rfl
theorem mm233 : aget [] MM 233 = [] := rfl
theorem mm234 : aget [] MM 234 = [] := rfl
theorem mm235 : aget [] MM 235 = [] := rfl
theorem mm236 : aget [] MM 236 = [] := rfl
theorem mm237 : aget [] MM 237 = [] := rfl
theorem mm238 : aget [] MM 238 = [] := rfl
theorem mm239 : aget [] MM 239 = [] := rfl
theorem mm240 : aget [] MM 240 = [] := rfl
theorem mm241 : aget [] MM 241 = [] := rfl
theorem mm242 : aget [] MM 242 = [] := rfl
theorem mm243 : aget [] MM 243 = [] := rfl
theorem mm244 : aget [] MM 244 = [] := rfl
theorem mm245 : aget [] MM 245 = [] := rfl
theorem mm246 : aget [] MM 246 = [] := rfl
theorem mm247 : aget [] MM 247 = [] := rfl
theorem mm248 : aget [] MM 248 = [] := rfl
theorem mm249 : aget [] MM 249 = [] := rfl
theorem mm250 : aget [] MM 250 = [] := rfl
theorem mm251 : aget [] MM 251 = [] := rfl
theorem mm252 : aget [] MM 252 = [] := rfl
theorem mm253 : aget [] MM 253 = [] := rfl
theorem mm254 : aget [] MM 254 = [] := rfl
theorem mm255 : aget [] MM 255 = [] := rfl
theorem mm256 : aget [] MM 256 = [] := rfl
theorem mm257 : aget [] MM 257 = [] := rfl
theorem mm258 : aget [] MM 258 = [] := rfl
theorem mm259 : aget [] MM 259 = [] := rfl
theorem mm260 : aget [] MM 260 = [] := rfl
theorem mm261 : aget [] MM 261 = [] := rfl
theorem mm262 : aget [] MM 262 = [] := rfl
theorem mm263 : aget [] MM 263 = [] := rfl
theorem mm264 : aget [] MM 264 = [] := rfl
theorem mm265 : aget [] MM 265 = [] := rfl
theorem mm266 : aget [] MM 266 = [] := rfl
theorem mm267 : aget [] MM 267 = [] := rfl
theorem mm268 : aget [] MM 268 = [] := rfl
theorem mm269 : aget [] MM 269 = [] := rfl
theorem mm270 : aget [] MM 270 = [] := rfl
theorem mm271 : aget [] MM 271 = [] := rfl
theorem mm272 : aget [] MM 272 = [] := rfl
theorem mm273 : aget [] MM 273 = [] := rfl
theorem mm274 : aget [] MM 274 = [] := rfl
theorem mm275 : aget [] MM 275 = [] := rfl
theorem mm276 : aget [] MM 276 = [] := rfl
theorem mm277 : aget [] MM 277 = [] := rfl
theorem mm278 : aget [] MM 278 = [] := rfl
attribute [simp] mm0 mm1 mm2 mm3 mm4 mm5 mm6 mm7 mm8 mm9 mm10 mm11 mm12 mm13 mm14 mm15 mm16 mm17 mm18 mm19 mm20 mm21 mm22 mm23 mm24 mm25 mm26 mm27 mm28 mm29 mm30 mm31 mm32 mm33 mm34 mm35 mm36 mm37 mm38 mm39 mm40 mm41 mm42 mm43 mm44 mm45 mm46 mm47 mm48 mm49 mm50 mm51 mm52 mm53 mm54 mm55 mm56 mm57 mm58 mm59 mm60 mm61 mm62 mm63 mm64 mm65 mm66 mm67 mm68 mm69 mm70 mm71 mm72 mm73 mm74 mm75 mm76 mm77 mm78 mm79 mm80 mm81 mm82 mm83 mm84 mm85 mm86 mm87 mm88 mm89 mm90 mm91 mm92 mm93 mm94 mm95 mm96 mm97 mm98 mm99 mm100 mm101 mm102 mm103 mm104 mm105 mm106 mm107 mm108 mm109 mm110 mm111 mm112 mm113 mm114 mm115 mm116 mm117 mm118 mm119 mm120 mm121 mm122 mm123 mm124 mm125 mm126 mm127 mm128 mm129 mm130 mm131 mm132 mm133 mm134 mm135 mm136 mm137 mm138 mm139 mm140 mm141 mm142 mm143 mm144 mm145 mm146 mm147 mm148 mm149 mm150 mm151 mm152 mm153 mm154 mm155 mm156 mm157 mm158 mm159 mm160 mm161 mm162 mm163 mm164 mm165 mm166 mm167 mm168 mm169 mm170 mm171 mm172 mm173 mm174 mm175 mm176 mm177 mm178 mm179 mm180 mm181 mm182 mm183 mm184 mm185 mm186 mm187 mm188 mm189 mm190 mm191 mm192 mm193 mm194 mm195 mm196 mm197 mm198 mm199 mm200 mm201 mm202 mm203 mm204 mm205 mm206 mm207 mm208 mm209 mm210 mm211 mm212 mm213 mm214 mm215 mm216 mm217 mm218 mm219 mm220 mm221 mm222 mm223 mm224 mm225 mm226 mm227 mm228 mm229 mm230 mm231 mm232 mm233 mm234 mm235 mm236 mm237 mm238 mm239 mm240 mm241 mm242 mm243 mm244 mm245 mm246 mm247 mm248 mm249 mm250 mm251 mm252 mm253 mm254 mm255 mm256 mm257 mm258 mm259 mm260 mm261 mm262 mm263 mm264 mm265 mm266 mm267 mm268 mm269 mm270 mm271 mm272 mm273 mm274 mm275 mm276 mm277 mm278
namespace F
abbrev laws_FnExactNewSession : Nat := 3
abbrev laws_FnForms : Nat := 4
abbrev laws_FnDivided : Nat := 5
abbrev laws_FnExactAddQSums : Nat := 6
abbrev laws_FnLaurentRing : Nat := 7
abbrev laws_FnExactPowerLaurent : Nat := 8
abbrev laws_FnExactNumeratorOf : Nat := 9
abbrev laws_FnExactDivideLaurents : Nat := 10
abbrev laws_FnTorus : Nat := 11
abbrev laws_FnExactClassicalOf : Nat := 12
abbrev laws_FnQuantumDivided : Nat := 13
abbrev laws_FnExactMulQSums : Nat := 14
abbrev spec_NewSession : Nat := 15
abbrev impl_NewSession : Nat := 16
abbrev laws_eqSession : Nat := 17
abbrev laws_markSession : Nat := 18
abbrev laws_heldSession : Nat := 19
abbrev laws_big : Nat := 20
abbrev spec_DrawQuantumWalk : Nat := 21
abbrev impl_FormAlong : Nat := 22
abbrev impl_PrincipalMatrix : Nat := 23
abbrev impl_MutateAlong : Nat := 24
abbrev impl_SymmetrizerOf : Nat := 25
abbrev impl_IsForm : Nat := 26
abbrev spec_FormAlong : Nat := 27
abbrev laws_entry : Nat := 28
abbrev laws_at0 : Nat := 29
abbrev impl_MutateForm : Nat := 30
abbrev impl_MutateMatrix : Nat := 31
abbrev spec_MutateForm : Nat := 32
abbrev laws_rows : Nat := 33
abbrev spec_DrawSums : Nat := 34
abbrev impl_MulLaurents : Nat := 35
abbrev impl_DivideLaurents : Nat := 36
abbrev laws_laurents : Nat := 37
abbrev spec_DivideLaurents : Nat := 38
abbrev laws_times : Nat := 39
abbrev laws_szQSum : Nat := 40
abbrev spec_AddQSums : Nat := 41
abbrev laws_toQSum : Nat := 42
abbrev impl_AddQSums : Nat := 43
abbrev laws_eqQSum : Nat := 44
abbrev laws_markQSum : Nat := 45
abbrev laws_heldQSum : Nat := 46
abbrev spec_DrawPlaces : Nat := 47
abbrev impl_AddLaurents : Nat := 48
abbrev laws_plus : Nat := 49
abbrev impl_EvaluateLaurent : Nat := 50
abbrev spec_EvaluateLaurent : Nat := 51
abbrev impl_PowerLaurent : Nat := 52
abbrev laws_szLaurent : Nat := 53
abbrev spec_PowerLaurent : Nat := 54
abbrev laws_toLaurent : Nat := 55
abbrev laws_eqLaurent : Nat := 56
abbrev laws_markLaurent : Nat := 57
abbrev laws_heldLaurent : Nat := 58
abbrev spec_NumeratorOf : Nat := 59
abbrev impl_NumeratorOf : Nat := 60
abbrev spec_DrawThreeQSums : Nat := 61
abbrev impl_MulQSums : Nat := 62
abbrev laws_qsums : Nat := 63
abbrev laws_qtimes : Nat := 64
abbrev impl_BarOf : Nat := 65
abbrev impl_ClassicalOf : Nat := 66
abbrev laws_sumOf : Nat := 67
abbrev spec_ClassicalOf : Nat := 68
abbrev impl_DivideQSums : Nat := 69
abbrev spec_DivideQSums : Nat := 70
abbrev laws_szIntSS : Nat := 71
abbrev spec_MulQSums : Nat := 72
abbrev laws_toIntSS : Nat := 73
abbrev laws_eqIntSS : Nat := 74
abbrev laws_markIntSS : Nat := 75
abbrev spec_l3Initial : Nat := 76
abbrev impl_started : Nat := 77
abbrev laws_eqMatrix : Nat := 78
abbrev laws_eqIntS : Nat := 79
abbrev laws_eqSeed : Nat := 80
abbrev laws_markMatrix : Nat := 81
abbrev laws_markIntS : Nat := 82
abbrev laws_markSeed : Nat := 83
abbrev laws_heldMatrix : Nat := 84
abbrev laws_heldIntS : Nat := 85
abbrev laws_heldSeed : Nat := 86
abbrev spec_l1New : Nat := 87
abbrev spec_dQuantum : Nat := 88
abbrev impl_forms : Nat := 89
abbrev impl_MatrixOk : Nat := 90
abbrev slices_Clone_int_int : Nat := 91
abbrev impl_shaped : Nat := 92
abbrev impl_factors : Nat := 93
abbrev impl_within : Nat := 94
abbrev spec_FormOf : Nat := 95
abbrev spec_l4Along : Nat := 96
abbrev impl_unit : Nat := 97
abbrev impl_Matrix_at : Nat := 98
abbrev impl_paired : Nat := 99
abbrev impl_mutated : Nat := 100
abbrev spec_l8Form : Nat := 101
abbrev spec_MatrixOk : Nat := 102
abbrev spec_l1In : Nat := 103
abbrev spec_l8Mutate : Nat := 104
abbrev laws_ints : Nat := 105
abbrev spec_l1Below : Nat := 106
abbrev spec_dLaurent : Nat := 107
abbrev impl_bothOk : Nat := 108
abbrev impl_newBuilding : Nat := 109
abbrev impl_building_add : Nat := 110
abbrev impl_plusExp : Nat := 111
abbrev impl_keyOf : Nat := 112
abbrev impl_building_done : Nat := 113
abbrev slices_Compare_int_int : Nat := 114
abbrev impl_expOk : Nat := 115
abbrev impl_coefOk : Nat := 116
abbrev spec_l2Two : Nat := 117
abbrev spec_l2Divide : Nat := 118
abbrev laws_szQTermS : Nat := 119
abbrev spec_QSumOk : Nat := 120
abbrev spec_l8Shut : Nat := 121
abbrev spec_l8Gather : Nat := 122
abbrev laws_toQTermS : Nat := 123
abbrev impl_QSumOk : Nat := 124
abbrev impl_newQBuilding : Nat := 125
abbrev slices_Concat_impl_QTerm_impl_QTerm : Nat := 126
abbrev impl_qbuilding_add : Nat := 127
abbrev impl_qbuilding_done : Nat := 128
abbrev laws_eqQTermS : Nat := 129
abbrev laws_markQTermS : Nat := 130
abbrev laws_heldQTermS : Nat := 131
abbrev spec_dValues : Nat := 132
abbrev impl_LaurentOk : Nat := 133
abbrev slices_ContainsFunc_int_int : Nat := 134
abbrev impl_EvaluateLaurent_1 : Nat := 135
abbrev impl_residue : Nat := 136
abbrev impl_inverse : Nat := 137
abbrev impl_powerOf : Nat := 138
abbrev spec_l2Right : Nat := 139
abbrev spec_l2Residue : Nat := 140
abbrev spec_l2Power : Nat := 141
abbrev impl_ConstantLaurent : Nat := 142
abbrev laws_szTermS : Nat := 143
abbrev spec_ConstantLaurent : Nat := 144
abbrev spec_MulLaurents : Nat := 145
abbrev laws_toTermS : Nat := 146
abbrev laws_eqTermS : Nat := 147
abbrev laws_markTermS : Nat := 148
abbrev laws_heldTermS : Nat := 149
abbrev spec_DenominatorOf : Nat := 150
abbrev spec_MonomialLaurent : Nat := 151
abbrev impl_DenominatorOf : Nat := 152
abbrev impl_MonomialLaurent : Nat := 153
abbrev spec_dForm : Nat := 154
abbrev spec_dQSum : Nat := 155
abbrev impl_multipliable : Nat := 156
abbrev spec_l2Key : Nat := 157
abbrev spec_l2Shut : Nat := 158
abbrev spec_l2Gather : Nat := 159
abbrev impl_descending : Nat := 160
abbrev spec_l8Two : Nat := 161
abbrev spec_l8Divide : Nat := 162
abbrev laws_szIntS : Nat := 163
abbrev spec_l8Times : Nat := 164
abbrev laws_toIntS : Nat := 165
abbrev spec_l1CopyMatrix : Nat := 166
abbrev spec_l3Unit : Nat := 167
abbrev impl_InitialSeed : Nat := 168
abbrev impl_copySeed : Nat := 169
abbrev laws_eqLaurentS : Nat := 170
abbrev laws_markLaurentS : Nat := 171
abbrev laws_heldLaurentS : Nat := 172
abbrev spec_dFinite : Nat := 173
abbrev spec_dSteps : Nat := 174
abbrev impl_walk : Nat := 175
abbrev impl_FormOf : Nat := 176
abbrev impl_shaped_1 : Nat := 177
abbrev impl_gcd : Nat := 178
abbrev spec_l4Square : Nat := 179
abbrev spec_l8FormOf : Nat := 180
abbrev spec_l1Principal : Nat := 181
abbrev spec_MutateMatrix : Nat := 182
abbrev spec_l1Sizes : Nat := 183
abbrev spec_l1Factors : Nat := 184
abbrev spec_l1At : Nat := 185
abbrev spec_l8Skew : Nat := 186
abbrev spec_l1Byte : Nat := 187
abbrev spec_dExp : Nat := 188
abbrev slices_SortFunc_impl_Term_impl_Term : Nat := 189
abbrev impl_building_done_1 : Nat := 190
abbrev cmp_Compare_int : Nat := 191
abbrev impl_expOk_1 : Nat := 192
abbrev spec_l2Base : Nat := 193
abbrev spec_l2Open : Nat := 194
abbrev spec_l2Least : Nat := 195
abbrev spec_l2Most : Nat := 196
abbrev spec_l2Exp : Nat := 197
abbrev spec_l2Plus : Nat := 198
abbrev spec_l2Times : Nat := 199
abbrev laws_szQTerm : Nat := 200
abbrev spec_l8Less : Nat := 201
abbrev spec_l1Same : Nat := 202
abbrev spec_l1Ints : Nat := 203
abbrev laws_toQTerm : Nat := 204
abbrev slices_Grow_impl_QTerm_impl_QTerm : Nat := 205
abbrev slices_SortFunc_impl_QTerm_impl_QTerm : Nat := 206
abbrev impl_qbuilding_done_1 : Nat := 207
abbrev laws_eqQTerm : Nat := 208
abbrev spec_l1Bit : Nat := 209
abbrev spec_l1Once : Nat := 210
abbrev slices_IndexFunc_int_int : Nat := 211
abbrev spec_l1Less : Nat := 212
abbrev laws_szTerm : Nat := 213
abbrev laws_toTerm : Nat := 214
abbrev laws_eqTerm : Nat := 215
abbrev cmp_Or_int : Nat := 216
abbrev spec_l8Bounds : Nat := 217
abbrev impl_copyLaurent : Nat := 218
abbrev spec_dTree : Nat := 219
abbrev spec_dMoved : Nat := 220
abbrev spec_l1Mutate : Nat := 221
abbrev spec_l1Piece : Nat := 222
abbrev spec_l1Abs : Nat := 223
abbrev spec_l1Gcd : Nat := 224
abbrev slices_pdqsortCmpFunc_impl_Term : Nat := 225
abbrev math_bits_Len : Nat := 226
abbrev cmp_isNaN_int : Nat := 227
abbrev slices_pdqsortCmpFunc_impl_QTerm : Nat := 228
abbrev spec_dZero : Nat := 229
abbrev spec_dJoin : Nat := 230
abbrev spec_FormatInt : Nat := 231
abbrev spec_l1Rename : Nat := 232
abbrev spec_dNames : Nat := 233
abbrev spec_l1Has : Nat := 234
abbrev slices_insertionSortCmpFunc_impl_Term : Nat := 235
abbrev slices_heapSortCmpFunc_impl_Term : Nat := 236
abbrev slices_breakPatternsCmpFunc_impl_Term : Nat := 237
abbrev slices_choosePivotCmpFunc_impl_Term : Nat := 238
abbrev slices_reverseRangeCmpFunc_impl_Term : Nat := 239
abbrev slices_partialInsertionSortCmpFunc_impl_Term : Nat := 240
abbrev slices_partitionEqualCmpFunc_impl_Term : Nat := 241
abbrev slices_partitionCmpFunc_impl_Term : Nat := 242
abbrev math_bits_Len32 : Nat := 243
abbrev math_bits_Len64 : Nat := 244
abbrev slices_insertionSortCmpFunc_impl_QTerm : Nat := 245
abbrev slices_heapSortCmpFunc_impl_QTerm : Nat := 246
abbrev slices_breakPatternsCmpFunc_impl_QTerm : Nat := 247
abbrev slices_choosePivotCmpFunc_impl_QTerm : Nat := 248
abbrev slices_reverseRangeCmpFunc_impl_QTerm : Nat := 249
abbrev slices_partialInsertionSortCmpFunc_impl_QTerm : Nat := 250
abbrev slices_partitionEqualCmpFunc_impl_QTerm : Nat := 251
abbrev slices_partitionCmpFunc_impl_QTerm : Nat := 252
abbrev slices_siftDownCmpFunc_impl_Term : Nat := 253
abbrev slices_nextPowerOfTwo : Nat := 254
abbrev slices_xorshift_Next : Nat := 255
abbrev slices_medianAdjacentCmpFunc_impl_Term : Nat := 256
abbrev slices_medianCmpFunc_impl_Term : Nat := 257
abbrev slices_siftDownCmpFunc_impl_QTerm : Nat := 258
abbrev slices_medianAdjacentCmpFunc_impl_QTerm : Nat := 259
abbrev slices_medianCmpFunc_impl_QTerm : Nat := 260
abbrev slices_order2CmpFunc_impl_Term : Nat := 261
abbrev slices_order2CmpFunc_impl_QTerm : Nat := 262
abbrev runtime_boundsError_Error : Nat := 263
abbrev runtime_boundsError_RuntimeError : Nat := 264
abbrev runtime_errorString_Error : Nat := 265
abbrev runtime_errorString_RuntimeError : Nat := 266
abbrev runtime_plainError_Error : Nat := 267
abbrev runtime_plainError_RuntimeError : Nat := 268
abbrev runtime_errorAddressString_Error : Nat := 269
abbrev runtime_errorAddressString_RuntimeError : Nat := 270
abbrev runtime_TypeAssertionError_Error : Nat := 271
abbrev runtime_TypeAssertionError_RuntimeError : Nat := 272
abbrev runtime_PanicNilError_Error : Nat := 273
abbrev runtime_PanicNilError_RuntimeError : Nat := 274
abbrev internal_abi_Type_Align : Nat := 275
abbrev internal_runtime_maps_unhashableTypeError_Error : Nat := 276
abbrev internal_runtime_maps_unhashableTypeError_RuntimeError : Nat := 277
abbrev internal_abi_Kind_String : Nat := 278
end F
namespace C
noncomputable def spec_l1Ints : Ctx := { P := Try.prog, T := TTab, M := MM, nW := 0, kp := [(0, [0]), (1, [2])], lp := [], pl := [] }
noncomputable def spec_l1CopyMatrix : Ctx := { P := Try.prog, T := TTab, M := MM, nW := 0, kp := [(0, [1, 2]), (1, [2])], lp := [], pl := [(1, .take 0 (.take 1 (.take 2 (.take 3 (.take 4 (.take 5 (.all [(6, .take 7 (.all [(8, .done)]))])))))))] }
noncomputable def spec_l1In : Ctx := { P := Try.prog, T := TTab, M := MM, nW := 0, kp := [(0, [0, 1, 2]), (1, [6])], lp := [], pl := [] }
noncomputable def spec_l1Less : Ctx := { P := Try.prog, T := TTab, M := MM, nW := 0, kp := [(0, [0, 1]), (1, [0, 1, 5]), (2, [0, 1, 5, 15]), (3, [0, 1, 5]), (4, [0, 1, 5, 26]), (5, [4]), (6, [4])], lp := [(0, [0, 1, 5])], pl := [(4, .take 0 (.take 1 (.take 2 (.take 3 (.take 4 (.take 5 (.take 6 (.take 7 (.take 8 (.done)))))))))), (5, .take 0 (.take 1 (.take 2 (.take 3 (.take 4 (.take 5 (.take 6 (.take 7 (.take 8 (.take 9 (.done)))))))))))] }
noncomputable def spec_l2Right : Ctx := { P := Try.prog, T := TTab, M := MM, nW := 0, kp := [(0, [1]), (1, [1, 15]), (2, [2]), (3, [1, 3]), (4, [1, 3, 20]), (5, [1, 3]), (6, [1, 3, 4]), (7, [1, 3, 4, 61]), (8, [2]), (9, [1, 3, 4, 5]), (10, [1, 3, 4, 5, 65]), (11, [1, 3, 4, 5]), (12, [1, 3, 4, 5, 74]), (13, [2]), (14, [2])], lp := [(0, [1, 3]), (2, [1, 3, 4, 5])], pl := [(7, .take 0 (.take 1 (.take 2 (.take 3 (.take 4 (.take 5 (.take 6 (.take 7 (.take 8 (.take 9 (.take 10 (.take 11 (.take 12 (.take 13 (.all [(14, .take 15 (.take 16 (.take 17 (.take 18 (.take 19 (.take 20 (.take 21 (.take 22 (.take 23 (.take 24 (.take 25 (.take 26 (.take 27 (.take 28 (.take 29 (.all [(30, .take 31 (.take 32 (.take 33 (.done))))]))))))))))))))))])))))))))))))))] }
noncomputable def spec_MonomialLaurent : Ctx := { P := Try.prog, T := TTab, M := MM, nW := 0, kp := [(0, [0, 2]), (1, [2, 3]), (2, [2, 3, 13]), (3, [2]), (4, [2])], lp := [], pl := [] }
noncomputable def spec_l3Unit : Ctx := { P := Try.prog, T := TTab, M := MM, nW := 0, kp := [(0, [0, 1]), (1, [1, 5]), (2, [5]), (3, [4])], lp := [], pl := [] }
noncomputable def spec_l3Initial : Ctx := { P := Try.prog, T := TTab, M := MM, nW := 0, kp := [(0, [1, 2]), (1, [1, 2, 3]), (2, [1, 2, 3, 4]), (3, [1, 2, 3, 4, 11]), (4, [1, 2, 3, 4]), (5, [1, 2, 3, 4]), (6, [2])], lp := [(0, [1, 2, 3, 4])], pl := [(5, .take 0 (.take 1 (.take 2 (.take 3 (.take 4 (.all [(5, .all [(6, .all [(7, .all [(8, .take 9 (.all [(10, .done)]))])])])]))))))] }
noncomputable def spec_NewSession : Ctx := { P := Try.prog, T := TTab, M := MM, nW := 0, kp := [(0, [0]), (1, [0, 1]), (2, [0])], lp := [], pl := [(2, .take 0 (.take 2 (.all [(1, .all [(3, .take 4 (.all [(5, .done)]))]), (3, .all [(1, .take 4 (.all [(5, .done)]))])])))] }
noncomputable def impl_within : Ctx := { P := Try.prog, T := TTab, M := MM, nW := 0, kp := [(0, [0, 1, 2]), (1, [6])], lp := [], pl := [] }
noncomputable def slices_IndexFunc_int_int : Ctx := { P := Try.prog, T := TTab, M := MM, nW := 0, kp := [(0, [0, 1]), (1, [0, 1, 7, 8]), (2, [0, 1, 7, 8, 9]), (3, [0, 1, 5, 7, 8]), (4, [0, 1, 5, 7, 8, 16]), (5, [4]), (6, [0, 1, 7, 8]), (7, [4])], lp := [(0, [0, 1, 7, 8])], pl := [] }
noncomputable def slices_ContainsFunc_int_int : Ctx := { P := Try.prog, T := TTab, M := MM, nW := 0, kp := [(0, [0, 1]), (1, [4])], lp := [], pl := [] }
noncomputable def impl_shaped_1 : Ctx := { P := Try.prog, T := TTab, M := MM, nW := 0, kp := [(0, [0]), (1, [2])], lp := [], pl := [] }
noncomputable def impl_shaped : Ctx := { P := Try.prog, T := TTab, M := MM, nW := 0, kp := [(0, [1]), (1, [2])], lp := [], pl := [] }
noncomputable def impl_Matrix_at : Ctx := { P := Try.prog, T := TTab, M := MM, nW := 0, kp := [(0, [1, 2, 3]), (1, [6])], lp := [], pl := [] }
noncomputable def impl_gcd : Ctx := { P := Try.prog, T := TTab, M := MM, nW := 0, kp := [(0, [0, 1]), (1, [0, 1, 6]), (2, [0, 1]), (3, [4])], lp := [(0, [0, 1])], pl := [(2, .take 0 (.take 1 (.take 2 (.take 3 (.take 4 (.take 5 (.done)))))))] }
noncomputable def impl_factors : Ctx := { P := Try.prog, T := TTab, M := MM, nW := 0, kp := [(0, [1]), (1, [1, 3, 4]), (2, [1, 3, 4, 5]), (3, [1, 3, 4, 5, 34, 35]), (4, [1, 3, 4, 5, 34, 35, 36]), (5, [1, 3, 4, 5, 6, 34, 35]), (6, [1, 3, 4, 5, 6, 34, 35, 42]), (7, [1, 3, 4, 5, 6, 34, 35]), (8, [1, 3, 4, 5, 7, 34, 35]), (9, [1, 3, 4, 5, 7, 8, 34, 35]), (10, [1, 3, 4, 5, 7, 8, 34, 35, 54]), (11, [1, 3, 4, 5, 7, 8, 34, 35]), (12, [1, 3, 4, 5, 7, 8, 9, 34, 35]), (13, [1, 3, 4, 5, 7, 8, 9, 34, 35, 62, 63]), (14, [1, 3, 4, 5, 7, 8, 9, 34, 35, 62, 63, 64]), (15, [1, 3, 4, 5, 7, 8, 9, 10, 34, 35, 62, 63]), (16, [1, 3, 4, 5, 7, 8, 9, 10, 11, 12, 34, 35, 62, 63]), (17, [1, 3, 4, 5, 7, 8, 9, 10, 11, 12, 34, 35, 62, 63, 80]), (18, [1, 3, 4, 5, 7, 8, 9, 10, 11, 12, 34, 35, 62, 63, 98]), (19, [2]), (20, [1, 3, 4, 5, 7, 8, 9, 10, 13, 14, 34, 35, 62, 63]), (21, [1, 3, 4, 5, 7, 8, 9, 10, 13, 14, 15, 34, 35, 62, 63]), (22, [1, 3, 4, 5, 7, 8, 9, 10, 13, 14, 34, 35, 62, 63]), (23, [1, 3, 4, 5, 7, 8, 9, 10, 13, 14, 34, 35, 62, 63, 130]), (24, [1, 3, 4, 5, 7, 8, 9, 10, 34, 35, 62, 63]), (25, [1, 3, 4, 5, 7, 8, 9, 34, 35, 62, 63]), (26, [1, 3, 4, 5, 7, 8, 9, 34, 35, 62, 63, 156]), (27, [2]), (28, [1, 3, 4, 5, 7, 8, 9, 34, 35, 62, 63]), (29, [1, 3, 4, 5, 7, 16, 34, 35]), (30, [1, 3, 4, 5, 7, 16, 34, 35, 158, 159, 160]), (31, [1, 3, 4, 5, 7, 16, 34, 35, 158, 159, 160, 161]), (32, [1, 3, 4, 5, 7, 16, 18, 34, 35, 158, 159, 160]), (33, [1, 3, 4, 5, 7, 16, 34, 35, 158, 159, 160]), (34, [1, 3, 4, 5, 7, 16, 34, 35, 158, 159, 160]), (35, [1, 3, 4, 5, 7, 16, 19, 34, 35]), (36, [1, 3, 4, 5, 7, 16, 19, 34, 35, 178, 179, 180]), (37, [1, 3, 4, 5, 7, 16, 19, 34, 35, 178, 179, 180, 181]), (38, [1, 3, 4, 5, 7, 16, 19, 21, 34, 35, 178, 179, 180]), (39, [1, 3, 4, 5, 7, 16, 19, 21, 34, 35, 178, 179, 180]), (40, [1, 3, 4, 5, 7, 16, 19, 34, 35, 178, 179, 180]), (41, [1, 3, 4, 5, 7, 16, 19, 34, 35, 178, 179, 180]), (42, [1, 3, 4, 5, 19, 34, 35, 205, 206, 207]), (43, [1, 3, 4, 5, 19, 34, 35, 205, 206, 207, 208]), (44, [1, 3, 4, 5, 19, 23, 34, 35, 205, 206, 207]), (45, [1, 3, 4, 5, 19, 34, 35, 205, 206, 207]), (46, [1, 3, 4, 5, 19, 34, 35, 205, 206, 207]), (47, [1, 3, 4, 5, 34, 35]), (48, [2])], lp := [(0, [1, 3, 4, 5, 34, 35]), (2, [1, 3, 4, 5, 7, 8, 34, 35]), (4, [1, 3, 4, 5, 7, 8, 9, 34, 35, 62, 63]), (6, [1, 3, 4, 5, 7, 16, 34, 35, 158, 159, 160]), (8, [1, 3, 4, 5, 7, 16, 19, 34, 35, 178, 179, 180]), (10, [1, 3, 4, 5, 19, 34, 35, 205, 206, 207])], pl := [(1, .take 0 (.take 1 (.take 3 (.take 4 (.all [(2, .take 6 (.all [(5, .take 7 (.done))])), (5, .all [(2, .take 6 (.take 7 (.done)))])]))))), (16, .take 0 (.take 1 (.take 2 (.take 4 (.take 5 (.take 6 (.all [(3, .all [(7, .take 8 (.take 9 (.take 10 (.done))))])]))))))), (20, .take 0 (.take 1 (.take 2 (.take 3 (.take 4 (.take 5 (.take 6 (.take 7 (.take 8 (.take 9 (.take 10 (.take 11 (.take 12 (.take 13 (.take 14 (.take 15 (.take 16 (.take 17 (.take 18 (.take 19 (.done))))))))))))))))))))), (22, .take 0 (.take 1 (.take 2 (.take 3 (.take 4 (.take 5 (.take 6 (.take 7 (.done))))))))), (33, .take 0 (.take 1 (.take 2 (.take 3 (.take 4 (.take 5 (.take 8 (.take 9 (.take 10 (.take 11 (.all [(6, .take 7 (.take 12 (.take 13 (.done))))]))))))))))), (39, .take 0 (.take 1 (.take 2 (.take 3 (.take 4 (.take 5 (.take 6 (.take 7 (.take 8 (.take 9 (.take 10 (.take 11 (.take 12 (.take 13 (.all [(14, .done)])))))))))))))))] }
noncomputable def impl_MatrixOk : Ctx := { P := Try.prog, T := TTab, M := MM, nW := 0, kp := [(0, [1]), (1, [2])], lp := [], pl := [] }
noncomputable def slices_Clone_int_int : Ctx := { P := Try.prog, T := TTab, M := MM, nW := 0, kp := [(0, [0]), (1, [0, 4]), (2, [2]), (3, [2])], lp := [], pl := [] }
noncomputable def impl_unit : Ctx := { P := Try.prog, T := TTab, M := MM, nW := 0, kp := [(0, [0, 1]), (1, [1, 5]), (2, [5]), (3, [4])], lp := [], pl := [] }
noncomputable def impl_expOk_1 : Ctx := { P := Try.prog, T := TTab, M := MM, nW := 0, kp := [(0, [0]), (1, [2])], lp := [], pl := [] }
noncomputable def impl_expOk : Ctx := { P := Try.prog, T := TTab, M := MM, nW := 0, kp := [(0, [0, 1]), (1, [4])], lp := [], pl := [] }
noncomputable def impl_MonomialLaurent : Ctx := { P := Try.prog, T := TTab, M := MM, nW := 0, kp := [(0, [0, 2]), (1, [0, 2, 13]), (2, [2]), (3, [2])], lp := [], pl := [] }
noncomputable def impl_InitialSeed : Ctx := { P := Try.prog, T := TTab, M := MM, nW := 0, kp := [(0, [1, 2]), (1, [1, 2, 8]), (2, [2, 3]), (3, [1, 2, 4]), (4, [1, 2, 4, 5]), (5, [1, 2, 4, 5, 22]), (6, [1, 2, 4, 5]), (7, [1, 2, 4, 5]), (8, [2, 3])], lp := [(0, [1, 2, 4, 5])], pl := [(3, .take 0 (.take 1 (.take 2 (.take 3 (.take 4 (.take 5 (.all [(6, .take 7 (.take 8 (.all [(9, .all [(10, .done)])]))), (9, .all [(6, .take 7 (.take 8 (.all [(10, .done)])))])]))))))), (7, .take 0 (.take 1 (.take 2 (.take 3 (.take 4 (.all [(5, .all [(6, .all [(7, .all [(8, .take 9 (.all [(10, .done)]))])])])]))))))] }
noncomputable def impl_copyLaurent : Ctx := { P := Try.prog, T := TTab, M := MM, nW := 0, kp := [(0, [1, 2]), (1, [1, 2, 3]), (2, [2, 3, 10, 11, 12]), (3, [2, 3, 10, 11, 12, 13]), (4, [2, 3, 5, 10, 11, 12]), (5, [2, 3, 10, 11, 12]), (6, [2, 3, 10, 11, 12]), (7, [2])], lp := [(0, [2, 3, 10, 11, 12])], pl := [(5, .take 0 (.take 1 (.take 2 (.take 3 (.take 5 (.take 6 (.all [(4, .take 7 (.all [(8, .all [(9, .take 10 (.all [(11, .done)]))])]))])))))))] }
noncomputable def impl_copySeed : Ctx := { P := Try.prog, T := TTab, M := MM, nW := 0, kp := [(0, [1, 2]), (1, [1, 2, 3]), (2, [2, 3, 19, 20, 21]), (3, [2, 3, 19, 20, 21, 22]), (4, [2, 3, 5, 19, 20, 21]), (5, [2, 3, 19, 20, 21]), (6, [2, 3, 19, 20, 21]), (7, [2])], lp := [(0, [2, 3, 19, 20, 21])], pl := [(1, .take 0 (.take 1 (.take 2 (.take 3 (.take 4 (.take 5 (.take 6 (.take 7 (.take 8 (.all [(9, .take 10 (.take 11 (.all [(12, .all [(13, .done)])]))), (12, .all [(9, .take 10 (.take 11 (.all [(13, .done)])))])])))))))))), (5, .take 0 (.take 1 (.take 2 (.all [(3, .all [(4, .all [(5, .take 6 (.all [(7, .done)]))])])]))))] }
noncomputable def impl_started : Ctx := { P := Try.prog, T := TTab, M := MM, nW := 0, kp := [(0, [1, 2]), (1, [2, 4, 5]), (2, [2, 3])], lp := [], pl := [(2, .take 0 (.take 1 (.take 2 (.take 5 (.all [(3, .take 4 (.all [(6, .take 7 (.done))]))])))))] }
noncomputable def impl_NewSession : Ctx := { P := Try.prog, T := TTab, M := MM, nW := 0, kp := [(0, [0]), (1, [0, 1]), (2, [0])], lp := [], pl := [] }
noncomputable def laws_eqIntS : Ctx := { P := Try.prog, T := TTab, M := MM, nW := 0, kp := [(0, [0, 1]), (1, [0, 1, 10]), (2, [4]), (3, [0, 1, 5]), (4, [0, 1, 5, 14]), (5, [0, 1, 5]), (6, [0, 1, 5, 25]), (7, [4]), (8, [4])], lp := [(0, [0, 1, 5])], pl := [(6, .take 0 (.take 1 (.take 2 (.take 3 (.take 4 (.take 5 (.take 6 (.take 7 (.take 8 (.done))))))))))] }
noncomputable def laws_eqMatrix : Ctx := { P := Try.prog, T := TTab, M := MM, nW := 0, kp := [(0, [2, 3]), (1, [2, 3, 9]), (2, [4]), (3, [2, 3, 14]), (4, [4]), (5, [20]), (6, [4]), (7, [4])], lp := [], pl := [] }
noncomputable def laws_eqTerm : Ctx := { P := Try.prog, T := TTab, M := MM, nW := 0, kp := [(0, [2, 3]), (1, [2, 3, 10]), (2, [4]), (3, [15]), (4, [4]), (5, [4])], lp := [], pl := [] }
noncomputable def laws_eqTermS : Ctx := { P := Try.prog, T := TTab, M := MM, nW := 0, kp := [(0, [0, 1]), (1, [0, 1, 10]), (2, [4]), (3, [0, 1, 5]), (4, [0, 1, 5, 14]), (5, [0, 1, 5]), (6, [0, 1, 5, 26]), (7, [4]), (8, [4])], lp := [(0, [0, 1, 5])], pl := [(6, .take 0 (.take 1 (.take 2 (.take 3 (.take 4 (.take 5 (.take 6 (.take 7 (.all [(8, .take 9 (.done))])))))))))] }
noncomputable def laws_eqLaurent : Ctx := { P := Try.prog, T := TTab, M := MM, nW := 0, kp := [(0, [2, 3]), (1, [2, 3, 9]), (2, [4]), (3, [15]), (4, [4]), (5, [4])], lp := [], pl := [] }
noncomputable def laws_eqLaurentS : Ctx := { P := Try.prog, T := TTab, M := MM, nW := 0, kp := [(0, [0, 1]), (1, [0, 1, 10]), (2, [4]), (3, [0, 1, 5]), (4, [0, 1, 5, 14]), (5, [0, 1, 5]), (6, [0, 1, 5, 26]), (7, [4]), (8, [4])], lp := [(0, [0, 1, 5])], pl := [(6, .take 0 (.take 1 (.take 2 (.take 3 (.take 4 (.take 5 (.take 6 (.take 7 (.all [(8, .take 9 (.done))])))))))))] }
noncomputable def laws_eqSeed : Ctx := { P := Try.prog, T := TTab, M := MM, nW := 0, kp := [(0, [2, 3]), (1, [2, 3, 10]), (2, [4]), (3, [16]), (4, [4]), (5, [4])], lp := [], pl := [] }
noncomputable def laws_eqSession : Ctx := { P := Try.prog, T := TTab, M := MM, nW := 0, kp := [(0, [2, 3]), (1, [2, 3, 10]), (2, [4]), (3, [2, 3, 16]), (4, [4]), (5, [22]), (6, [4]), (7, [4])], lp := [], pl := [] }
noncomputable def laws_markIntS : Ctx := { P := Try.prog, T := TTab, M := MM, nW := 1, kp := [(0, [0, 1]), (1, [0, 1, 5]), (2, [0, 1, 5, 9]), (3, [0, 1, 5]), (4, [0, 1, 5]), (5, [0, 1, 5]), (6, [4])], lp := [(0, [0, 1, 5])], pl := [] }
noncomputable def laws_markMatrix : Ctx := { P := Try.prog, T := TTab, M := MM, nW := 1, kp := [(0, [1, 2]), (1, [1]), (2, [4])], lp := [], pl := [] }
noncomputable def laws_markTermS : Ctx := { P := Try.prog, T := TTab, M := MM, nW := 1, kp := [(0, [0, 1]), (1, [0, 1, 5]), (2, [0, 1, 5, 9]), (3, [0, 1, 5]), (4, [0, 1, 5]), (5, [0, 1, 5]), (6, [0, 1, 5]), (7, [4])], lp := [(0, [0, 1, 5])], pl := [] }
noncomputable def laws_markLaurentS : Ctx := { P := Try.prog, T := TTab, M := MM, nW := 1, kp := [(0, [0, 1]), (1, [0, 1, 5]), (2, [0, 1, 5, 9]), (3, [0, 1, 5]), (4, [0, 1, 5]), (5, [0, 1, 5]), (6, [0, 1, 5]), (7, [4])], lp := [(0, [0, 1, 5])], pl := [] }
noncomputable def laws_markSeed : Ctx := { P := Try.prog, T := TTab, M := MM, nW := 2, kp := [(0, [1, 2]), (1, [1, 2]), (2, [1]), (3, [4])], lp := [], pl := [] }
noncomputable def laws_markSession : Ctx := { P := Try.prog, T := TTab, M := MM, nW := 4, kp := [(0, [1, 2]), (1, [1, 2]), (2, [1, 2]), (3, [1]), (4, [4])], lp := [], pl := [], fb := [2] }
noncomputable def laws_heldIntS : Ctx := { P := Try.prog, T := TTab, M := MM, nW := 0, kp := [(0, [0, 1]), (1, [0, 1, 5]), (2, [0, 1, 5, 9]), (3, [0, 1, 5]), (4, [0, 1, 5, 17]), (5, [4]), (6, [0, 1, 5]), (7, [4])], lp := [(0, [0, 1, 5])], pl := [] }
noncomputable def laws_heldMatrix : Ctx := { P := Try.prog, T := TTab, M := MM, nW := 0, kp := [(0, [1, 2]), (1, [1]), (2, [1, 10]), (3, [4]), (4, [4])], lp := [], pl := [] }
noncomputable def laws_heldTermS : Ctx := { P := Try.prog, T := TTab, M := MM, nW := 0, kp := [(0, [0, 1]), (1, [0, 1, 5]), (2, [0, 1, 5, 9]), (3, [0, 1, 5]), (4, [0, 1, 5]), (5, [0, 1, 5, 20]), (6, [4]), (7, [0, 1, 5, 27]), (8, [4]), (9, [0, 1, 5]), (10, [4])], lp := [(0, [0, 1, 5])], pl := [] }
noncomputable def laws_heldLaurentS : Ctx := { P := Try.prog, T := TTab, M := MM, nW := 0, kp := [(0, [0, 1]), (1, [0, 1, 5]), (2, [0, 1, 5, 9]), (3, [0, 1, 5]), (4, [0, 1, 5, 18]), (5, [4]), (6, [0, 1, 5]), (7, [0, 1, 5]), (8, [0, 1, 5, 29]), (9, [4]), (10, [4])], lp := [(0, [0, 1, 5])], pl := [] }
noncomputable def laws_heldSeed : Ctx := { P := Try.prog, T := TTab, M := MM, nW := 0, kp := [(0, [1, 2]), (1, [1, 2]), (2, [1, 2, 10]), (3, [4]), (4, [1]), (5, [1, 16]), (6, [4]), (7, [4])], lp := [], pl := [] }
noncomputable def laws_heldSession : Ctx := { P := Try.prog, T := TTab, M := MM, nW := 0, kp := [(0, [1, 2]), (1, [1, 2]), (2, [1, 2, 10]), (3, [4]), (4, [1, 2]), (5, [1, 2, 16]), (6, [4]), (7, [1]), (8, [1, 22]), (9, [4]), (10, [4])], lp := [], pl := [] }
noncomputable def laws_FnExactNewSession : Ctx := { P := Try.prog, T := TTab, M := MM, nW := 0, kp := [(0, []), (1, [1]), (2, [1, 2]), (3, [1, 2, 11]), (4, [0]), (5, [1, 2, 3]), (6, [1, 2, 3]), (7, [1, 2, 3, 4]), (8, [1, 2, 3, 4]), (9, [1, 2, 3, 4, 19]), (10, [0]), (11, [1, 2, 3, 22]), (12, [0]), (13, [1, 2, 3, 5]), (14, [2, 3, 27]), (15, [0]), (16, [2, 3, 4]), (17, [3, 4]), (18, [3, 4, 32]), (19, [0]), (20, [35]), (21, [0]), (22, [0])], lp := [], pl := [], fb := [2] }
noncomputable def spec_l1Same : Ctx := { P := Try.prog, T := TTab, M := MM, nW := 0, kp := [(0, [0, 1]), (1, [0, 1, 10]), (2, [4]), (3, [0, 1, 5]), (4, [0, 1, 5, 14]), (5, [0, 1, 5]), (6, [0, 1, 5, 25]), (7, [4]), (8, [4])], lp := [(0, [0, 1, 5])], pl := [(6, .take 0 (.take 1 (.take 2 (.take 3 (.take 4 (.take 5 (.take 6 (.take 7 (.take 8 (.done))))))))))] }
noncomputable def laws_szIntS : Ctx := { P := Try.prog, T := TTab, M := MM, nW := 0, kp := [(0, [0, 1]), (1, [1]), (2, [1, 10]), (3, [4]), (4, [4])], lp := [], pl := [] }
noncomputable def laws_szTerm : Ctx := { P := Try.prog, T := TTab, M := MM, nW := 0, kp := [(0, [1, 2]), (1, [1]), (2, [1, 10]), (3, [4]), (4, [4])], lp := [], pl := [] }
noncomputable def laws_szTermS : Ctx := { P := Try.prog, T := TTab, M := MM, nW := 0, kp := [(0, [0, 1]), (1, [0, 1]), (2, [0, 1, 11]), (3, [4]), (4, [0, 1, 5]), (5, [0, 1, 5, 15]), (6, [0, 1, 5]), (7, [0, 1, 5]), (8, [0, 1, 5, 25]), (9, [4]), (10, [4])], lp := [(0, [0, 1, 5])], pl := [] }
noncomputable def laws_szLaurent : Ctx := { P := Try.prog, T := TTab, M := MM, nW := 0, kp := [(0, [1, 2]), (1, [1]), (2, [1, 10]), (3, [4]), (4, [4])], lp := [], pl := [] }
noncomputable def laws_toIntS : Ctx := { P := Try.prog, T := TTab, M := MM, nW := 0, kp := [(0, [0]), (1, [0, 3]), (2, [0, 3, 4]), (3, [0, 3, 4, 11]), (4, [0, 3, 4]), (5, [0, 3, 4]), (6, [2])], lp := [(0, [0, 3, 4])], pl := [] }
noncomputable def laws_toTerm : Ctx := { P := Try.prog, T := TTab, M := MM, nW := 0, kp := [(0, [1, 2]), (1, [1, 2, 3]), (2, [1, 2, 3]), (3, [2, 3]), (4, [2])], lp := [], pl := [] }
noncomputable def laws_toTermS : Ctx := { P := Try.prog, T := TTab, M := MM, nW := 0, kp := [(0, [0]), (1, [0, 3]), (2, [0, 3, 4]), (3, [0, 3, 4, 11]), (4, [0, 3, 4]), (5, [0, 3, 4]), (6, [2])], lp := [(0, [0, 3, 4])], pl := [] }
noncomputable def laws_toLaurent : Ctx := { P := Try.prog, T := TTab, M := MM, nW := 0, kp := [(0, [1, 2]), (1, [1, 2, 3]), (2, [1, 2, 3]), (3, [2, 3]), (4, [2])], lp := [], pl := [] }
noncomputable def laws_markLaurent : Ctx := { P := Try.prog, T := TTab, M := MM, nW := 1, kp := [(0, [1, 2]), (1, [1]), (2, [4])], lp := [], pl := [] }
noncomputable def laws_heldLaurent : Ctx := { P := Try.prog, T := TTab, M := MM, nW := 0, kp := [(0, [1, 2]), (1, [1]), (2, [1, 10]), (3, [4]), (4, [4])], lp := [], pl := [] }
noncomputable def spec_l2Two : Ctx := { P := Try.prog, T := TTab, M := MM, nW := 0, kp := [(0, [2, 3]), (1, [4])], lp := [], pl := [] }
noncomputable def spec_l2Exp : Ctx := { P := Try.prog, T := TTab, M := MM, nW := 0, kp := [(0, [0, 1]), (1, [0, 1, 5]), (2, [0, 5, 6]), (3, [0, 5, 6, 12]), (4, [0, 5, 6]), (5, [0, 5, 6]), (6, [0, 5, 6]), (7, [4])], lp := [(0, [0, 5, 6])], pl := [] }
noncomputable def spec_l2Shut : Ctx := { P := Try.prog, T := TTab, M := MM, nW := 0, kp := [(0, [0, 1, 4]), (1, [0, 1, 4, 10]), (2, [4, 5]), (3, [0, 1, 4, 6]), (4, [0, 1, 4, 6, 7]), (5, [0, 1, 4, 6, 7, 18]), (6, [0, 1, 4, 6, 7]), (7, [0, 1, 4, 6, 7]), (8, [4, 6, 41]), (9, [4, 5]), (10, [4, 5])], lp := [(0, [0, 1, 4, 6, 7])], pl := [(7, .take 0 (.take 1 (.take 2 (.take 3 (.take 4 (.take 5 (.take 6 (.take 7 (.take 9 (.take 10 (.take 11 (.take 12 (.take 13 (.all [(8, .take 14 (.all [(15, .all [(16, .take 17 (.all [(18, .done)]))])]))]))))))))))))))] }
noncomputable def spec_l2Key : Ctx := { P := Try.prog, T := TTab, M := MM, nW := 0, kp := [(0, [0]), (1, [0, 3]), (2, [0, 3, 4]), (3, [0, 3, 4, 8]), (4, [0, 3, 4]), (5, [0, 3, 4]), (6, [2])], lp := [(0, [0, 3, 4])], pl := [] }
noncomputable def spec_l2Base : Ctx := { P := Try.prog, T := TTab, M := MM, nW := 0, kp := [(0, [0]), (1, [2])], lp := [], pl := [] }
noncomputable def spec_l2Open : Ctx := { P := Try.prog, T := TTab, M := MM, nW := 0, kp := [(0, [1]), (1, [1, 3]), (2, [1, 3, 4]), (3, [1, 3, 4, 10]), (4, [1, 3, 4]), (5, [1, 3, 4]), (6, [2])], lp := [(0, [1, 3, 4])], pl := [(5, .take 0 (.take 1 (.take 2 (.take 3 (.take 4 (.take 5 (.take 6 (.take 8 (.take 9 (.take 10 (.take 11 (.take 12 (.take 13 (.all [(7, .take 14 (.all [(15, .all [(16, .take 17 (.done))])]))]))))))))))))))] }
noncomputable def spec_l2Gather : Ctx := { P := Try.prog, T := TTab, M := MM, nW := 0, kp := [(0, [0]), (1, [3]), (2, [3, 4]), (3, [3, 4, 19]), (4, [3, 4]), (5, [3, 4, 5]), (6, [3, 4, 5, 6]), (7, [3, 4, 5, 6, 28]), (8, [3, 4, 5, 6]), (9, [3, 4, 5, 6, 7]), (10, [3, 4, 5, 6, 7, 8]), (11, [3, 4, 5, 6, 7, 8, 9]), (12, [3, 4, 5, 6, 7, 8, 9, 10]), (13, [3, 4, 5, 6, 7, 8, 9, 10, 55]), (14, [3, 4, 5, 6, 7, 8, 9, 10, 76]), (15, [3, 4, 5, 6, 7, 8, 9, 10]), (16, [3, 4, 5, 6, 7, 8, 9, 10]), (17, [3, 4, 5, 6, 7, 8, 9, 10]), (18, [3, 4, 5, 6, 7, 8, 9, 10]), (19, [3, 4]), (20, [3, 11]), (21, [3, 11, 12]), (22, [3, 11, 12, 100]), (23, [3, 11, 12]), (24, [3, 11, 12, 120]), (25, [3, 11, 12]), (26, [3, 11, 12]), (27, [3, 11, 12, 165]), (28, [3, 11, 12, 173]), (29, [3, 11, 12]), (30, [2])], lp := [(0, [3, 4]), (2, [3, 4, 5, 6]), (4, [3, 4, 5, 6, 7, 8, 9, 10]), (6, [3, 11, 12])], pl := [(14, .take 0 (.take 1 (.take 2 (.take 3 (.take 4 (.take 5 (.take 6 (.take 7 (.take 8 (.take 9 (.take 10 (.take 11 (.take 12 (.take 13 (.take 14 (.take 15 (.take 16 (.take 17 (.take 18 (.take 19 (.take 20 (.done)))))))))))))))))))))), (24, .take 0 (.take 1 (.take 2 (.take 3 (.take 4 (.take 5 (.take 6 (.take 7 (.take 8 (.take 9 (.take 10 (.take 11 (.take 12 (.take 13 (.take 14 (.take 15 (.take 16 (.take 17 (.done))))))))))))))))))), (25, .take 0 (.take 1 (.take 2 (.take 3 (.take 4 (.take 5 (.take 6 (.take 7 (.take 8 (.take 9 (.take 10 (.take 11 (.take 12 (.take 13 (.take 14 (.take 15 (.take 16 (.take 17 (.take 18 (.all [(19, .done)])))))))))))))))))))), (27, .take 0 (.take 1 (.take 2 (.take 3 (.take 4 (.take 5 (.take 6 (.take 7 (.take 8 (.take 9 (.take 10 (.take 11 (.take 12 (.take 13 (.take 14 (.take 15 (.take 16 (.take 17 (.take 18 (.done))))))))))))))))))))] }
noncomputable def spec_l2Times : Ctx := { P := Try.prog, T := TTab, M := MM, nW := 0, kp := [(0, [0, 1, 2]), (1, [0, 1, 2, 7]), (2, [0, 1, 2, 7, 8]), (3, [0, 1, 2, 7, 8, 19]), (4, [0, 1, 2, 7, 8]), (5, [0, 1, 2, 7, 8, 9]), (6, [0, 1, 2, 7, 8, 9, 25]), (7, [0, 1, 2, 7, 8, 9]), (8, [0, 1, 2, 7, 8, 9]), (9, [6])], lp := [(0, [0, 1, 2, 7, 8]), (2, [0, 1, 2, 7, 8, 9])], pl := [(8, .take 0 (.take 1 (.take 2 (.take 3 (.take 4 (.take 5 (.take 6 (.take 7 (.take 8 (.take 9 (.take 10 (.take 11 (.take 12 (.take 13 (.take 14 (.take 15 (.take 16 (.take 17 (.take 18 (.take 19 (.take 20 (.take 21 (.take 22 (.take 23 (.take 24 (.take 25 (.all [(26, .all [(27, .take 28 (.done))])])))))))))))))))))))))))))))] }
noncomputable def spec_MulLaurents : Ctx := { P := Try.prog, T := TTab, M := MM, nW := 0, kp := [(0, [2, 3, 4]), (1, [2, 3, 4, 9]), (2, [4, 5]), (3, [4, 5])], lp := [], pl := [(3, .take 0 (.take 2 (.take 4 (.take 5 (.take 8 (.take 9 (.all [(1, .all [(3, .all [(6, .all [(7, .all [(10, .take 11 (.take 12 (.all [(13, .take 14 (.done))])))])])])])])))))))] }
noncomputable def spec_l2Least : Ctx := { P := Try.prog, T := TTab, M := MM, nW := 0, kp := [(0, [1]), (1, [1, 3]), (2, [1, 3, 4]), (3, [1, 3, 4, 16]), (4, [1, 3, 4]), (5, [1, 3, 4, 5]), (6, [1, 3, 4, 5, 22]), (7, [1, 3, 4, 5]), (8, [1, 3, 4, 5]), (9, [2])], lp := [(0, [1, 3, 4]), (2, [1, 3, 4, 5])], pl := [(8, .take 0 (.take 1 (.take 2 (.take 3 (.take 4 (.take 5 (.take 6 (.take 7 (.take 8 (.take 9 (.take 10 (.take 11 (.take 12 (.take 13 (.take 14 (.take 15 (.take 16 (.all [(17, .done)]))))))))))))))))))] }
noncomputable def spec_DenominatorOf : Ctx := { P := Try.prog, T := TTab, M := MM, nW := 0, kp := [(0, [1]), (1, [1, 13]), (2, [2]), (3, [1, 3]), (4, [1, 3, 4]), (5, [1, 3, 4, 19]), (6, [1, 3, 4]), (7, [1, 3, 4]), (8, [2])], lp := [(0, [1, 3, 4])], pl := [] }
noncomputable def spec_NumeratorOf : Ctx := { P := Try.prog, T := TTab, M := MM, nW := 0, kp := [(0, [1, 2]), (1, [1, 2, 4]), (2, [1, 2, 4, 9]), (3, [2, 3]), (4, [2, 3])], lp := [], pl := [(4, .take 0 (.take 1 (.all [(2, .all [(3, .take 4 (.take 5 (.all [(6, .take 7 (.done))])))])])))] }
noncomputable def cmp_isNaN_int : Ctx := { P := Try.prog, T := TTab, M := MM, nW := 0, kp := [(0, [0]), (1, [2])], lp := [], pl := [] }
noncomputable def cmp_Compare_int : Ctx := { P := Try.prog, T := TTab, M := MM, nW := 0, kp := [(0, [0, 1]), (1, [0, 1, 5]), (2, [0, 1, 5, 6]), (3, [0, 1, 6, 11]), (4, [12]), (5, [4]), (6, [4]), (7, [0, 1, 13]), (8, [4]), (9, [0, 1, 16]), (10, [4]), (11, [19]), (12, [4]), (13, [4])], lp := [], pl := [] }
noncomputable def slices_Compare_int_int : Ctx := { P := Try.prog, T := TTab, M := MM, nW := 0, kp := [(0, [0, 1]), (1, [0, 1, 9, 10, 11]), (2, [0, 1, 9, 10, 11, 12]), (3, [0, 1, 5, 6, 9, 10, 11]), (4, [0, 1, 5, 6, 9, 10, 11, 19]), (5, [4]), (6, [0, 1, 6, 7, 9, 10, 11]), (7, [0, 1, 8, 9, 10, 11]), (8, [0, 1, 8, 9, 10, 11, 28]), (9, [4]), (10, [0, 1, 9, 10, 11]), (11, [35]), (12, [4]), (13, [4])], lp := [(0, [0, 1, 9, 10, 11])], pl := [] }
noncomputable def impl_coefOk : Ctx := { P := Try.prog, T := TTab, M := MM, nW := 0, kp := [(0, [0]), (1, [2])], lp := [], pl := [] }
noncomputable def impl_LaurentOk : Ctx := { P := Try.prog, T := TTab, M := MM, nW := 0, kp := [(0, [1]), (1, [1, 14]), (2, [2]), (3, [1, 16, 17, 18]), (4, [1, 16, 17, 18, 19]), (5, [1, 3, 4, 16, 17, 18]), (6, [1, 16, 17, 18, 51]), (7, [2]), (8, [1, 16, 17, 18]), (9, [2])], lp := [(0, [1, 16, 17, 18])], pl := [(6, .take 0 (.take 1 (.take 2 (.take 3 (.all [(4, .take 5 (.take 6 (.take 7 (.take 8 (.all [(9, .take 10 (.take 11 (.take 12 (.take 13 (.take 14 (.take 15 (.take 16 (.take 17 (.take 18 (.take 19 (.take 20 (.take 21 (.take 22 (.take 23 (.take 24 (.all [(25, .take 26 (.take 27 (.take 28 (.done))))]))))))))))))))))])))))])))))] }
noncomputable def impl_bothOk : Ctx := { P := Try.prog, T := TTab, M := MM, nW := 0, kp := [(0, [2, 3]), (1, [4])], lp := [], pl := [] }
noncomputable def impl_newBuilding : Ctx := { P := Try.prog, T := TTab, M := MM, nW := 0, kp := [(0, [0]), (1, [2])], lp := [], pl := [] }
noncomputable def impl_building_add : Ctx := { P := Try.prog, T := TTab, M := MM, nW := 1, kp := [(0, [0, 2, 4]), (1, [0, 2, 4]), (2, [0, 2, 4, 15]), (3, []), (4, [])], lp := [], pl := [(1, .take 0 (.take 1 (.take 2 (.take 3 (.take 4 (.take 5 (.take 6 (.take 7 (.take 8 (.done)))))))))), (3, .take 0 (.take 1 (.take 2 (.take 3 (.take 4 (.all [(5, .done)])))))), (4, .take 0 (.take 1 (.take 2 (.take 3 (.take 4 (.take 5 (.all [(6, .done)])))))))] }
noncomputable def impl_plusExp : Ctx := { P := Try.prog, T := TTab, M := MM, nW := 0, kp := [(0, [1, 3, 5, 6]), (1, [1, 3, 5, 6, 8]), (2, [1, 3, 5, 6, 8, 9]), (3, [1, 3, 5, 6, 7, 8]), (4, [1, 3, 5, 6, 8]), (5, [1, 3, 5, 6, 8]), (6, [6])], lp := [(0, [1, 3, 5, 6, 8])], pl := [(4, .take 0 (.take 1 (.take 2 (.take 3 (.take 4 (.take 5 (.take 6 (.take 7 (.take 8 (.take 9 (.all [(10, .done)])))))))))))] }
noncomputable def impl_keyOf : Ctx := { P := Try.prog, T := TTab, M := MM, nW := 0, kp := [(0, [0, 2]), (1, [0, 2, 3]), (2, [2, 3]), (3, [2])], lp := [], pl := [] }
noncomputable def slices_SortFunc_impl_Term_impl_Term : Ctx := { P := Try.prog, T := TTab, M := MM, nW := 0, kp := [(0, [0, 1, 4]), (1, [])], lp := [], pl := [] }
noncomputable def impl_building_done_1 : Ctx := { P := Try.prog, T := TTab, M := MM, nW := 0, kp := [(0, [2, 3]), (1, [4])], lp := [], pl := [] }
noncomputable def impl_building_done : Ctx := { P := Try.prog, T := TTab, M := MM, nW := 1, kp := [(0, [0, 2]), (1, [0, 2, 4]), (2, [0, 2, 4, 17]), (3, [2, 3]), (4, [0, 2, 4, 23]), (5, [0, 2, 4, 23, 25]), (6, [0, 2, 4, 5, 6, 23]), (7, [0, 2, 4, 23]), (8, [2, 4]), (9, [2, 4, 47]), (10, [2, 3]), (11, [2, 3])], lp := [(0, [0, 2, 4, 23])], pl := [(7, .take 0 (.take 1 (.take 2 (.take 3 (.take 4 (.take 5 (.take 6 (.take 8 (.all [(7, .take 9 (.all [(10, .all [(11, .take 12 (.all [(13, .done)]))])]))])))))))))] }
noncomputable def impl_MulLaurents : Ctx := { P := Try.prog, T := TTab, M := MM, nW := 0, kp := [(0, [2, 3, 4]), (1, [2, 3, 4, 14]), (2, [4, 5]), (3, [2, 3, 4, 6]), (4, [3, 4, 6, 20, 21, 22]), (5, [3, 4, 6, 20, 21, 22, 23]), (6, [3, 4, 6, 8, 20, 21, 22]), (7, [3, 4, 6, 8, 20, 21, 22, 27, 28, 29]), (8, [3, 4, 6, 8, 20, 21, 22, 27, 28, 29, 30]), (9, [3, 4, 6, 8, 10, 20, 21, 22, 27, 28, 29]), (10, [3, 4, 6, 8, 20, 21, 22, 27, 28, 29]), (11, [3, 4, 6, 8, 20, 21, 22, 27, 28, 29]), (12, [3, 4, 6, 20, 21, 22]), (13, [4, 5])], lp := [(0, [3, 4, 6, 20, 21, 22]), (2, [3, 4, 6, 8, 20, 21, 22, 27, 28, 29])], pl := [(10, .take 0 (.take 1 (.take 2 (.take 4 (.take 5 (.take 8 (.take 9 (.take 10 (.take 11 (.take 12 (.all [(3, .all [(6, .all [(7, .all [(13, .done)])])])])))))))))))] }
noncomputable def impl_DenominatorOf : Ctx := { P := Try.prog, T := TTab, M := MM, nW := 0, kp := [(0, [1]), (1, [1, 16]), (2, [2]), (3, [1, 3]), (4, [1, 3, 21, 22]), (5, [1, 3, 21, 22, 23]), (6, [1, 3, 4, 21, 22]), (7, [1, 3, 4, 5, 21, 22]), (8, [1, 3, 4, 5, 21, 22, 26, 27, 28]), (9, [1, 3, 4, 5, 21, 22, 26, 27, 28, 29]), (10, [1, 3, 4, 5, 7, 21, 22, 26, 27, 28]), (11, [1, 3, 4, 5, 21, 22, 26, 27, 28]), (12, [1, 3, 4, 5, 21, 22, 26, 27, 28]), (13, [1, 3, 21, 22]), (14, [1, 3, 21, 22]), (15, [2])], lp := [(0, [1, 3, 21, 22]), (2, [1, 3, 4, 5, 21, 22, 26, 27, 28])], pl := [] }
noncomputable def impl_NumeratorOf : Ctx := { P := Try.prog, T := TTab, M := MM, nW := 0, kp := [(0, [1, 2]), (1, [1, 2, 4]), (2, [1, 2, 4, 8]), (3, [2, 3]), (4, [2, 3])], lp := [], pl := [(4, .take 0 (.take 1 (.all [(2, .all [(3, .take 4 (.take 5 (.all [(6, .take 7 (.done))])))])])))] }
noncomputable def laws_FnExactNumeratorOf : Ctx := { P := Try.prog, T := TTab, M := MM, nW := 0, kp := [(0, [1]), (1, [1, 3]), (2, [1, 3]), (3, [1, 18]), (4, [2]), (5, [1, 4, 5]), (6, [1, 4, 5, 6]), (7, [1, 4, 5, 6, 7, 8]), (8, [1, 4, 5, 6, 7, 8, 40]), (9, [2]), (10, [1, 4, 5, 6, 7, 8, 45]), (11, [2]), (12, [1, 4, 5, 6, 7, 8, 9]), (13, [1, 4, 5, 7, 8, 9]), (14, [1, 4, 5, 7, 61]), (15, [2]), (16, [1, 4, 5, 7, 10]), (17, [1, 4, 5, 7, 10]), (18, [1, 4, 5, 7, 10, 11]), (19, [1, 4, 5, 7, 10, 11]), (20, [1, 4, 5, 7, 10, 11, 69]), (21, [2]), (22, [1, 4, 5, 7, 10, 72]), (23, [2]), (24, [4, 5, 7, 10, 12, 13]), (25, [7, 10, 87]), (26, [2]), (27, [7, 10, 11]), (28, [10, 11]), (29, [10, 11, 92]), (30, [2]), (31, [95]), (32, [2]), (33, [2])], lp := [], pl := [(10, .take 0 (.take 1 (.all [(2, .all [(3, .take 4 (.done))])])))] }
noncomputable def impl_ConstantLaurent : Ctx := { P := Try.prog, T := TTab, M := MM, nW := 0, kp := [(0, [0, 1, 4]), (1, [0, 1, 4, 12]), (2, [4]), (3, [0, 1, 4, 15]), (4, [4]), (5, [4])], lp := [], pl := [] }
noncomputable def impl_PowerLaurent : Ctx := { P := Try.prog, T := TTab, M := MM, nW := 0, kp := [(0, [1, 2, 4]), (1, [1, 2, 4, 15]), (2, [4, 5]), (3, [1, 2, 4, 6]), (4, [1, 2, 4, 6]), (5, [1, 2, 4, 6, 21]), (6, [1, 2, 4, 6]), (7, [1, 2, 4, 6, 7]), (8, [1, 2, 4, 6, 31]), (9, [4, 5]), (10, [4, 5])], lp := [(0, [1, 2, 4, 6])], pl := [] }
noncomputable def spec_ConstantLaurent : Ctx := { P := Try.prog, T := TTab, M := MM, nW := 0, kp := [(0, [0, 1, 4]), (1, [0, 1, 4, 12]), (2, [4]), (3, [0, 1, 4, 15]), (4, [4]), (5, [4])], lp := [], pl := [] }
noncomputable def spec_PowerLaurent : Ctx := { P := Try.prog, T := TTab, M := MM, nW := 0, kp := [(0, [1, 2, 4]), (1, [1, 2, 4, 17]), (2, [4, 5]), (3, [1, 2, 4, 6]), (4, [1, 2, 4, 6, 7]), (5, [1, 2, 4, 6, 7, 24]), (6, [1, 2, 4, 6, 7]), (7, [1, 2, 4, 6, 7, 8, 9]), (8, [1, 2, 4, 6, 7, 8, 34]), (9, [4, 5]), (10, [1, 2, 4, 6, 7]), (11, [4, 5])], lp := [(0, [1, 2, 4, 6, 7])], pl := [] }
noncomputable def laws_FnExactPowerLaurent : Ctx := { P := Try.prog, T := TTab, M := MM, nW := 0, kp := [(0, [1, 2]), (1, [1, 2, 5]), (2, [1, 2, 5]), (3, [1, 2, 20]), (4, [4]), (5, [1, 2, 6, 7]), (6, [1, 2, 6, 7, 8]), (7, [1, 2, 6, 7, 8, 9, 10]), (8, [1, 2, 6, 7, 8, 9, 10, 44]), (9, [4]), (10, [1, 2, 6, 7, 8, 9, 10, 49]), (11, [4]), (12, [1, 2, 6, 7, 8, 9, 10, 11]), (13, [1, 2, 6, 7, 9, 10, 11]), (14, [1, 2, 6, 7, 9, 65]), (15, [4]), (16, [1, 2, 6, 7, 9, 12]), (17, [1, 2, 6, 7, 9, 12]), (18, [1, 2, 6, 7, 9, 12, 13]), (19, [1, 2, 6, 7, 9, 12, 13]), (20, [1, 2, 6, 7, 9, 12, 13, 73]), (21, [4]), (22, [1, 2, 6, 7, 9, 12, 76]), (23, [4]), (24, [6, 7, 9, 12, 14, 15]), (25, [9, 12, 92]), (26, [4]), (27, [9, 12, 13]), (28, [12, 13]), (29, [12, 13, 97]), (30, [4]), (31, [100]), (32, [4]), (33, [4])], lp := [], pl := [(10, .take 0 (.take 1 (.all [(2, .all [(3, .take 4 (.done))])])))] }
end C
end Go.Proofs.Ytdgeponcnlkaiaa.Ab
