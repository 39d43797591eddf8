/- strings.Contains at one byte, strings.Trim at a cutset of ASCII bytes: the library's contracts. No condition. -/
import Derived.Test.YtengccmjlaejfaaDoorMg12
import Derived.Test.YtengccmjlaejfaaDoorMix
import Derived.Shelf.Strings.Search3
import Derived.Shelf.Strings.SlTrimAscii
namespace Go.Proofs.YtengccmjlaejfaaDoor
open Ev Go.RowKit
set_option maxRecDepth 100000
set_option linter.unusedVariables false
def contL_ren : Go.Shelf.Ren := ⟨fun k => match k with
  | 0 => 0
  | 1 => 1
  | 2 => 2
  | 107 => 45
  | 108 => 60
  | 111 => 32
  | 119 => 91
  | 120 => 78
  | 125 => 50
  | 128 => 70
  | 129 => 71
  | 137 => 90
  | 143 => 35
  | 144 => 17
  | 151 => 55
  | 152 => 77
  | 160 => 18
  | 189 => 30
  | 197 => 54
  | 215 => 87
  | 216 => 67
  | 217 => 72
  | 219 => 52
  | 224 => 74
  | 225 => 73
  | 227 => 38
  | 228 => 53
  | 231 => 36
  | 232 => 37
  | 233 => 39
  | 234 => 40
  | 235 => 41
  | 236 => 42
  | 257 => 49
  | 260 => 76
  | 266 => 88
  | 267 => 75
  | 271 => 56
  | 294 => 61
  | 295 => 62
  | 296 => 63
  | 297 => 64
  | 298 => 65
  | 299 => 66
  | 300 => 68
  | 301 => 69
  | 314 => 89
  | 328 => 82
  | 329 => 83
  | 330 => 84
  | 331 => 85
  | 332 => 86
  | 343 => 95
  | 347 => 96
  | 348 => 97
  | 349 => 98
  | 350 => 99
  | 351 => 100
  | 352 => 101
  | 353 => 102
  | 354 => 103
  | 355 => 104
  | 356 => 105
  | 357 => 106
  | 358 => 107
  | 359 => 108
  | 360 => 109
  | 361 => 110
  | 366 => 112
  | 367 => 117
  | k => k, fun k => match k with
  | 0 => 0
  | 1 => 1
  | 2 => 2
  | 3 => 3
  | 4 => 4
  | 5 => 5
  | 6 => 6
  | 7 => 7
  | 8 => 8
  | 9 => 9
  | 10 => 10
  | 11 => 11
  | 12 => 12
  | 13 => 13
  | 14 => 14
  | 15 => 15
  | 16 => 16
  | 17 => 17
  | 18 => 18
  | 19 => 19
  | 20 => 20
  | 21 => 21
  | 22 => 54
  | 23 => 55
  | 27 => 73
  | 28 => 35
  | 29 => 63
  | 30 => 97
  | 31 => 23
  | 34 => 70
  | 35 => 69
  | 37 => 22
  | 40 => 129
  | 41 => 90
  | 46 => 46
  | 47 => 88
  | 48 => 130
  | 51 => 108
  | 52 => 107
  | 53 => 110
  | 54 => 109
  | 55 => 111
  | 63 => 93
  | 64 => 113
  | 80 => 135
  | 81 => 141
  | 104 => 24
  | 105 => 91
  | 106 => 92
  | 111 => 116
  | 112 => 103
  | 114 => 112
  | 115 => 75
  | 116 => 76
  | 117 => 77
  | 118 => 78
  | 119 => 125
  | 122 => 74
  | 123 => 79
  | 124 => 80
  | 127 => 145
  | 131 => 105
  | 134 => 87
  | 137 => 126
  | 138 => 127
  | 139 => 128
  | 146 => 123
  | 151 => 124
  | 164 => 150
  | 181 => 98
  | 182 => 99
  | 183 => 100
  | 184 => 101
  | 185 => 102
  | 186 => 104
  | 187 => 106
  | 214 => 96
  | 218 => 117
  | 219 => 118
  | 220 => 119
  | 221 => 120
  | 222 => 121
  | 223 => 122
  | 228 => 132
  | 229 => 133
  | 230 => 134
  | 238 => 136
  | 239 => 137
  | 240 => 138
  | 241 => 139
  | 242 => 140
  | 243 => 142
  | 244 => 143
  | 245 => 144
  | 246 => 146
  | 247 => 147
  | 248 => 148
  | 249 => 149
  | k => k, fun k => match k with
  | 1 => 0
  | 3 => 1
  | 4 => 2
  | k => k⟩
theorem contL : Go.Proofs.Lays.n144 Tryd.prog contL_ren where
  mixed := by kernel_rfl
  f143 := by kernel_rfl
  f144 := by kernel_rfl
  f217 := by kernel_rfl
  f219 := by kernel_rfl
  f224 := by kernel_rfl
  f225 := by kernel_rfl
  f266 := by kernel_rfl
  f267 := by kernel_rfl
  f314 := by kernel_rfl
  t3 := by kernel_rfl
  a3 := fun _ => by kernel_rfl
  z3 := fun _ => by kernel_rfl
  v3 := fun _ => by kernel_rfl
  t4 := by kernel_rfl
  a4 := fun _ => by kernel_rfl
  z4 := fun _ => by kernel_rfl
  v4 := fun _ => by kernel_rfl
  t5 := by kernel_rfl
  a5 := fun _ => by kernel_rfl
  z5 := fun _ => by kernel_rfl
  v5 := fun _ => by kernel_rfl
  t9 := by kernel_rfl
  a9 := fun _ => by kernel_rfl
  z9 := fun _ => by kernel_rfl
  v9 := fun _ => by kernel_rfl
  t46 := by kernel_rfl
  a46 := fun _ => by kernel_rfl
  z46 := fun _ => by kernel_rfl
  v46 := fun _ => by kernel_rfl
  t51 := by kernel_rfl
  a51 := fun _ => by kernel_rfl
  z51 := fun _ => by kernel_rfl
  v51 := fun _ => by kernel_rfl
  t146 := by kernel_rfl
  a146 := fun _ => by kernel_rfl
  z146 := fun _ => by kernel_rfl
  v146 := fun _ => by kernel_rfl
  g1 := by kernel_rfl

def trimL_ren : Go.Shelf.Ren := ⟨fun k => match k with
  | 0 => 0
  | 1 => 1
  | 2 => 2
  | 107 => 45
  | 108 => 60
  | 111 => 32
  | 119 => 91
  | 120 => 78
  | 125 => 50
  | 128 => 70
  | 129 => 71
  | 137 => 90
  | 143 => 35
  | 144 => 17
  | 151 => 55
  | 152 => 77
  | 160 => 18
  | 189 => 30
  | 197 => 54
  | 215 => 87
  | 216 => 67
  | 217 => 72
  | 219 => 52
  | 224 => 74
  | 225 => 73
  | 227 => 38
  | 228 => 53
  | 231 => 36
  | 232 => 37
  | 233 => 39
  | 234 => 40
  | 235 => 41
  | 236 => 42
  | 257 => 49
  | 260 => 76
  | 266 => 88
  | 267 => 75
  | 271 => 56
  | 294 => 61
  | 295 => 62
  | 296 => 63
  | 297 => 64
  | 298 => 65
  | 299 => 66
  | 300 => 68
  | 301 => 69
  | 314 => 89
  | 328 => 82
  | 329 => 83
  | 330 => 84
  | 331 => 85
  | 332 => 86
  | 343 => 95
  | 347 => 96
  | 348 => 97
  | 349 => 98
  | 350 => 99
  | 351 => 100
  | 352 => 101
  | 353 => 102
  | 354 => 103
  | 355 => 104
  | 356 => 105
  | 357 => 106
  | 358 => 107
  | 359 => 108
  | 360 => 109
  | 361 => 110
  | 366 => 112
  | 367 => 117
  | k => k, fun k => match k with
  | 0 => 0
  | 1 => 1
  | 2 => 2
  | 3 => 3
  | 4 => 4
  | 5 => 5
  | 6 => 6
  | 7 => 7
  | 8 => 8
  | 9 => 9
  | 10 => 10
  | 11 => 11
  | 12 => 12
  | 13 => 13
  | 14 => 14
  | 15 => 15
  | 16 => 16
  | 17 => 17
  | 18 => 18
  | 19 => 19
  | 20 => 20
  | 21 => 21
  | 22 => 54
  | 23 => 55
  | 27 => 73
  | 28 => 35
  | 29 => 63
  | 30 => 97
  | 31 => 23
  | 34 => 70
  | 35 => 69
  | 37 => 22
  | 40 => 129
  | 41 => 90
  | 46 => 46
  | 47 => 88
  | 48 => 130
  | 51 => 108
  | 52 => 107
  | 53 => 110
  | 54 => 109
  | 55 => 111
  | 63 => 93
  | 64 => 113
  | 80 => 135
  | 81 => 141
  | 104 => 24
  | 105 => 91
  | 106 => 92
  | 111 => 116
  | 112 => 103
  | 114 => 112
  | 115 => 75
  | 116 => 76
  | 117 => 77
  | 118 => 78
  | 119 => 125
  | 122 => 74
  | 123 => 79
  | 124 => 80
  | 127 => 145
  | 131 => 105
  | 134 => 87
  | 137 => 126
  | 138 => 127
  | 139 => 128
  | 146 => 123
  | 151 => 124
  | 164 => 150
  | 181 => 98
  | 182 => 99
  | 183 => 100
  | 184 => 101
  | 185 => 102
  | 186 => 104
  | 187 => 106
  | 214 => 96
  | 218 => 117
  | 219 => 118
  | 220 => 119
  | 221 => 120
  | 222 => 121
  | 223 => 122
  | 228 => 132
  | 229 => 133
  | 230 => 134
  | 238 => 136
  | 239 => 137
  | 240 => 138
  | 241 => 139
  | 242 => 140
  | 243 => 142
  | 244 => 143
  | 245 => 144
  | 246 => 146
  | 247 => 147
  | 248 => 148
  | 249 => 149
  | k => k, fun k => match k with
  | 1 => 0
  | 3 => 1
  | 4 => 2
  | k => k⟩
theorem trimL : Go.Proofs.Lays.n160 Tryd.prog trimL_ren where
  mixed := by kernel_rfl
  f119 := by kernel_rfl
  f120 := by kernel_rfl
  f137 := by kernel_rfl
  f151 := by kernel_rfl
  f152 := by kernel_rfl
  f160 := by kernel_rfl
  f197 := by kernel_rfl
  f217 := by kernel_rfl
  f224 := by kernel_rfl
  f225 := by kernel_rfl
  f227 := by kernel_rfl
  f228 := by kernel_rfl
  f231 := by kernel_rfl
  f232 := by kernel_rfl
  f233 := by kernel_rfl
  f234 := by kernel_rfl
  f235 := by kernel_rfl
  f236 := by kernel_rfl
  f260 := by kernel_rfl
  f266 := by kernel_rfl
  f271 := by kernel_rfl
  t0 := by kernel_rfl
  a0 := fun _ => by kernel_rfl
  z0 := fun _ => by kernel_rfl
  v0 := fun _ => by kernel_rfl
  t3 := by kernel_rfl
  a3 := fun _ => by kernel_rfl
  z3 := fun _ => by kernel_rfl
  v3 := fun _ => by kernel_rfl
  t4 := by kernel_rfl
  a4 := fun _ => by kernel_rfl
  z4 := fun _ => by kernel_rfl
  v4 := fun _ => by kernel_rfl
  t5 := by kernel_rfl
  a5 := fun _ => by kernel_rfl
  z5 := fun _ => by kernel_rfl
  v5 := fun _ => by kernel_rfl
  t9 := by kernel_rfl
  a9 := fun _ => by kernel_rfl
  z9 := fun _ => by kernel_rfl
  v9 := fun _ => by kernel_rfl
  t21 := by kernel_rfl
  a21 := fun _ => by kernel_rfl
  z21 := fun _ => by kernel_rfl
  v21 := fun _ => by kernel_rfl
  t46 := by kernel_rfl
  a46 := fun _ => by kernel_rfl
  z46 := fun _ => by kernel_rfl
  v46 := fun _ => by kernel_rfl
  t105 := by kernel_rfl
  a105 := fun _ => by kernel_rfl
  z105 := fun _ => by kernel_rfl
  v105 := fun _ => by kernel_rfl
  t116 := by kernel_rfl
  a116 := fun _ => by kernel_rfl
  z116 := fun _ => by kernel_rfl
  t117 := by kernel_rfl
  a117 := fun _ => by kernel_rfl
  z117 := fun _ => by kernel_rfl
  v117 := fun _ => by kernel_rfl
  t119 := by kernel_rfl
  a119 := fun _ => by kernel_rfl
  z119 := fun _ => by kernel_rfl
  t124 := by kernel_rfl
  a124 := fun _ => by kernel_rfl
  z124 := fun _ => by kernel_rfl
  v124 := fun _ => by kernel_rfl
  t138 := by kernel_rfl
  a138 := fun _ => by kernel_rfl
  z138 := fun _ => by kernel_rfl
  v138 := fun _ => by kernel_rfl
  t139 := by kernel_rfl
  a139 := fun _ => by kernel_rfl
  z139 := fun _ => by kernel_rfl
  v139 := fun _ => by kernel_rfl
  g3 := by kernel_rfl
  g4 := by kernel_rfl

theorem ocalls2 {P : Program} {f : FuncId} {a b v : Value} (h : ∀ w, Calls P f #[a, b] w fun e w' => e = .returned v ∧ Fr noB w w') : OCalls P f [.s a, .s b] (.s v) [] := by
  intro m w ys hm hys
  letI I : Fz := ⟨m, false⟩
  obtain ⟨y1, s1, e1, h1, h2⟩ := hys
  obtain ⟨y2, s2, e2, h3, h4⟩ := h2
  cases h1
  cases h3
  cases h4
  subst e2
  obtain rfl : ys = #[a, b] := by apply Array.ext'; rw [e1]
  refine (h w).mono ?_
  rintro e w' ⟨rfl, hf⟩
  exact ⟨v, fun _ => none, rfl, hf, rfl, HR.fr (HR.start openB [] hm (fun _ => Nat.le_refl _)) hf, fun n p e => by cases e⟩
def contF (s : ByteArray) (c : UInt8) : Bool := decide (0 ≤ Lib.indexByte s.data.toList c)
theorem cont_ok (s : ByteArray) (c : UInt8) : OCalls Tryd.prog 17 [.s (.string s), .s (.string ⟨#[c]⟩)] (.s (.bool (contF s c))) [] := ocalls2 fun w => by
  refine (Go.Proofs.Any.strings_Contains_one contL s c w).mono ?_
  rintro e w' ⟨rfl, rfl⟩
  exact ⟨rfl, Fr.refl _ _⟩
def trimF (s c : ByteArray) : ByteArray := ⟨(Lib.trimS s.data.toList c.data.toList).toArray⟩
theorem trim_ok (s c : ByteArray) (hs : s.size ≤ 9223372036854775807) (hc : c.size < 4294967281) (ha : c.data.toList.all (fun b => decide (b.toNat < 128)) = true) : OCalls Tryd.prog 18 [.s (.string s), .s (.string c)] (.s (.string (trimF s c))) [] := ocalls2 fun w => by
  refine (Go.Proofs.Any.strings_Trim_laid trimL (by kernel_rfl) s c w hs hc (ascii_of_all ha)).mono ?_
  rintro e w' ⟨rfl, hb⟩
  exact ⟨rfl, hb.os, hb.tape, hb.output, hb.size, fun k hk _ => hb.block k hk⟩
end Go.Proofs.YtengccmjlaejfaaDoor
