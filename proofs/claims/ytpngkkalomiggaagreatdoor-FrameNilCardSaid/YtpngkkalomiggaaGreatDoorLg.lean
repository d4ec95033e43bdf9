/- A part of the proof: LG3, ClZ. -/
import Derived.Test.YtpngkkalomiggaaGreatDoorTy
import Derived.Test.YtpngkkalomiggaaGreatDoorEE
import Derived.KernelRfl
import Derived.WalkSpells
import Derived.WalkLawsBesides
import Derived.BigQuiet
set_option linter.all false
namespace Go.Proofs.YtpngkkalomiggaaGreatDoor
open Go Go.AH
noncomputable def fdTab : Tab AH.Fd := (.node 158 ⟨Tryz.f158, false, lkN [], lkN [], memN [], 0⟩ (.node 82 ⟨Tryz.f82, false, lkN [(2, [0, 1, 2, 3, 4])], lkN [(2, [0, 1, 2, 3, 4])], memN [], 0⟩ (.node 41 ⟨Tryz.f41, false, lkN [], lkN [], memN [6], 0⟩ (.node 22 ⟨Tryz.f22, false, lkN [], lkN [], memN [], 0⟩ (.node 12 ⟨Tryz.f12, false, lkN [(10, [2, 3, 5, 8, 9, 10, 11])], lkN [(10, [2, 3, 4, 10])], memN [], 0⟩ (.node 7 ⟨Tryz.f7, false, lkN [], lkN [], memN [], 0⟩ (.node 5 ⟨Tryz.f5, false, lkN [], lkN [], memN [], 0⟩ (.node 4 ⟨Tryz.f4, false, lkN [], lkN [], memN [3], 0⟩ (.node 3 ⟨Tryz.f3, false, lkN [(7, [1, 3, 5, 7, 11, 44, 45, 46])], lkN [(7, [3, 6, 7])], memN [], 0⟩ .leaf .leaf) .leaf) (.node 6 ⟨Tryz.f6, false, lkN [(10, [6, 10, 45, 46, 47])], lkN [(10, [6, 7, 10])], memN [], 0⟩ .leaf .leaf)) (.node 10 ⟨Tryz.f10, false, lkN [], lkN [], memN [], 0⟩ (.node 9 ⟨Tryz.f9, false, lkN [(7, [3, 7, 8, 26, 27, 28])], lkN [(7, [4, 5, 8])], memN [], 0⟩ (.node 8 ⟨Tryz.f8, false, lkN [], lkN [], memN [], 0⟩ .leaf .leaf) .leaf) (.node 11 ⟨Tryz.f11, false, lkN [(9, [1, 5, 7, 81, 82, 83])], lkN [(9, [0, 1, 5, 7])], memN [], 0⟩ .leaf .leaf))) (.node 17 ⟨Tryz.f17, false, lkN [], lkN [], memN [], 0⟩ (.node 15 ⟨Tryz.f15, false, lkN [], lkN [], memN [], 0⟩ (.node 14 ⟨Tryz.f14, false, lkN [], lkN [], memN [], 0⟩ (.node 13 ⟨Tryz.f13, false, lkN [(12, [3, 6, 9, 52, 53, 54])], lkN [(12, [2, 3, 4, 9])], memN [], 0⟩ .leaf .leaf) .leaf) (.node 16 ⟨Tryz.f16, false, lkN [(4, [1, 2, 15, 16, 17])], lkN [(4, [6])], memN [], 0⟩ .leaf .leaf)) (.node 20 ⟨Tryz.f20, false, lkN [], lkN [], memN [], 0⟩ (.node 19 ⟨Tryz.f19, false, lkN [], lkN [], memN [], 0⟩ .leaf .leaf) (.node 21 ⟨Tryz.f21, false, lkN [], lkN [], memN [], 0⟩ .leaf .leaf)))) (.node 32 ⟨Tryz.f32, false, lkN [], lkN [], memN [], 0⟩ (.node 27 ⟨Tryz.f27, false, lkN [(3, [1, 5, 8, 9, 10])], lkN [(3, [5])], memN [], 0⟩ (.node 25 ⟨Tryz.f25, false, lkN [], lkN [], memN [9], 0⟩ (.node 24 ⟨Tryz.f24, true, lkN [], lkN [], memN [], 0⟩ (.node 23 ⟨Tryz.f23, false, lkN [], lkN [], memN [], 0⟩ .leaf .leaf) .leaf) (.node 26 ⟨Tryz.f26, false, lkN [], lkN [], memN [], 0⟩ .leaf .leaf)) (.node 30 ⟨Tryz.f30, false, lkN [], lkN [], memN [], 0⟩ (.node 29 ⟨Tryz.f29, false, lkN [], lkN [], memN [], 0⟩ (.node 28 ⟨Tryz.f28, false, lkN [], lkN [], memN [], 0⟩ .leaf .leaf) .leaf) (.node 31 ⟨Tryz.f31, false, lkN [], lkN [], memN [], 0⟩ .leaf .leaf))) (.node 37 ⟨Tryz.f37, false, lkN [(4, [0, 1, 12, 13])], lkN [(4, [4])], memN [], 0⟩ (.node 35 ⟨Tryz.f35, false, lkN [], lkN [], memN [], 0⟩ (.node 34 ⟨Tryz.f34, false, lkN [], lkN [], memN [], 0⟩ (.node 33 ⟨Tryz.f33, false, lkN [], lkN [], memN [], 0⟩ .leaf .leaf) .leaf) (.node 36 ⟨Tryz.f36, false, lkN [], lkN [], memN [], 0⟩ .leaf .leaf)) (.node 39 ⟨Tryz.f39, false, lkN [], lkN [], memN [2], 0⟩ (.node 38 ⟨Tryz.f38, false, lkN [(3, [0, 5, 6])], lkN [(3, [2, 3, 4, 5])], memN [], 0⟩ .leaf .leaf) (.node 40 ⟨Tryz.f40, false, lkN [], lkN [], memN [], 0⟩ .leaf .leaf))))) (.node 62 ⟨Tryz.f62, false, lkN [], lkN [], memN [], 0⟩ (.node 53 ⟨Tryz.f53, false, lkN [], lkN [], memN [], 0⟩ (.node 46 ⟨Tryz.f46, false, lkN [], lkN [], memN [], 0⟩ (.node 44 ⟨Tryz.f44, false, lkN [(5, [2, 3, 23, 24, 25])], lkN [(5, [2, 3])], memN [10], 0⟩ (.node 43 ⟨Tryz.f43, false, lkN [(7, [6, 7, 22, 23, 24])], lkN [(7, [2, 3, 4, 6, 7])], memN [], 0⟩ (.node 42 ⟨Tryz.f42, false, lkN [(4, [12, 13, 14])], lkN [(4, [2])], memN [], 0⟩ .leaf .leaf) .leaf) (.node 45 ⟨Tryz.f45, false, lkN [(5, [7, 27, 28, 29])], lkN [(5, [4, 5, 6, 7])], memN [], 0⟩ .leaf .leaf)) (.node 51 ⟨Tryz.f51, false, lkN [], lkN [], memN [], 0⟩ (.node 49 ⟨Tryz.f49, false, lkN [], lkN [], memN [], 0⟩ (.node 47 ⟨Tryz.f47, false, lkN [], lkN [], memN [], 0⟩ .leaf .leaf) .leaf) (.node 52 ⟨Tryz.f52, false, lkN [], lkN [], memN [], 0⟩ .leaf .leaf))) (.node 58 ⟨Tryz.f58, false, lkN [], lkN [], memN [], 0⟩ (.node 56 ⟨Tryz.f56, false, lkN [(4, [1, 2, 15, 16, 17])], lkN [(4, [6])], memN [], 0⟩ (.node 55 ⟨Tryz.f55, false, lkN [(4416, [3, 4, 5])], lkN [(4416, [2])], memN [], 0⟩ (.node 54 ⟨Tryz.f54, false, lkN [], lkN [], memN [], 0⟩ .leaf .leaf) .leaf) (.node 57 ⟨Tryz.f57, false, lkN [], lkN [], memN [], 0⟩ .leaf .leaf)) (.node 60 ⟨Tryz.f60, false, lkN [], lkN [], memN [], 0⟩ (.node 59 ⟨Tryz.f59, false, lkN [], lkN [], memN [], 0⟩ .leaf .leaf) (.node 61 ⟨Tryz.f61, false, lkN [], lkN [], memN [], 0⟩ .leaf .leaf)))) (.node 71 ⟨Tryz.f71, false, lkN [(1, [0, 1, 6, 7])], lkN [(1, [])], memN [], 0⟩ (.node 67 ⟨Tryz.f67, false, lkN [], lkN [], memN [], 0⟩ (.node 65 ⟨Tryz.f65, false, lkN [(3, [0, 11, 12])], lkN [(3, [2, 3])], memN [], 0⟩ (.node 64 ⟨Tryz.f64, false, lkN [(4224, [0, 3]), (2, [0, 3])], lkN [(4224, [2]), (2, [2, 3])], memN [], 0⟩ (.node 63 ⟨Tryz.f63, false, lkN [(4, [0, 1, 12, 13])], lkN [(4, [4])], memN [], 0⟩ .leaf .leaf) .leaf) (.node 66 ⟨Tryz.f66, false, lkN [(6, [0, 1, 5])], lkN [(6, [4])], memN [], 0⟩ .leaf .leaf)) (.node 69 ⟨Tryz.f69, false, lkN [], lkN [], memN [], 0⟩ (.node 68 ⟨Tryz.f68, false, lkN [], lkN [], memN [], 0⟩ .leaf .leaf) (.node 70 ⟨Tryz.f70, false, lkN [], lkN [], memN [], 0⟩ .leaf .leaf))) (.node 76 ⟨Tryz.f76, false, lkN [], lkN [], memN [], 0⟩ (.node 74 ⟨Tryz.f74, false, lkN [], lkN [], memN [], 0⟩ (.node 73 ⟨Tryz.f73, false, lkN [(3, [2, 3, 12, 13, 14])], lkN [(3, [2, 3])], memN [], 0⟩ (.node 72 ⟨Tryz.f72, false, lkN [], lkN [], memN [], 0⟩ .leaf .leaf) .leaf) (.node 75 ⟨Tryz.f75, false, lkN [], lkN [], memN [], 0⟩ .leaf .leaf)) (.node 79 ⟨Tryz.f79, false, lkN [], lkN [], memN [], 0⟩ (.node 78 ⟨Tryz.f78, true, lkN [(3, [3, 8, 9, 10])], lkN [(3, [3])], memN [], 0⟩ .leaf .leaf) (.node 81 ⟨Tryz.f81, false, lkN [(6, [1, 2, 3, 4, 6, 24, 25, 26]), (13, [1, 2, 3, 4, 6])], lkN [(6, [1, 2, 3, 4, 6]), (13, [1, 2, 3, 4, 6])], memN [], 0⟩ .leaf .leaf)))))) (.node 120 ⟨Tryz.f120, false, lkN [], lkN [], memN [], 0⟩ (.node 101 ⟨Tryz.f101, false, lkN [(2, [0, 1, 5])], lkN [(2, [5])], memN [], 0⟩ (.node 92 ⟨Tryz.f92, false, lkN [], lkN [], memN [], 0⟩ (.node 87 ⟨Tryz.f87, false, lkN [], lkN [], memN [], 0⟩ (.node 85 ⟨Tryz.f85, false, lkN [], lkN [], memN [], 0⟩ (.node 84 ⟨Tryz.f84, false, lkN [], lkN [], memN [], 0⟩ (.node 83 ⟨Tryz.f83, false, lkN [], lkN [], memN [], 0⟩ .leaf .leaf) .leaf) (.node 86 ⟨Tryz.f86, false, lkN [], lkN [], memN [], 0⟩ .leaf .leaf)) (.node 90 ⟨Tryz.f90, false, lkN [], lkN [], memN [], 0⟩ (.node 89 ⟨Tryz.f89, false, lkN [(2, [0, 1, 7, 8])], lkN [(2, [4])], memN [], 0⟩ (.node 88 ⟨Tryz.f88, false, lkN [(6, [3, 4, 5, 7]), (9, [4, 5, 7, 8, 28, 29, 30])], lkN [(6, [3, 4, 5, 7]), (9, [4, 5])], memN [], 0⟩ .leaf .leaf) .leaf) (.node 91 ⟨Tryz.f91, false, lkN [], lkN [], memN [], 0⟩ .leaf .leaf))) (.node 97 ⟨Tryz.f97, false, lkN [], lkN [], memN [], 0⟩ (.node 95 ⟨Tryz.f95, false, lkN [], lkN [], memN [], 0⟩ (.node 94 ⟨Tryz.f94, false, lkN [], lkN [], memN [], 0⟩ (.node 93 ⟨Tryz.f93, false, lkN [(2, [0, 1, 7, 8])], lkN [(2, [4])], memN [], 0⟩ .leaf .leaf) .leaf) (.node 96 ⟨Tryz.f96, false, lkN [(3, [1, 3])], lkN [(3, [1, 3])], memN [], 0⟩ .leaf .leaf)) (.node 99 ⟨Tryz.f99, false, lkN [], lkN [], memN [], 0⟩ (.node 98 ⟨Tryz.f98, false, lkN [], lkN [], memN [], 0⟩ .leaf .leaf) (.node 100 ⟨Tryz.f100, false, lkN [], lkN [], memN [], 0⟩ .leaf .leaf)))) (.node 111 ⟨Tryz.f111, false, lkN [], lkN [], memN [], 0⟩ (.node 106 ⟨Tryz.f106, false, lkN [(2, [2, 4])], lkN [(2, [2])], memN [], 0⟩ (.node 104 ⟨Tryz.f104, false, lkN [], lkN [], memN [], 0⟩ (.node 103 ⟨Tryz.f103, false, lkN [], lkN [], memN [], 0⟩ (.node 102 ⟨Tryz.f102, false, lkN [], lkN [], memN [], 0⟩ .leaf .leaf) .leaf) (.node 105 ⟨Tryz.f105, false, lkN [], lkN [], memN [], 0⟩ .leaf .leaf)) (.node 109 ⟨Tryz.f109, false, lkN [(2, [0, 1, 5])], lkN [(2, [4])], memN [], 0⟩ (.node 108 ⟨Tryz.f108, false, lkN [], lkN [], memN [], 0⟩ .leaf .leaf) (.node 110 ⟨Tryz.f110, false, lkN [], lkN [], memN [], 0⟩ .leaf .leaf))) (.node 116 ⟨Tryz.f116, false, lkN [(5, [0, 1, 5])], lkN [(5, [5])], memN [], 0⟩ (.node 114 ⟨Tryz.f114, false, lkN [], lkN [], memN [], 0⟩ (.node 113 ⟨Tryz.f113, false, lkN [], lkN [], memN [], 0⟩ (.node 112 ⟨Tryz.f112, false, lkN [(4, [0, 1, 6])], lkN [(4, [4, 5, 6])], memN [], 0⟩ .leaf .leaf) .leaf) (.node 115 ⟨Tryz.f115, false, lkN [(3, [0, 1, 2, 3, 8, 9, 10, 25])], lkN [(3, [0, 1, 2, 3, 8, 9, 10, 25])], memN [6], 1⟩ .leaf .leaf)) (.node 118 ⟨Tryz.f118, false, lkN [], lkN [], memN [], 0⟩ (.node 117 ⟨Tryz.f117, false, lkN [], lkN [], memN [], 0⟩ .leaf .leaf) (.node 119 ⟨Tryz.f119, false, lkN [], lkN [], memN [], 0⟩ .leaf .leaf))))) (.node 140 ⟨Tryz.f140, false, lkN [(11, [0, 1, 3, 4, 10, 11, 12, 13, 14, 15, 16]), (18, [0, 1, 3, 4, 10, 11, 12, 13, 17])], lkN [(11, [0, 1, 3, 4, 10, 11, 12, 13]), (18, [0, 1, 3, 4, 10, 11, 12, 13])], memN [], 0⟩ (.node 131 ⟨Tryz.f131, false, lkN [(3, [2, 3, 6, 12, 13, 14])], lkN [(3, [4, 5, 6])], memN [], 0⟩ (.node 126 ⟨Tryz.f126, false, lkN [], lkN [], memN [], 0⟩ (.node 124 ⟨Tryz.f124, true, lkN [(3, [3, 8, 9, 10])], lkN [(3, [3])], memN [], 0⟩ (.node 122 ⟨Tryz.f122, false, lkN [(4, [0, 1, 12, 13])], lkN [(4, [4])], memN [], 0⟩ (.node 121 ⟨Tryz.f121, false, lkN [], lkN [], memN [], 0⟩ .leaf .leaf) .leaf) (.node 125 ⟨Tryz.f125, false, lkN [], lkN [], memN [], 0⟩ .leaf .leaf)) (.node 129 ⟨Tryz.f129, false, lkN [], lkN [], memN [], 0⟩ (.node 128 ⟨Tryz.f128, false, lkN [], lkN [], memN [], 0⟩ (.node 127 ⟨Tryz.f127, false, lkN [(3, [2])], lkN [(3, [2])], memN [], 0⟩ .leaf .leaf) .leaf) (.node 130 ⟨Tryz.f130, false, lkN [], lkN [], memN [], 0⟩ .leaf .leaf))) (.node 136 ⟨Tryz.f136, false, lkN [(9, [2, 3, 5, 30, 31, 32])], lkN [(9, [5])], memN [], 0⟩ (.node 134 ⟨Tryz.f134, false, lkN [(3, [0, 3, 5, 11, 12, 13])], lkN [(3, [0, 3, 5])], memN [], 0⟩ (.node 133 ⟨Tryz.f133, false, lkN [(7, [1, 2, 5, 6, 7]), (18, [1, 2, 5, 6, 7, 9, 73, 74, 75])], lkN [(7, [5]), (18, [1, 2, 5, 6, 7])], memN [], 0⟩ (.node 132 ⟨Tryz.f132, false, lkN [], lkN [], memN [], 0⟩ .leaf .leaf) .leaf) (.node 135 ⟨Tryz.f135, false, lkN [(2, [0, 1, 7, 8])], lkN [(2, [4])], memN [], 0⟩ .leaf .leaf)) (.node 138 ⟨Tryz.f138, false, lkN [], lkN [], memN [], 0⟩ (.node 137 ⟨Tryz.f137, false, lkN [], lkN [], memN [], 0⟩ .leaf .leaf) (.node 139 ⟨Tryz.f139, false, lkN [(1, [0, 1, 4])], lkN [(1, [0, 1, 4])], memN [], 0⟩ .leaf .leaf)))) (.node 149 ⟨Tryz.f149, false, lkN [], lkN [], memN [], 0⟩ (.node 145 ⟨Tryz.f145, false, lkN [(15, [0, 1, 5, 6, 7, 8, 9, 10])], lkN [(15, [4])], memN [], 0⟩ (.node 143 ⟨Tryz.f143, false, lkN [], lkN [], memN [], 0⟩ (.node 142 ⟨Tryz.f142, false, lkN [], lkN [], memN [], 0⟩ (.node 141 ⟨Tryz.f141, false, lkN [], lkN [], memN [], 0⟩ .leaf .leaf) .leaf) (.node 144 ⟨Tryz.f144, false, lkN [], lkN [], memN [], 0⟩ .leaf .leaf)) (.node 147 ⟨Tryz.f147, false, lkN [(2, [0, 5, 6])], lkN [(2, [2])], memN [], 0⟩ (.node 146 ⟨Tryz.f146, false, lkN [], lkN [], memN [], 0⟩ .leaf .leaf) (.node 148 ⟨Tryz.f148, false, lkN [], lkN [], memN [6], 2⟩ .leaf .leaf))) (.node 154 ⟨Tryz.f154, false, lkN [], lkN [], memN [], 0⟩ (.node 152 ⟨Tryz.f152, false, lkN [], lkN [], memN [], 0⟩ (.node 151 ⟨Tryz.f151, false, lkN [], lkN [], memN [], 0⟩ (.node 150 ⟨Tryz.f150, false, lkN [], lkN [], memN [], 0⟩ .leaf .leaf) .leaf) (.node 153 ⟨Tryz.f153, false, lkN [(2, [0, 1, 4, 8, 9, 10])], lkN [(2, [0, 4])], memN [], 0⟩ .leaf .leaf)) (.node 156 ⟨Tryz.f156, false, lkN [(2, [0, 1, 7, 8])], lkN [(2, [4])], memN [], 0⟩ (.node 155 ⟨Tryz.f155, false, lkN [], lkN [], memN [], 0⟩ .leaf .leaf) (.node 157 ⟨Tryz.f157, false, lkN [(4, [1, 2, 3, 16, 17, 18])], lkN [(4, [6])], memN [], 0⟩ .leaf .leaf))))))) (.node 237 ⟨Tryz.f237, false, lkN [(10, [0, 4, 5, 6])], lkN [(10, [0, 4, 5])], memN [], 0⟩ (.node 200 ⟨Tryz.f200, false, lkN [(1, [0, 1])], lkN [(1, [0])], memN [], 0⟩ (.node 179 ⟨Tryz.f179, false, lkN [], lkN [], memN [], 0⟩ (.node 170 ⟨Tryz.f170, false, lkN [], lkN [], memN [], 0⟩ (.node 164 ⟨Tryz.f164, false, lkN [], lkN [], memN [], 0⟩ (.node 162 ⟨Tryz.f162, false, lkN [], lkN [], memN [], 0⟩ (.node 161 ⟨Tryz.f161, false, lkN [], lkN [], memN [], 0⟩ (.node 160 ⟨Tryz.f160, false, lkN [], lkN [], memN [], 0⟩ .leaf .leaf) .leaf) (.node 163 ⟨Tryz.f163, false, lkN [(2, [0, 1, 2, 10, 11, 12])], lkN [(2, [6])], memN [], 0⟩ .leaf .leaf)) (.node 167 ⟨Tryz.f167, false, lkN [], lkN [], memN [], 0⟩ (.node 166 ⟨Tryz.f166, false, lkN [], lkN [], memN [], 0⟩ (.node 165 ⟨Tryz.f165, false, lkN [], lkN [], memN [], 0⟩ .leaf .leaf) .leaf) (.node 168 ⟨Tryz.f168, true, lkN [(3, [1, 5, 13, 14]), (7, [1, 5, 6, 13, 14, 24, 25])], lkN [(3, [5]), (7, [1, 5, 13, 14])], memN [], 0⟩ .leaf .leaf))) (.node 175 ⟨Tryz.f175, false, lkN [], lkN [], memN [], 0⟩ (.node 173 ⟨Tryz.f173, false, lkN [(3, [0, 1, 5, 8, 9])], lkN [(3, [5])], memN [], 0⟩ (.node 172 ⟨Tryz.f172, false, lkN [], lkN [], memN [], 0⟩ (.node 171 ⟨Tryz.f171, false, lkN [], lkN [], memN [], 0⟩ .leaf .leaf) .leaf) (.node 174 ⟨Tryz.f174, false, lkN [(7, [6, 19, 20, 21])], lkN [(7, [6])], memN [], 0⟩ .leaf .leaf)) (.node 177 ⟨Tryz.f177, false, lkN [], lkN [], memN [], 0⟩ (.node 176 ⟨Tryz.f176, true, lkN [(4, [0, 3]), (9, [0, 3, 4, 5])], lkN [(4, [0, 2]), (9, [0, 3])], memN [], 0⟩ .leaf .leaf) (.node 178 ⟨Tryz.f178, false, lkN [], lkN [], memN [], 0⟩ .leaf .leaf)))) (.node 191 ⟨Tryz.f191, false, lkN [], lkN [], memN [], 0⟩ (.node 185 ⟨Tryz.f185, false, lkN [(2, [0, 1, 7, 8])], lkN [(2, [4])], memN [], 0⟩ (.node 182 ⟨Tryz.f182, false, lkN [], lkN [], memN [], 0⟩ (.node 181 ⟨Tryz.f181, false, lkN [], lkN [], memN [], 0⟩ (.node 180 ⟨Tryz.f180, false, lkN [], lkN [], memN [], 0⟩ .leaf .leaf) .leaf) (.node 183 ⟨Tryz.f183, false, lkN [], lkN [], memN [], 0⟩ .leaf .leaf)) (.node 189 ⟨Tryz.f189, false, lkN [], lkN [], memN [], 0⟩ (.node 187 ⟨Tryz.f187, false, lkN [], lkN [], memN [], 0⟩ (.node 186 ⟨Tryz.f186, false, lkN [], lkN [], memN [], 0⟩ .leaf .leaf) .leaf) (.node 190 ⟨Tryz.f190, false, lkN [(5, [0, 1, 5, 6, 7, 8, 9]), (11, [0, 1, 5, 6, 7, 8, 10])], lkN [(5, [0, 1, 5, 6, 7, 8]), (11, [4])], memN [], 0⟩ .leaf .leaf))) (.node 196 ⟨Tryz.f196, false, lkN [(2, [0, 2, 4])], lkN [(2, [2, 3])], memN [], 0⟩ (.node 194 ⟨Tryz.f194, false, lkN [(1, [0, 1])], lkN [(1, [0])], memN [], 0⟩ (.node 193 ⟨Tryz.f193, false, lkN [], lkN [], memN [], 0⟩ (.node 192 ⟨Tryz.f192, false, lkN [], lkN [], memN [8], 0⟩ .leaf .leaf) .leaf) (.node 195 ⟨Tryz.f195, false, lkN [(1, [0, 1])], lkN [(1, [0])], memN [], 0⟩ .leaf .leaf)) (.node 198 ⟨Tryz.f198, false, lkN [(1, [0, 1])], lkN [(1, [0])], memN [], 0⟩ (.node 197 ⟨Tryz.f197, false, lkN [(1, [0, 1])], lkN [(1, [0])], memN [], 0⟩ .leaf .leaf) (.node 199 ⟨Tryz.f199, false, lkN [(1, [0, 1])], lkN [(1, [0])], memN [], 0⟩ .leaf .leaf))))) (.node 219 ⟨Tryz.f219, false, lkN [(36, [1, 8, 9, 10, 11, 12, 13, 99, 100, 101])], lkN [(36, [6, 7, 9, 12, 13])], memN [], 0⟩ (.node 210 ⟨Tryz.f210, false, lkN [], lkN [], memN [], 0⟩ (.node 205 ⟨Tryz.f205, false, lkN [], lkN [], memN [], 0⟩ (.node 203 ⟨Tryz.f203, false, lkN [], lkN [], memN [], 0⟩ (.node 202 ⟨Tryz.f202, false, lkN [], lkN [], memN [], 0⟩ (.node 201 ⟨Tryz.f201, false, lkN [(5, [0, 3, 4, 5, 6]), (18, [0, 9, 10, 12]), (21, [0, 9, 10, 11, 12]), (27, [0, 9, 10, 12])], lkN [(5, [0, 3, 5]), (18, [0, 9, 10, 12]), (21, [0, 9, 10, 11]), (27, [0, 9, 10, 12])], memN [], 0⟩ .leaf .leaf) .leaf) (.node 204 ⟨Tryz.f204, false, lkN [], lkN [], memN [], 0⟩ .leaf .leaf)) (.node 208 ⟨Tryz.f208, false, lkN [(3, [3, 16, 17, 18])], lkN [(3, [2, 3])], memN [], 0⟩ (.node 207 ⟨Tryz.f207, false, lkN [(4, [3, 4, 5])], lkN [(4, [3, 4, 5])], memN [], 0⟩ (.node 206 ⟨Tryz.f206, false, lkN [], lkN [], memN [], 0⟩ .leaf .leaf) .leaf) (.node 209 ⟨Tryz.f209, false, lkN [], lkN [], memN [], 0⟩ .leaf .leaf))) (.node 215 ⟨Tryz.f215, false, lkN [], lkN [], memN [], 0⟩ (.node 213 ⟨Tryz.f213, false, lkN [(5, [0, 2, 30, 31, 32])], lkN [(5, [])], memN [], 0⟩ (.node 212 ⟨Tryz.f212, false, lkN [], lkN [], memN [], 0⟩ (.node 211 ⟨Tryz.f211, false, lkN [], lkN [], memN [], 0⟩ .leaf .leaf) .leaf) (.node 214 ⟨Tryz.f214, false, lkN [(2, [0, 1, 2, 3, 8, 9])], lkN [(2, [])], memN [], 0⟩ .leaf .leaf)) (.node 217 ⟨Tryz.f217, false, lkN [], lkN [], memN [], 0⟩ (.node 216 ⟨Tryz.f216, false, lkN [(1, [0, 1])], lkN [(1, [4])], memN [], 0⟩ .leaf .leaf) (.node 218 ⟨Tryz.f218, false, lkN [], lkN [], memN [], 0⟩ .leaf .leaf)))) (.node 228 ⟨Tryz.f228, false, lkN [], lkN [], memN [], 0⟩ (.node 224 ⟨Tryz.f224, false, lkN [(3, [0, 4, 5]), (8, [4, 6, 7, 8])], lkN [(3, [0, 4]), (8, [4, 6])], memN [], 0⟩ (.node 222 ⟨Tryz.f222, false, lkN [], lkN [], memN [], 0⟩ (.node 221 ⟨Tryz.f221, false, lkN [], lkN [], memN [], 0⟩ (.node 220 ⟨Tryz.f220, false, lkN [], lkN [], memN [], 0⟩ .leaf .leaf) .leaf) (.node 223 ⟨Tryz.f223, false, lkN [], lkN [], memN [], 0⟩ .leaf .leaf)) (.node 226 ⟨Tryz.f226, false, lkN [], lkN [], memN [], 0⟩ (.node 225 ⟨Tryz.f225, false, lkN [], lkN [], memN [], 0⟩ .leaf .leaf) (.node 227 ⟨Tryz.f227, false, lkN [], lkN [], memN [], 0⟩ .leaf .leaf))) (.node 233 ⟨Tryz.f233, false, lkN [], lkN [], memN [], 0⟩ (.node 231 ⟨Tryz.f231, false, lkN [], lkN [], memN [], 0⟩ (.node 230 ⟨Tryz.f230, false, lkN [], lkN [], memN [], 0⟩ (.node 229 ⟨Tryz.f229, false, lkN [], lkN [], memN [], 0⟩ .leaf .leaf) .leaf) (.node 232 ⟨Tryz.f232, false, lkN [], lkN [], memN [], 0⟩ .leaf .leaf)) (.node 235 ⟨Tryz.f235, false, lkN [], lkN [], memN [], 0⟩ (.node 234 ⟨Tryz.f234, false, lkN [], lkN [], memN [], 0⟩ .leaf .leaf) (.node 236 ⟨Tryz.f236, false, lkN [], lkN [], memN [], 0⟩ .leaf .leaf)))))) (.node 276 ⟨Tryz.f276, false, lkN [], lkN [], memN [], 0⟩ (.node 258 ⟨Tryz.f258, false, lkN [], lkN [], memN [], 0⟩ (.node 247 ⟨Tryz.f247, false, lkN [], lkN [], memN [], 0⟩ (.node 242 ⟨Tryz.f242, false, lkN [], lkN [], memN [], 0⟩ (.node 240 ⟨Tryz.f240, false, lkN [(2, [0, 1, 7, 8])], lkN [(2, [4])], memN [], 0⟩ (.node 239 ⟨Tryz.f239, false, lkN [], lkN [], memN [], 0⟩ (.node 238 ⟨Tryz.f238, false, lkN [(4, [0, 1, 5, 6, 14]), (16, [0, 9, 47, 48, 49])], lkN [(4, [0, 5, 6]), (16, [9])], memN [], 0⟩ .leaf .leaf) .leaf) (.node 241 ⟨Tryz.f241, false, lkN [(5, [1, 2, 6, 18, 19, 20])], lkN [(5, [5, 6])], memN [], 0⟩ .leaf .leaf)) (.node 245 ⟨Tryz.f245, false, lkN [(3, [2, 6, 11, 12, 13])], lkN [(3, [4, 5, 6])], memN [], 0⟩ (.node 244 ⟨Tryz.f244, false, lkN [], lkN [], memN [], 0⟩ (.node 243 ⟨Tryz.f243, false, lkN [], lkN [], memN [], 0⟩ .leaf .leaf) .leaf) (.node 246 ⟨Tryz.f246, false, lkN [], lkN [], memN [], 0⟩ .leaf .leaf))) (.node 252 ⟨Tryz.f252, false, lkN [(2, [0, 6, 7])], lkN [(2, [])], memN [], 0⟩ (.node 250 ⟨Tryz.f250, false, lkN [(5, [0, 1, 6, 7, 8, 9])], lkN [(5, [])], memN [], 0⟩ (.node 249 ⟨Tryz.f249, false, lkN [(4, [0, 6, 7, 8, 9]), (8, [0, 6, 7, 10])], lkN [(4, [0, 6, 7, 8]), (8, [])], memN [], 0⟩ (.node 248 ⟨Tryz.f248, false, lkN [(1, [0, 1, 2, 6]), (4, [0, 1, 2, 6, 7])], lkN [(1, []), (4, [0, 1, 2, 6])], memN [], 0⟩ .leaf .leaf) .leaf) (.node 251 ⟨Tryz.f251, false, lkN [], lkN [], memN [], 0⟩ .leaf .leaf)) (.node 254 ⟨Tryz.f254, false, lkN [], lkN [], memN [], 0⟩ (.node 253 ⟨Tryz.f253, false, lkN [(3, [0, 1, 2, 7, 8]), (5, [0, 1, 2, 7, 8]), (14, [0, 1, 2, 7, 8, 9]), (20, [0, 1, 2, 7, 8, 10])], lkN [(3, [6]), (5, [0, 1, 2, 7, 8]), (14, [0, 1, 2, 7, 8]), (20, [0, 1, 2, 7, 8])], memN [], 0⟩ .leaf .leaf) (.node 257 ⟨Tryz.f257, false, lkN [], lkN [], memN [], 0⟩ .leaf .leaf)))) (.node 267 ⟨Tryz.f267, false, lkN [], lkN [], memN [], 0⟩ (.node 263 ⟨Tryz.f263, false, lkN [(3, [0, 1, 2, 6, 7, 8, 22]), (8, [2, 6, 7, 8, 9])], lkN [(3, [0, 1, 2, 6, 7, 8, 22]), (8, [6, 7, 8])], memN [7, 8, 10], 1⟩ (.node 261 ⟨Tryz.f261, false, lkN [], lkN [], memN [], 0⟩ (.node 260 ⟨Tryz.f260, false, lkN [], lkN [], memN [], 0⟩ (.node 259 ⟨Tryz.f259, false, lkN [(10, [0, 3, 4, 5])], lkN [(10, [2, 3])], memN [], 0⟩ .leaf .leaf) .leaf) (.node 262 ⟨Tryz.f262, false, lkN [], lkN [], memN [], 0⟩ .leaf .leaf)) (.node 265 ⟨Tryz.f265, false, lkN [], lkN [], memN [], 0⟩ (.node 264 ⟨Tryz.f264, false, lkN [(3, [0, 1, 2, 6, 7, 8, 23])], lkN [(3, [0, 1, 2, 6, 7, 8, 23])], memN [6], 1⟩ .leaf .leaf) (.node 266 ⟨Tryz.f266, false, lkN [(38, [175]), (5377, [0, 1, 7, 8, 9]), (5, [0, 1, 7, 8, 9, 10]), (5120, [0, 1, 7, 8, 9, 10]), (12, [0, 1, 7, 8, 9, 10, 12]), (5698, [0, 7, 8, 9, 14, 15]), (25, [0, 7, 8, 9, 14, 15]), (29, [0, 7, 8, 9, 14, 15, 16])], lkN [(38, [4]), (5377, [4]), (5, [4]), (5120, [0, 1, 7, 8, 9, 10]), (12, [8, 9]), (5698, [4]), (25, [4]), (29, [0, 7, 8, 9, 14, 15])], memN [], 0⟩ .leaf .leaf))) (.node 272 ⟨Tryz.f272, false, lkN [], lkN [], memN [], 0⟩ (.node 270 ⟨Tryz.f270, false, lkN [(3, [1, 2, 8, 11, 12, 13])], lkN [(3, [6, 7, 8])], memN [], 0⟩ (.node 269 ⟨Tryz.f269, false, lkN [], lkN [], memN [], 0⟩ (.node 268 ⟨Tryz.f268, false, lkN [], lkN [], memN [], 0⟩ .leaf .leaf) .leaf) (.node 271 ⟨Tryz.f271, false, lkN [], lkN [], memN [], 0⟩ .leaf .leaf)) (.node 274 ⟨Tryz.f274, false, lkN [], lkN [], memN [], 0⟩ (.node 273 ⟨Tryz.f273, false, lkN [(1, [0, 2, 3, 8])], lkN [(1, [])], memN [], 0⟩ .leaf .leaf) (.node 275 ⟨Tryz.f275, false, lkN [], lkN [], memN [], 0⟩ .leaf .leaf))))) (.node 295 ⟨Tryz.f295, false, lkN [], lkN [], memN [], 0⟩ (.node 286 ⟨Tryz.f286, false, lkN [], lkN [], memN [], 0⟩ (.node 281 ⟨Tryz.f281, false, lkN [], lkN [], memN [6], 0⟩ (.node 279 ⟨Tryz.f279, false, lkN [], lkN [], memN [], 0⟩ (.node 278 ⟨Tryz.f278, false, lkN [], lkN [], memN [], 0⟩ (.node 277 ⟨Tryz.f277, false, lkN [], lkN [], memN [], 0⟩ .leaf .leaf) .leaf) (.node 280 ⟨Tryz.f280, false, lkN [], lkN [], memN [], 2⟩ .leaf .leaf)) (.node 284 ⟨Tryz.f284, false, lkN [(2, [0, 1, 2, 6, 7])], lkN [(2, [6])], memN [], 0⟩ (.node 283 ⟨Tryz.f283, false, lkN [], lkN [], memN [], 0⟩ (.node 282 ⟨Tryz.f282, false, lkN [], lkN [], memN [], 0⟩ .leaf .leaf) .leaf) (.node 285 ⟨Tryz.f285, false, lkN [], lkN [], memN [], 2⟩ .leaf .leaf))) (.node 291 ⟨Tryz.f291, false, lkN [], lkN [], memN [], 0⟩ (.node 289 ⟨Tryz.f289, false, lkN [], lkN [], memN [], 0⟩ (.node 288 ⟨Tryz.f288, false, lkN [(3, [0, 1, 15, 16]), (14, [0, 1, 7, 8])], lkN [(3, [4]), (14, [4])], memN [], 0⟩ (.node 287 ⟨Tryz.f287, false, lkN [(3, [0, 1, 19, 20]), (14, [0, 1, 7, 8])], lkN [(3, [4]), (14, [4])], memN [], 0⟩ .leaf .leaf) .leaf) (.node 290 ⟨Tryz.f290, false, lkN [], lkN [], memN [], 0⟩ .leaf .leaf)) (.node 293 ⟨Tryz.f293, false, lkN [], lkN [], memN [], 0⟩ (.node 292 ⟨Tryz.f292, false, lkN [], lkN [], memN [], 0⟩ .leaf .leaf) (.node 294 ⟨Tryz.f294, false, lkN [], lkN [], memN [], 0⟩ .leaf .leaf)))) (.node 304 ⟨Tryz.f304, false, lkN [], lkN [], memN [], 0⟩ (.node 300 ⟨Tryz.f300, false, lkN [], lkN [], memN [], 0⟩ (.node 298 ⟨Tryz.f298, false, lkN [], lkN [], memN [], 0⟩ (.node 297 ⟨Tryz.f297, false, lkN [(2, [0, 1, 7, 8])], lkN [(2, [4])], memN [], 0⟩ (.node 296 ⟨Tryz.f296, false, lkN [], lkN [], memN [], 0⟩ .leaf .leaf) .leaf) (.node 299 ⟨Tryz.f299, false, lkN [], lkN [], memN [], 0⟩ .leaf .leaf)) (.node 302 ⟨Tryz.f302, false, lkN [], lkN [], memN [], 0⟩ (.node 301 ⟨Tryz.f301, false, lkN [], lkN [], memN [], 0⟩ .leaf .leaf) (.node 303 ⟨Tryz.f303, false, lkN [], lkN [], memN [], 0⟩ .leaf .leaf))) (.node 309 ⟨Tryz.f309, false, lkN [(2, [0, 6])], lkN [(2, [0, 2])], memN [], 0⟩ (.node 307 ⟨Tryz.f307, false, lkN [], lkN [], memN [], 0⟩ (.node 306 ⟨Tryz.f306, false, lkN [], lkN [], memN [], 0⟩ (.node 305 ⟨Tryz.f305, false, lkN [(2, [0, 1, 7, 8])], lkN [(2, [4])], memN [], 0⟩ .leaf .leaf) .leaf) (.node 308 ⟨Tryz.f308, false, lkN [], lkN [], memN [], 0⟩ .leaf .leaf)) (.node 332 ⟨Tryz.f332, false, lkN [], lkN [], memN [], 0⟩ (.node 310 ⟨Tryz.f310, false, lkN [], lkN [], memN [], 0⟩ .leaf .leaf) (.node 333 ⟨Tryz.f333, false, lkN [], lkN [], memN [], 0⟩ .leaf .leaf))))))))
def modeTab : Tab (List Bool) := (.node 173 [true, false] (.node 85 [true] (.node 31 [true] (.node 16 [false, false, true] (.node 9 [true, false] (.node 7 [true, false, false] (.node 6 [true, false, false] .leaf .leaf) (.node 8 [true, false, false, false] .leaf .leaf)) (.node 14 [true] (.node 10 [true, true, false] .leaf .leaf) (.node 15 [true, false] .leaf .leaf))) (.node 23 [false, true, true, true] (.node 21 [true, false, false, true] (.node 19 [true, false] .leaf .leaf) (.node 22 [false, true, true] .leaf .leaf)) (.node 29 [true, false] (.node 25 [true, false, true] .leaf .leaf) (.node 30 [false, true] .leaf .leaf)))) (.node 62 [true] (.node 54 [true, false] (.node 39 [false, false, true] (.node 36 [false, true] .leaf .leaf) (.node 46 [true] .leaf .leaf)) (.node 57 [false, false, true] (.node 56 [false, false, true] .leaf .leaf) (.node 60 [true, false] .leaf .leaf))) (.node 75 [false, true] (.node 71 [true, true] (.node 68 [true] .leaf .leaf) (.node 72 [true, true, true] .leaf .leaf)) (.node 82 [true, true, true] (.node 79 [true, true] .leaf .leaf) .leaf)))) (.node 119 [false, true] (.node 101 [false, true] (.node 91 [false, true] (.node 89 [false, true] (.node 87 [true, true] .leaf .leaf) (.node 90 [false, true] .leaf .leaf)) (.node 93 [false, true] (.node 92 [false, true] .leaf .leaf) (.node 94 [false, true] .leaf .leaf))) (.node 113 [true] (.node 111 [true] (.node 110 [true, false, false] .leaf .leaf) (.node 112 [true, true] .leaf .leaf)) (.node 115 [false, false, false, true] (.node 114 [true] .leaf .leaf) (.node 116 [true, false] .leaf .leaf)))) (.node 152 [true, false] (.node 146 [true] (.node 127 [true, true] (.node 125 [true, false] .leaf .leaf) (.node 135 [false, true] .leaf .leaf)) (.node 149 [true, false, false, false] (.node 148 [true, true, true] .leaf .leaf) (.node 151 [true, false] .leaf .leaf))) (.node 162 [true, true] (.node 156 [false, true] (.node 153 [true, false] .leaf .leaf) (.node 157 [false, false, true, true] .leaf .leaf)) (.node 166 [false, true] (.node 163 [true, false, true] .leaf .leaf) .leaf))))) (.node 281 [false, true, true] (.node 229 [true, false] (.node 209 [false, true, true] (.node 193 [true] (.node 176 [true] (.node 175 [true] .leaf .leaf) (.node 192 [true, false] .leaf .leaf)) (.node 198 [false, true] (.node 197 [false, true] .leaf .leaf) (.node 204 [false, true] .leaf .leaf))) (.node 225 [true, false] (.node 214 [true] (.node 213 [false, false, true] .leaf .leaf) (.node 216 [true, false] .leaf .leaf)) (.node 227 [true, false] (.node 226 [true, false] .leaf .leaf) (.node 228 [true, false] .leaf .leaf)))) (.node 241 [false, false, true] (.node 233 [true, false] (.node 231 [true] (.node 230 [true, false] .leaf .leaf) (.node 232 [true] .leaf .leaf)) (.node 238 [false, true] (.node 234 [true, false] .leaf .leaf) (.node 240 [false, true] .leaf .leaf))) (.node 276 [false, false, true] (.node 268 [true, false] (.node 248 [true] .leaf .leaf) (.node 275 [true] .leaf .leaf)) (.node 280 [true, true, true] (.node 277 [false, false, false, false, true] .leaf .leaf) .leaf)))) (.node 299 [true] (.node 292 [true, false, false] (.node 285 [true, true, true] (.node 283 [true, false, false] (.node 282 [true, false] .leaf .leaf) (.node 284 [true, false, false] .leaf .leaf)) (.node 290 [false, true] (.node 289 [false, true] .leaf .leaf) (.node 291 [false, false, false, true] .leaf .leaf))) (.node 296 [true, false] (.node 294 [true, false] (.node 293 [true, false, false] .leaf .leaf) (.node 295 [true] .leaf .leaf)) (.node 298 [true] (.node 297 [false, true] .leaf .leaf) .leaf))) (.node 321 [true] (.node 305 [false, true] (.node 301 [true] (.node 300 [true, false] .leaf .leaf) (.node 302 [true, false, false] .leaf .leaf)) (.node 319 [true] (.node 307 [false, true] .leaf .leaf) (.node 320 [true] .leaf .leaf))) (.node 325 [true] (.node 323 [true] (.node 322 [true] .leaf .leaf) (.node 324 [true] .leaf .leaf)) (.node 328 [true] (.node 327 [true] .leaf .leaf) .leaf))))))
theorem fdTab_fn : fdTab.All fun f d => Tryz.prog.funcs[f]? = some d.fn := ⟨Tryz.func158, ⟨Tryz.func82, ⟨Tryz.func41, ⟨Tryz.func22, ⟨Tryz.func12, ⟨Tryz.func7, ⟨Tryz.func5, ⟨Tryz.func4, ⟨Tryz.func3, trivial, trivial⟩, trivial⟩, ⟨Tryz.func6, trivial, trivial⟩⟩, ⟨Tryz.func10, ⟨Tryz.func9, ⟨Tryz.func8, trivial, trivial⟩, trivial⟩, ⟨Tryz.func11, trivial, trivial⟩⟩⟩, ⟨Tryz.func17, ⟨Tryz.func15, ⟨Tryz.func14, ⟨Tryz.func13, trivial, trivial⟩, trivial⟩, ⟨Tryz.func16, trivial, trivial⟩⟩, ⟨Tryz.func20, ⟨Tryz.func19, trivial, trivial⟩, ⟨Tryz.func21, trivial, trivial⟩⟩⟩⟩, ⟨Tryz.func32, ⟨Tryz.func27, ⟨Tryz.func25, ⟨Tryz.func24, ⟨Tryz.func23, trivial, trivial⟩, trivial⟩, ⟨Tryz.func26, trivial, trivial⟩⟩, ⟨Tryz.func30, ⟨Tryz.func29, ⟨Tryz.func28, trivial, trivial⟩, trivial⟩, ⟨Tryz.func31, trivial, trivial⟩⟩⟩, ⟨Tryz.func37, ⟨Tryz.func35, ⟨Tryz.func34, ⟨Tryz.func33, trivial, trivial⟩, trivial⟩, ⟨Tryz.func36, trivial, trivial⟩⟩, ⟨Tryz.func39, ⟨Tryz.func38, trivial, trivial⟩, ⟨Tryz.func40, trivial, trivial⟩⟩⟩⟩⟩, ⟨Tryz.func62, ⟨Tryz.func53, ⟨Tryz.func46, ⟨Tryz.func44, ⟨Tryz.func43, ⟨Tryz.func42, trivial, trivial⟩, trivial⟩, ⟨Tryz.func45, trivial, trivial⟩⟩, ⟨Tryz.func51, ⟨Tryz.func49, ⟨Tryz.func47, trivial, trivial⟩, trivial⟩, ⟨Tryz.func52, trivial, trivial⟩⟩⟩, ⟨Tryz.func58, ⟨Tryz.func56, ⟨Tryz.func55, ⟨Tryz.func54, trivial, trivial⟩, trivial⟩, ⟨Tryz.func57, trivial, trivial⟩⟩, ⟨Tryz.func60, ⟨Tryz.func59, trivial, trivial⟩, ⟨Tryz.func61, trivial, trivial⟩⟩⟩⟩, ⟨Tryz.func71, ⟨Tryz.func67, ⟨Tryz.func65, ⟨Tryz.func64, ⟨Tryz.func63, trivial, trivial⟩, trivial⟩, ⟨Tryz.func66, trivial, trivial⟩⟩, ⟨Tryz.func69, ⟨Tryz.func68, trivial, trivial⟩, ⟨Tryz.func70, trivial, trivial⟩⟩⟩, ⟨Tryz.func76, ⟨Tryz.func74, ⟨Tryz.func73, ⟨Tryz.func72, trivial, trivial⟩, trivial⟩, ⟨Tryz.func75, trivial, trivial⟩⟩, ⟨Tryz.func79, ⟨Tryz.func78, trivial, trivial⟩, ⟨Tryz.func81, trivial, trivial⟩⟩⟩⟩⟩⟩, ⟨Tryz.func120, ⟨Tryz.func101, ⟨Tryz.func92, ⟨Tryz.func87, ⟨Tryz.func85, ⟨Tryz.func84, ⟨Tryz.func83, trivial, trivial⟩, trivial⟩, ⟨Tryz.func86, trivial, trivial⟩⟩, ⟨Tryz.func90, ⟨Tryz.func89, ⟨Tryz.func88, trivial, trivial⟩, trivial⟩, ⟨Tryz.func91, trivial, trivial⟩⟩⟩, ⟨Tryz.func97, ⟨Tryz.func95, ⟨Tryz.func94, ⟨Tryz.func93, trivial, trivial⟩, trivial⟩, ⟨Tryz.func96, trivial, trivial⟩⟩, ⟨Tryz.func99, ⟨Tryz.func98, trivial, trivial⟩, ⟨Tryz.func100, trivial, trivial⟩⟩⟩⟩, ⟨Tryz.func111, ⟨Tryz.func106, ⟨Tryz.func104, ⟨Tryz.func103, ⟨Tryz.func102, trivial, trivial⟩, trivial⟩, ⟨Tryz.func105, trivial, trivial⟩⟩, ⟨Tryz.func109, ⟨Tryz.func108, trivial, trivial⟩, ⟨Tryz.func110, trivial, trivial⟩⟩⟩, ⟨Tryz.func116, ⟨Tryz.func114, ⟨Tryz.func113, ⟨Tryz.func112, trivial, trivial⟩, trivial⟩, ⟨Tryz.func115, trivial, trivial⟩⟩, ⟨Tryz.func118, ⟨Tryz.func117, trivial, trivial⟩, ⟨Tryz.func119, trivial, trivial⟩⟩⟩⟩⟩, ⟨Tryz.func140, ⟨Tryz.func131, ⟨Tryz.func126, ⟨Tryz.func124, ⟨Tryz.func122, ⟨Tryz.func121, trivial, trivial⟩, trivial⟩, ⟨Tryz.func125, trivial, trivial⟩⟩, ⟨Tryz.func129, ⟨Tryz.func128, ⟨Tryz.func127, trivial, trivial⟩, trivial⟩, ⟨Tryz.func130, trivial, trivial⟩⟩⟩, ⟨Tryz.func136, ⟨Tryz.func134, ⟨Tryz.func133, ⟨Tryz.func132, trivial, trivial⟩, trivial⟩, ⟨Tryz.func135, trivial, trivial⟩⟩, ⟨Tryz.func138, ⟨Tryz.func137, trivial, trivial⟩, ⟨Tryz.func139, trivial, trivial⟩⟩⟩⟩, ⟨Tryz.func149, ⟨Tryz.func145, ⟨Tryz.func143, ⟨Tryz.func142, ⟨Tryz.func141, trivial, trivial⟩, trivial⟩, ⟨Tryz.func144, trivial, trivial⟩⟩, ⟨Tryz.func147, ⟨Tryz.func146, trivial, trivial⟩, ⟨Tryz.func148, trivial, trivial⟩⟩⟩, ⟨Tryz.func154, ⟨Tryz.func152, ⟨Tryz.func151, ⟨Tryz.func150, trivial, trivial⟩, trivial⟩, ⟨Tryz.func153, trivial, trivial⟩⟩, ⟨Tryz.func156, ⟨Tryz.func155, trivial, trivial⟩, ⟨Tryz.func157, trivial, trivial⟩⟩⟩⟩⟩⟩⟩, ⟨Tryz.func237, ⟨Tryz.func200, ⟨Tryz.func179, ⟨Tryz.func170, ⟨Tryz.func164, ⟨Tryz.func162, ⟨Tryz.func161, ⟨Tryz.func160, trivial, trivial⟩, trivial⟩, ⟨Tryz.func163, trivial, trivial⟩⟩, ⟨Tryz.func167, ⟨Tryz.func166, ⟨Tryz.func165, trivial, trivial⟩, trivial⟩, ⟨Tryz.func168, trivial, trivial⟩⟩⟩, ⟨Tryz.func175, ⟨Tryz.func173, ⟨Tryz.func172, ⟨Tryz.func171, trivial, trivial⟩, trivial⟩, ⟨Tryz.func174, trivial, trivial⟩⟩, ⟨Tryz.func177, ⟨Tryz.func176, trivial, trivial⟩, ⟨Tryz.func178, trivial, trivial⟩⟩⟩⟩, ⟨Tryz.func191, ⟨Tryz.func185, ⟨Tryz.func182, ⟨Tryz.func181, ⟨Tryz.func180, trivial, trivial⟩, trivial⟩, ⟨Tryz.func183, trivial, trivial⟩⟩, ⟨Tryz.func189, ⟨Tryz.func187, ⟨Tryz.func186, trivial, trivial⟩, trivial⟩, ⟨Tryz.func190, trivial, trivial⟩⟩⟩, ⟨Tryz.func196, ⟨Tryz.func194, ⟨Tryz.func193, ⟨Tryz.func192, trivial, trivial⟩, trivial⟩, ⟨Tryz.func195, trivial, trivial⟩⟩, ⟨Tryz.func198, ⟨Tryz.func197, trivial, trivial⟩, ⟨Tryz.func199, trivial, trivial⟩⟩⟩⟩⟩, ⟨Tryz.func219, ⟨Tryz.func210, ⟨Tryz.func205, ⟨Tryz.func203, ⟨Tryz.func202, ⟨Tryz.func201, trivial, trivial⟩, trivial⟩, ⟨Tryz.func204, trivial, trivial⟩⟩, ⟨Tryz.func208, ⟨Tryz.func207, ⟨Tryz.func206, trivial, trivial⟩, trivial⟩, ⟨Tryz.func209, trivial, trivial⟩⟩⟩, ⟨Tryz.func215, ⟨Tryz.func213, ⟨Tryz.func212, ⟨Tryz.func211, trivial, trivial⟩, trivial⟩, ⟨Tryz.func214, trivial, trivial⟩⟩, ⟨Tryz.func217, ⟨Tryz.func216, trivial, trivial⟩, ⟨Tryz.func218, trivial, trivial⟩⟩⟩⟩, ⟨Tryz.func228, ⟨Tryz.func224, ⟨Tryz.func222, ⟨Tryz.func221, ⟨Tryz.func220, trivial, trivial⟩, trivial⟩, ⟨Tryz.func223, trivial, trivial⟩⟩, ⟨Tryz.func226, ⟨Tryz.func225, trivial, trivial⟩, ⟨Tryz.func227, trivial, trivial⟩⟩⟩, ⟨Tryz.func233, ⟨Tryz.func231, ⟨Tryz.func230, ⟨Tryz.func229, trivial, trivial⟩, trivial⟩, ⟨Tryz.func232, trivial, trivial⟩⟩, ⟨Tryz.func235, ⟨Tryz.func234, trivial, trivial⟩, ⟨Tryz.func236, trivial, trivial⟩⟩⟩⟩⟩⟩, ⟨Tryz.func276, ⟨Tryz.func258, ⟨Tryz.func247, ⟨Tryz.func242, ⟨Tryz.func240, ⟨Tryz.func239, ⟨Tryz.func238, trivial, trivial⟩, trivial⟩, ⟨Tryz.func241, trivial, trivial⟩⟩, ⟨Tryz.func245, ⟨Tryz.func244, ⟨Tryz.func243, trivial, trivial⟩, trivial⟩, ⟨Tryz.func246, trivial, trivial⟩⟩⟩, ⟨Tryz.func252, ⟨Tryz.func250, ⟨Tryz.func249, ⟨Tryz.func248, trivial, trivial⟩, trivial⟩, ⟨Tryz.func251, trivial, trivial⟩⟩, ⟨Tryz.func254, ⟨Tryz.func253, trivial, trivial⟩, ⟨Tryz.func257, trivial, trivial⟩⟩⟩⟩, ⟨Tryz.func267, ⟨Tryz.func263, ⟨Tryz.func261, ⟨Tryz.func260, ⟨Tryz.func259, trivial, trivial⟩, trivial⟩, ⟨Tryz.func262, trivial, trivial⟩⟩, ⟨Tryz.func265, ⟨Tryz.func264, trivial, trivial⟩, ⟨Tryz.func266, trivial, trivial⟩⟩⟩, ⟨Tryz.func272, ⟨Tryz.func270, ⟨Tryz.func269, ⟨Tryz.func268, trivial, trivial⟩, trivial⟩, ⟨Tryz.func271, trivial, trivial⟩⟩, ⟨Tryz.func274, ⟨Tryz.func273, trivial, trivial⟩, ⟨Tryz.func275, trivial, trivial⟩⟩⟩⟩⟩, ⟨Tryz.func295, ⟨Tryz.func286, ⟨Tryz.func281, ⟨Tryz.func279, ⟨Tryz.func278, ⟨Tryz.func277, trivial, trivial⟩, trivial⟩, ⟨Tryz.func280, trivial, trivial⟩⟩, ⟨Tryz.func284, ⟨Tryz.func283, ⟨Tryz.func282, trivial, trivial⟩, trivial⟩, ⟨Tryz.func285, trivial, trivial⟩⟩⟩, ⟨Tryz.func291, ⟨Tryz.func289, ⟨Tryz.func288, ⟨Tryz.func287, trivial, trivial⟩, trivial⟩, ⟨Tryz.func290, trivial, trivial⟩⟩, ⟨Tryz.func293, ⟨Tryz.func292, trivial, trivial⟩, ⟨Tryz.func294, trivial, trivial⟩⟩⟩⟩, ⟨Tryz.func304, ⟨Tryz.func300, ⟨Tryz.func298, ⟨Tryz.func297, ⟨Tryz.func296, trivial, trivial⟩, trivial⟩, ⟨Tryz.func299, trivial, trivial⟩⟩, ⟨Tryz.func302, ⟨Tryz.func301, trivial, trivial⟩, ⟨Tryz.func303, trivial, trivial⟩⟩⟩, ⟨Tryz.func309, ⟨Tryz.func307, ⟨Tryz.func306, ⟨Tryz.func305, trivial, trivial⟩, trivial⟩, ⟨Tryz.func308, trivial, trivial⟩⟩, ⟨Tryz.func332, ⟨Tryz.func310, trivial, trivial⟩, ⟨Tryz.func333, trivial, trivial⟩⟩⟩⟩⟩⟩⟩⟩
def gl : Nat → V := fun g => match g with
 | 0 => .pref [.str [102, 97, 108, 115, 101], .str [116, 114, 117, 101]]
 | 1 => .pref [.str [124, 124], .str [38, 38], .str [61, 61], .str [33, 61], .str [60, 61], .str [62, 61], .str [40], .str [41], .str [123], .str [125], .str [91], .str [93], .str [44], .str [59], .str [61], .str [60], .str [62], .str [43], .str [45], .str [42], .str [47], .str [37], .str [33]]
 | 2 => .pref [.str [102, 117, 110, 99], .str [118, 97, 114], .str [105, 102], .str [101, 108, 115, 101], .str [119, 104, 105, 108, 101], .str [114, 101, 116, 117, 114, 110], .str [112, 114, 105, 110, 116], .str [114, 101, 97, 100], .str [110, 101, 119], .str [108, 101, 110], .str [105, 110, 116], .str [98, 111, 111, 108], .str [97, 114, 114, 97, 121], .str [116, 114, 117, 101], .str [102, 97, 108, 115, 101]]
 | 5 => .pref [.str [], .str [105, 110, 116], .str [98, 111, 111, 108], .str [97, 114, 114, 97, 121]]
 | 6 => .pref [.nilf, .clo 332 [] [], .clo 333 [] [], .nilf, .clo 333 [] [], .clo 333 [] [], .nilf, .clo 333 [] [], .nilf]
 | 7 => .pref [.int .u8 0, .int .u8 0, .int .u8 0, .int .u8 0, .int .u8 0, .int .u8 0, .int .u8 0, .int .u8 0, .int .u8 0, .int .u8 1, .int .u8 1, .int .u8 1, .int .u8 1, .int .u8 1, .int .u8 0, .int .u8 0, .int .u8 0, .int .u8 0, .int .u8 0, .int .u8 0, .int .u8 0, .int .u8 0, .int .u8 0, .int .u8 0, .int .u8 0, .int .u8 0, .int .u8 0, .int .u8 0, .int .u8 0, .int .u8 0, .int .u8 0, .int .u8 0, .int .u8 1, .int .u8 0, .int .u8 0, .int .u8 0, .int .u8 0, .int .u8 0, .int .u8 0, .int .u8 0, .int .u8 0, .int .u8 0, .int .u8 0, .int .u8 0, .int .u8 0, .int .u8 0, .int .u8 0, .int .u8 0, .int .u8 0, .int .u8 0, .int .u8 0, .int .u8 0, .int .u8 0, .int .u8 0, .int .u8 0, .int .u8 0, .int .u8 0, .int .u8 0, .int .u8 0, .int .u8 0, .int .u8 0, .int .u8 0, .int .u8 0, .int .u8 0, .int .u8 0, .int .u8 0, .int .u8 0, .int .u8 0, .int .u8 0, .int .u8 0, .int .u8 0, .int .u8 0, .int .u8 0, .int .u8 0, .int .u8 0, .int .u8 0, .int .u8 0, .int .u8 0, .int .u8 0, .int .u8 0, .int .u8 0, .int .u8 0, .int .u8 0, .int .u8 0, .int .u8 0, .int .u8 0, .int .u8 0, .int .u8 0, .int .u8 0, .int .u8 0, .int .u8 0, .int .u8 0, .int .u8 0, .int .u8 0, .int .u8 0, .int .u8 0, .int .u8 0, .int .u8 0, .int .u8 0, .int .u8 0, .int .u8 0, .int .u8 0, .int .u8 0, .int .u8 0, .int .u8 0, .int .u8 0, .int .u8 0, .int .u8 0, .int .u8 0, .int .u8 0, .int .u8 0, .int .u8 0, .int .u8 0, .int .u8 0, .int .u8 0, .int .u8 0, .int .u8 0, .int .u8 0, .int .u8 0, .int .u8 0, .int .u8 0, .int .u8 0, .int .u8 0, .int .u8 0, .int .u8 0, .int .u8 0, .int .u8 0, .int .u8 0, .int .u8 0, .int .u8 0, .int .u8 0, .int .u8 0, .int .u8 0, .int .u8 0, .int .u8 0, .int .u8 0, .int .u8 0, .int .u8 0, .int .u8 0, .int .u8 0, .int .u8 0, .int .u8 0, .int .u8 0, .int .u8 0, .int .u8 0, .int .u8 0, .int .u8 0, .int .u8 0, .int .u8 0, .int .u8 0, .int .u8 0, .int .u8 0, .int .u8 0, .int .u8 0, .int .u8 0, .int .u8 0, .int .u8 0, .int .u8 0, .int .u8 0, .int .u8 0, .int .u8 0, .int .u8 0, .int .u8 0, .int .u8 0, .int .u8 0, .int .u8 0, .int .u8 0, .int .u8 0, .int .u8 0, .int .u8 0, .int .u8 0, .int .u8 0, .int .u8 0, .int .u8 0, .int .u8 0, .int .u8 0, .int .u8 0, .int .u8 0, .int .u8 0, .int .u8 0, .int .u8 0, .int .u8 0, .int .u8 0, .int .u8 0, .int .u8 0, .int .u8 0, .int .u8 0, .int .u8 0, .int .u8 0, .int .u8 0, .int .u8 0, .int .u8 0, .int .u8 0, .int .u8 0, .int .u8 0, .int .u8 0, .int .u8 0, .int .u8 0, .int .u8 0, .int .u8 0, .int .u8 0, .int .u8 0, .int .u8 0, .int .u8 0, .int .u8 0, .int .u8 0, .int .u8 0, .int .u8 0, .int .u8 0, .int .u8 0, .int .u8 0, .int .u8 0, .int .u8 0, .int .u8 0, .int .u8 0, .int .u8 0, .int .u8 0, .int .u8 0, .int .u8 0, .int .u8 0, .int .u8 0, .int .u8 0, .int .u8 0, .int .u8 0, .int .u8 0, .int .u8 0, .int .u8 0, .int .u8 0, .int .u8 0, .int .u8 0, .int .u8 0, .int .u8 0, .int .u8 0, .int .u8 0, .int .u8 0, .int .u8 0, .int .u8 0, .int .u8 0, .int .u8 0, .int .u8 0, .int .u8 0, .int .u8 0, .int .u8 0, .int .u8 0, .int .u8 0, .int .u8 0, .int .u8 0, .int .u8 0, .int .u8 0, .int .u8 0, .int .u8 0, .int .u8 0, .int .u8 0, .int .u8 0, .int .u8 0, .int .u8 0]
 | _ => .top
def visitV : Nat → V → List V → Nat → List V → Option (List V)
  | 0, _, _, _, _ => none
  | _ + 1, _, _, _, [] => some []
  | n + 1, par, blk, i, s :: r =>
    (match visitV n (.pref (par :: (s.cells ++ [.seq 155 blk, .int .i64 i]))) (s.cell 6).toL 0 (s.cell 6).toL, visitV n (.pref (par :: (s.cells ++ [.seq 155 blk, .int .i64 i]))) (s.cell 7).toL 0 (s.cell 7).toL, visitV n par blk (i + 1) r with
    | some a, some b, some c => some (.pref (par :: (s.cells ++ [.seq 155 blk, .int .i64 i])) :: (a ++ (b ++ c)))
    | _, _, _ => none)
def itT : FuncId → List V → Option (List V) := fun f caps => match f, caps with
  | 162, [.pref fc] => (visitV 300 .nilp (fc.getD 3 .top).toL 0 (fc.getD 3 .top).toL).map fun l => l.map fun p => .tup [p]
  | 127, [.pref fc] => (visitV 300 .nilp (fc.getD 3 .top).toL 0 (fc.getD 3 .top).toL).map fun l => l.map fun p => (match p with | .pref cs => .tup [cs.getD 2 .top, .agg ((cs.drop 1).take 8)] | _ => .top)
  | _, _ => none
noncomputable def ovTab : Tab Model := (.node 107 mCount (.node 50 (mClone 76) (.node 48 (mClone 3) (.node 18 (mClone 26) .leaf .leaf) .leaf) (.node 80 (mClone 165) (.node 77 (mCloneB 106) .leaf .leaf) .leaf)) (.node 169 (mClone 4) (.node 159 (mCloneB 258) (.node 123 (mCloneB 155) .leaf .leaf) .leaf) (.node 184 mIndexByte .leaf .leaf)))
noncomputable def LG0 : Lang := { ty := T, glob := gl, mode := modeTab.get [], it := itT, fd := fdTab.find, ov := ovTab.find }
theorem fdAll : ∀ f d, LG0.fd f = some d → FdOk Tryz.prog LG0 f d := fdTab_ok rfl fdTab_fn (by kernel_rfl)
end Go.Proofs.YtpngkkalomiggaaGreatDoor

namespace Go.Proofs.YtpngkkalomiggaaGreatDoor
open Go Go.AH Go.RowKit
set_option maxRecDepth 10000
set_option maxHeartbeats 400000 in
theorem cloneE18 (a : Option Addr) (cap : Nat) (w : World) : Calls Tryz.prog 18 #[.slice a 0 cap] w fun e w' => (∃ a' c', e = .returned (.slice a' 0 c')) ∧ Below w.heap.size w w' := by
  go_enter Tryz.func18, Tryz.ntmps18
  cases a with
  | none =>
    go_wp2
    rw [eqlS Tryz.underlying22]
    go_wp2
    refine bodyPost_ret (v := .slice none 0 0) ?_ rfl ⟨⟨_, _, rfl⟩, Below.refl _ _⟩
    simp [results, Tryz.results18, go_sem]
  | some ad =>
    go_wp2
    rw [eqlS Tryz.underlying22]
    go_wp2
    refine bodyPost_ret (v := .slice (some ⟨w.heap.size, 0, none⟩) 0 0) ?_ rfl ⟨⟨_, _, rfl⟩, (Below.refl _ _).alloc (Nat.le_refl _) _⟩
    simp [results, Tryz.results18, go_sem]
set_option maxHeartbeats 400000 in
theorem cloneN18 (ad : Option Addr) (n cap : Nat) (w w' : World) (r : Value) (_ : n ≠ 0) (hnn : ad.isNone = false) (hrun : (Builtin.append_ #[22, 22] 22 #[.slice (some ⟨w.heap.size, 0, none⟩) 0 0, .slice ad n cap]).run Tryz.prog (w.alloc (.cells #[] 26)) = .ok r w') : Calls Tryz.prog 18 #[.slice ad n cap] w fun e w'' => e = .returned r ∧ w'' = w' := by
  go_enter Tryz.func18, Tryz.ntmps18
  cases ad with
  | none => cases hnn
  | some ad =>
    go_wp2
    rw [eqlS Tryz.underlying22]
    go_wp2_with (refine wpList_append_run rfl (.tmp 5) (.tmp 6) _ rfl rfl rfl hrun ?_)
    refine bodyPost_ret (v := r) ?_ rfl ⟨rfl, rfl⟩
    simp [results, Tryz.results18, go_sem]
theorem clone18 : Holds T gl Tryz.prog 18 (mClone 26) :=
  mClone_holds tyOk (f := 18) (fn := Tryz.f18) (t := 22) (ty := 22) Tryz.func18 rfl rfl cloneE18 Tryz.underlying22 (by kernel_rfl) cloneN18
set_option maxHeartbeats 400000 in
theorem cloneE48 (a : Option Addr) (cap : Nat) (w : World) : Calls Tryz.prog 48 #[.slice a 0 cap] w fun e w' => (∃ a' c', e = .returned (.slice a' 0 c')) ∧ Below w.heap.size w w' := by
  go_enter Tryz.func48, Tryz.ntmps48
  cases a with
  | none =>
    go_wp2
    rw [eqlS Tryz.underlying65]
    go_wp2
    refine bodyPost_ret (v := .slice none 0 0) ?_ rfl ⟨⟨_, _, rfl⟩, Below.refl _ _⟩
    simp [results, Tryz.results48, go_sem]
  | some ad =>
    go_wp2
    rw [eqlS Tryz.underlying65]
    go_wp2
    refine bodyPost_ret (v := .slice (some ⟨w.heap.size, 0, none⟩) 0 0) ?_ rfl ⟨⟨_, _, rfl⟩, (Below.refl _ _).alloc (Nat.le_refl _) _⟩
    simp [results, Tryz.results48, go_sem]
set_option maxHeartbeats 400000 in
theorem cloneN48 (ad : Option Addr) (n cap : Nat) (w w' : World) (r : Value) (_ : n ≠ 0) (hnn : ad.isNone = false) (hrun : (Builtin.append_ #[65, 65] 65 #[.slice (some ⟨w.heap.size, 0, none⟩) 0 0, .slice ad n cap]).run Tryz.prog (w.alloc (.cells #[] 3)) = .ok r w') : Calls Tryz.prog 48 #[.slice ad n cap] w fun e w'' => e = .returned r ∧ w'' = w' := by
  go_enter Tryz.func48, Tryz.ntmps48
  cases ad with
  | none => cases hnn
  | some ad =>
    go_wp2
    rw [eqlS Tryz.underlying65]
    go_wp2_with (refine wpList_append_run rfl (.tmp 5) (.tmp 6) _ rfl rfl rfl hrun ?_)
    refine bodyPost_ret (v := r) ?_ rfl ⟨rfl, rfl⟩
    simp [results, Tryz.results48, go_sem]
theorem clone48 : Holds T gl Tryz.prog 48 (mClone 3) :=
  mClone_holds tyOk (f := 48) (fn := Tryz.f48) (t := 65) (ty := 65) Tryz.func48 rfl rfl cloneE48 Tryz.underlying65 (by kernel_rfl) cloneN48
set_option maxHeartbeats 400000 in
theorem cloneE50 (a : Option Addr) (cap : Nat) (w : World) : Calls Tryz.prog 50 #[.slice a 0 cap] w fun e w' => (∃ a' c', e = .returned (.slice a' 0 c')) ∧ Below w.heap.size w w' := by
  go_enter Tryz.func50, Tryz.ntmps50
  cases a with
  | none =>
    go_wp2
    rw [eqlS Tryz.underlying73]
    go_wp2
    refine bodyPost_ret (v := .slice none 0 0) ?_ rfl ⟨⟨_, _, rfl⟩, Below.refl _ _⟩
    simp [results, Tryz.results50, go_sem]
  | some ad =>
    go_wp2
    rw [eqlS Tryz.underlying73]
    go_wp2
    refine bodyPost_ret (v := .slice (some ⟨w.heap.size, 0, none⟩) 0 0) ?_ rfl ⟨⟨_, _, rfl⟩, (Below.refl _ _).alloc (Nat.le_refl _) _⟩
    simp [results, Tryz.results50, go_sem]
set_option maxHeartbeats 400000 in
theorem cloneN50 (ad : Option Addr) (n cap : Nat) (w w' : World) (r : Value) (_ : n ≠ 0) (hnn : ad.isNone = false) (hrun : (Builtin.append_ #[73, 73] 73 #[.slice (some ⟨w.heap.size, 0, none⟩) 0 0, .slice ad n cap]).run Tryz.prog (w.alloc (.cells #[] 76)) = .ok r w') : Calls Tryz.prog 50 #[.slice ad n cap] w fun e w'' => e = .returned r ∧ w'' = w' := by
  go_enter Tryz.func50, Tryz.ntmps50
  cases ad with
  | none => cases hnn
  | some ad =>
    go_wp2
    rw [eqlS Tryz.underlying73]
    go_wp2_with (refine wpList_append_run rfl (.tmp 5) (.tmp 6) _ rfl rfl rfl hrun ?_)
    refine bodyPost_ret (v := r) ?_ rfl ⟨rfl, rfl⟩
    simp [results, Tryz.results50, go_sem]
theorem clone50 : Holds T gl Tryz.prog 50 (mClone 76) :=
  mClone_holds tyOk (f := 50) (fn := Tryz.f50) (t := 73) (ty := 73) Tryz.func50 rfl rfl cloneE50 Tryz.underlying73 (by kernel_rfl) cloneN50
set_option maxHeartbeats 400000 in
theorem cloneE169 (a : Option Addr) (cap : Nat) (w : World) : Calls Tryz.prog 169 #[.slice a 0 cap] w fun e w' => (∃ a' c', e = .returned (.slice a' 0 c')) ∧ Below w.heap.size w w' := by
  go_enter Tryz.func169, Tryz.ntmps169
  cases a with
  | none =>
    go_wp2
    rw [eqlS Tryz.underlying124]
    go_wp2
    refine bodyPost_ret (v := .slice none 0 0) ?_ rfl ⟨⟨_, _, rfl⟩, Below.refl _ _⟩
    simp [results, Tryz.results169, go_sem]
  | some ad =>
    go_wp2
    rw [eqlS Tryz.underlying124]
    go_wp2
    refine bodyPost_ret (v := .slice (some ⟨w.heap.size, 0, none⟩) 0 0) ?_ rfl ⟨⟨_, _, rfl⟩, (Below.refl _ _).alloc (Nat.le_refl _) _⟩
    simp [results, Tryz.results169, go_sem]
set_option maxHeartbeats 400000 in
theorem cloneN169 (ad : Option Addr) (n cap : Nat) (w w' : World) (r : Value) (_ : n ≠ 0) (hnn : ad.isNone = false) (hrun : (Builtin.append_ #[124, 124] 124 #[.slice (some ⟨w.heap.size, 0, none⟩) 0 0, .slice ad n cap]).run Tryz.prog (w.alloc (.cells #[] 4)) = .ok r w') : Calls Tryz.prog 169 #[.slice ad n cap] w fun e w'' => e = .returned r ∧ w'' = w' := by
  go_enter Tryz.func169, Tryz.ntmps169
  cases ad with
  | none => cases hnn
  | some ad =>
    go_wp2
    rw [eqlS Tryz.underlying124]
    go_wp2_with (refine wpList_append_run rfl (.tmp 5) (.tmp 6) _ rfl rfl rfl hrun ?_)
    refine bodyPost_ret (v := r) ?_ rfl ⟨rfl, rfl⟩
    simp [results, Tryz.results169, go_sem]
theorem clone169 : Holds T gl Tryz.prog 169 (mClone 4) :=
  mClone_holds tyOk (f := 169) (fn := Tryz.f169) (t := 124) (ty := 124) Tryz.func169 rfl rfl cloneE169 Tryz.underlying124 (by kernel_rfl) cloneN169
set_option maxHeartbeats 400000 in
theorem cloneE80 (a : Option Addr) (cap : Nat) (w : World) : Calls Tryz.prog 80 #[.slice a 0 cap] w fun e w' => (∃ a' c', e = .returned (.slice a' 0 c')) ∧ Below w.heap.size w w' := by
  go_enter Tryz.func80, Tryz.ntmps80
  cases a with
  | none =>
    go_wp2
    rw [eqlS Tryz.underlying103]
    go_wp2
    refine bodyPost_ret (v := .slice none 0 0) ?_ rfl ⟨⟨_, _, rfl⟩, Below.refl _ _⟩
    simp [results, Tryz.results80, go_sem]
  | some ad =>
    go_wp2
    rw [eqlS Tryz.underlying103]
    go_wp2
    refine bodyPost_ret (v := .slice (some ⟨w.heap.size, 0, none⟩) 0 0) ?_ rfl ⟨⟨_, _, rfl⟩, (Below.refl _ _).alloc (Nat.le_refl _) _⟩
    simp [results, Tryz.results80, go_sem]
set_option maxHeartbeats 400000 in
theorem cloneN80 (ad : Option Addr) (n cap : Nat) (w w' : World) (r : Value) (_ : n ≠ 0) (hnn : ad.isNone = false) (hrun : (Builtin.append_ #[103, 103] 103 #[.slice (some ⟨w.heap.size, 0, none⟩) 0 0, .slice ad n cap]).run Tryz.prog (w.alloc (.cells #[] 165)) = .ok r w') : Calls Tryz.prog 80 #[.slice ad n cap] w fun e w'' => e = .returned r ∧ w'' = w' := by
  go_enter Tryz.func80, Tryz.ntmps80
  cases ad with
  | none => cases hnn
  | some ad =>
    go_wp2
    rw [eqlS Tryz.underlying103]
    go_wp2_with (refine wpList_append_run rfl (.tmp 5) (.tmp 6) _ rfl rfl rfl hrun ?_)
    refine bodyPost_ret (v := r) ?_ rfl ⟨rfl, rfl⟩
    simp [results, Tryz.results80, go_sem]
theorem clone80 : Holds T gl Tryz.prog 80 (mClone 165) :=
  mClone_holds tyOk (f := 80) (fn := Tryz.f80) (t := 103) (ty := 103) Tryz.func80 rfl rfl cloneE80 Tryz.underlying103 (by kernel_rfl) cloneN80
set_option maxHeartbeats 400000 in
theorem cloneE77 (a : Option Addr) (cap : Nat) (w : World) : Calls Tryz.prog 77 #[.slice a 0 cap] w fun e w' => (∃ a' c', e = .returned (.slice a' 0 c')) ∧ Below w.heap.size w w' := by
  go_enter Tryz.func77, Tryz.ntmps77
  cases a with
  | none =>
    go_wp2
    rw [eqlS Tryz.underlying38]
    go_wp2
    refine bodyPost_ret (v := .slice none 0 0) ?_ rfl ⟨⟨_, _, rfl⟩, Below.refl _ _⟩
    simp [results, Tryz.results77, go_sem]
  | some ad =>
    go_wp2
    rw [eqlS Tryz.underlying38]
    go_wp2
    refine bodyPost_ret (v := .slice (some ⟨w.heap.size, 0, none⟩) 0 0) ?_ rfl ⟨⟨_, _, rfl⟩, (Below.refl _ _).alloc (Nat.le_refl _) _⟩
    simp [results, Tryz.results77, go_sem]
set_option maxHeartbeats 400000 in
theorem cloneN77 (ad : Option Addr) (n cap : Nat) (w w' : World) (r : Value) (_ : n ≠ 0) (hnn : ad.isNone = false) (hrun : (Builtin.append_ #[38, 38] 38 #[.slice (some ⟨w.heap.size, 0, none⟩) 0 0, .slice ad n cap]).run Tryz.prog (w.alloc (.cells #[] 106)) = .ok r w') : Calls Tryz.prog 77 #[.slice ad n cap] w fun e w'' => e = .returned r ∧ w'' = w' := by
  go_enter Tryz.func77, Tryz.ntmps77
  cases ad with
  | none => cases hnn
  | some ad =>
    go_wp2
    rw [eqlS Tryz.underlying38]
    go_wp2_with (refine wpList_append_run rfl (.tmp 5) (.tmp 6) _ rfl rfl rfl hrun ?_)
    refine bodyPost_ret (v := r) ?_ rfl ⟨rfl, rfl⟩
    simp [results, Tryz.results77, go_sem]
theorem clone77 : Holds T gl Tryz.prog 77 (mCloneB 106) :=
  mCloneB_holds tyOk (f := 77) (fn := Tryz.f77) (t := 38) (ty := 38) Tryz.func77 rfl rfl cloneE77 Tryz.underlying38 (by kernel_rfl) cloneN77
set_option maxHeartbeats 400000 in
theorem cloneE123 (a : Option Addr) (cap : Nat) (w : World) : Calls Tryz.prog 123 #[.slice a 0 cap] w fun e w' => (∃ a' c', e = .returned (.slice a' 0 c')) ∧ Below w.heap.size w w' := by
  go_enter Tryz.func123, Tryz.ntmps123
  cases a with
  | none =>
    go_wp2
    rw [eqlS Tryz.underlying104]
    go_wp2
    refine bodyPost_ret (v := .slice none 0 0) ?_ rfl ⟨⟨_, _, rfl⟩, Below.refl _ _⟩
    simp [results, Tryz.results123, go_sem]
  | some ad =>
    go_wp2
    rw [eqlS Tryz.underlying104]
    go_wp2
    refine bodyPost_ret (v := .slice (some ⟨w.heap.size, 0, none⟩) 0 0) ?_ rfl ⟨⟨_, _, rfl⟩, (Below.refl _ _).alloc (Nat.le_refl _) _⟩
    simp [results, Tryz.results123, go_sem]
set_option maxHeartbeats 400000 in
theorem cloneN123 (ad : Option Addr) (n cap : Nat) (w w' : World) (r : Value) (_ : n ≠ 0) (hnn : ad.isNone = false) (hrun : (Builtin.append_ #[104, 104] 104 #[.slice (some ⟨w.heap.size, 0, none⟩) 0 0, .slice ad n cap]).run Tryz.prog (w.alloc (.cells #[] 155)) = .ok r w') : Calls Tryz.prog 123 #[.slice ad n cap] w fun e w'' => e = .returned r ∧ w'' = w' := by
  go_enter Tryz.func123, Tryz.ntmps123
  cases ad with
  | none => cases hnn
  | some ad =>
    go_wp2
    rw [eqlS Tryz.underlying104]
    go_wp2_with (refine wpList_append_run rfl (.tmp 5) (.tmp 6) _ rfl rfl rfl hrun ?_)
    refine bodyPost_ret (v := r) ?_ rfl ⟨rfl, rfl⟩
    simp [results, Tryz.results123, go_sem]
theorem clone123 : Holds T gl Tryz.prog 123 (mCloneB 155) :=
  mCloneB_holds tyOk (f := 123) (fn := Tryz.f123) (t := 104) (ty := 104) Tryz.func123 rfl rfl cloneE123 Tryz.underlying104 (by kernel_rfl) cloneN123
set_option maxHeartbeats 400000 in
theorem cloneE159 (a : Option Addr) (cap : Nat) (w : World) : Calls Tryz.prog 159 #[.slice a 0 cap] w fun e w' => (∃ a' c', e = .returned (.slice a' 0 c')) ∧ Below w.heap.size w w' := by
  go_enter Tryz.func159, Tryz.ntmps159
  cases a with
  | none =>
    go_wp2
    rw [eqlS Tryz.underlying153]
    go_wp2
    refine bodyPost_ret (v := .slice none 0 0) ?_ rfl ⟨⟨_, _, rfl⟩, Below.refl _ _⟩
    simp [results, Tryz.results159, go_sem]
  | some ad =>
    go_wp2
    rw [eqlS Tryz.underlying153]
    go_wp2
    refine bodyPost_ret (v := .slice (some ⟨w.heap.size, 0, none⟩) 0 0) ?_ rfl ⟨⟨_, _, rfl⟩, (Below.refl _ _).alloc (Nat.le_refl _) _⟩
    simp [results, Tryz.results159, go_sem]
set_option maxHeartbeats 400000 in
theorem cloneN159 (ad : Option Addr) (n cap : Nat) (w w' : World) (r : Value) (_ : n ≠ 0) (hnn : ad.isNone = false) (hrun : (Builtin.append_ #[153, 153] 153 #[.slice (some ⟨w.heap.size, 0, none⟩) 0 0, .slice ad n cap]).run Tryz.prog (w.alloc (.cells #[] 258)) = .ok r w') : Calls Tryz.prog 159 #[.slice ad n cap] w fun e w'' => e = .returned r ∧ w'' = w' := by
  go_enter Tryz.func159, Tryz.ntmps159
  cases ad with
  | none => cases hnn
  | some ad =>
    go_wp2
    rw [eqlS Tryz.underlying153]
    go_wp2_with (refine wpList_append_run rfl (.tmp 5) (.tmp 6) _ rfl rfl rfl hrun ?_)
    refine bodyPost_ret (v := r) ?_ rfl ⟨rfl, rfl⟩
    simp [results, Tryz.results159, go_sem]
theorem clone159 : Holds T gl Tryz.prog 159 (mCloneB 258) :=
  mCloneB_holds tyOk (f := 159) (fn := Tryz.f159) (t := 153) (ty := 153) Tryz.func159 rfl rfl cloneE159 Tryz.underlying153 (by kernel_rfl) cloneN159
end Go.Proofs.YtpngkkalomiggaaGreatDoor
