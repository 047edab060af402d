/- The formulas of the functions 4 of this seat, written by a program of my own (dec.py), each with its proof. -/
import Derived.Test.YtcemgjikmdbjgaaProg
import Derived.Test.YtcemgjikmdbjgaaSh
import Derived.KernelRfl
namespace Go.Proofs.Ytcemgjikmdbjgaa
open Go Go.Sh
set_option linter.unusedVariables false
set_option maxRecDepth 100000
def CX4_c17 (x132 : Addr) (x133 : Addr) (x134 : Addr) (x135 : Addr) (x136 : Bool) (x137 : Bool) (x138 : Bool) (w : World) (J : World → Prop) (K : Value → World → Prop) : Prop :=
  br x136
  (br x137
  (K (.bool false) w)
  (br x136
  (br (!(x138 == true))
  (K (.bool false) w)
  (∃ b139 : Bool, w.cell? x133 = some (.bool b139) ∧ ∃ n140 : Int, w.cell? (x133.add 1) = some (.int .u32 n140) ∧ ∃ n141 : Int, w.cell? (x133.add 2) = some (.int .u32 n141) ∧ ∃ b142 : Bool, w.cell? x134 = some (.bool b142) ∧ ∃ n143 : Int, w.cell? (x134.add 1) = some (.int .u32 n143) ∧ ∃ n144 : Int, w.cell? (x134.add 2) = some (.int .u32 n144) ∧ al w (.cells #[(.bool b139), (.int .u32 n140), (.int .u32 n141), (.bool b142), (.int .u32 n143), (.int .u32 n144)] 24) fun r145 w => ∃ n146 : Int, w.cell? x135 = some (.int .u32 n146) ∧ ∃ b147 : Bool, w.cell? (x135.add 1) = some (.bool b147) ∧ ∃ b148 : Bool, w.cell? (x135.add 2) = some (.bool b148) ∧ ∃ n149 : Int, w.cell? (x135.add 3) = some (.int .u8 n149) ∧ ∃ (p150 : Option Addr) (l151 c152 : Nat), w.cell? (x135.add 4) = some (.slice p150 l151 c152) ∧ callQ Try.prog 10 #[(.slice (some ⟨r145, 0, none⟩) 2 2), (.agg #[(.int .u32 n146), (.bool b147), (.bool b148), (.int .u8 n149), (.slice p150 l151 c152)])] w fun v153 w => ∃ b154 : Bool, v153 = (.bool b154) ∧ br (!(x138 == b154))
  (K (.bool false) w)
  (J w)))
  (br (!(x138 == x137))
  (K (.bool false) w)
  (∃ b155 : Bool, w.cell? x133 = some (.bool b155) ∧ ∃ n156 : Int, w.cell? (x133.add 1) = some (.int .u32 n156) ∧ ∃ n157 : Int, w.cell? (x133.add 2) = some (.int .u32 n157) ∧ ∃ b158 : Bool, w.cell? x134 = some (.bool b158) ∧ ∃ n159 : Int, w.cell? (x134.add 1) = some (.int .u32 n159) ∧ ∃ n160 : Int, w.cell? (x134.add 2) = some (.int .u32 n160) ∧ al w (.cells #[(.bool b155), (.int .u32 n156), (.int .u32 n157), (.bool b158), (.int .u32 n159), (.int .u32 n160)] 24) fun r161 w => ∃ n162 : Int, w.cell? x135 = some (.int .u32 n162) ∧ ∃ b163 : Bool, w.cell? (x135.add 1) = some (.bool b163) ∧ ∃ b164 : Bool, w.cell? (x135.add 2) = some (.bool b164) ∧ ∃ n165 : Int, w.cell? (x135.add 3) = some (.int .u8 n165) ∧ ∃ (p166 : Option Addr) (l167 c168 : Nat), w.cell? (x135.add 4) = some (.slice p166 l167 c168) ∧ callQ Try.prog 10 #[(.slice (some ⟨r161, 0, none⟩) 2 2), (.agg #[(.int .u32 n162), (.bool b163), (.bool b164), (.int .u8 n165), (.slice p166 l167 c168)])] w fun v169 w => ∃ b170 : Bool, v169 = (.bool b170) ∧ br (!(x138 == b170))
  (K (.bool false) w)
  (J w)))))
  (br x136
  (br (!(x138 == true))
  (K (.bool false) w)
  (∃ b171 : Bool, w.cell? x133 = some (.bool b171) ∧ ∃ n172 : Int, w.cell? (x133.add 1) = some (.int .u32 n172) ∧ ∃ n173 : Int, w.cell? (x133.add 2) = some (.int .u32 n173) ∧ ∃ b174 : Bool, w.cell? x134 = some (.bool b174) ∧ ∃ n175 : Int, w.cell? (x134.add 1) = some (.int .u32 n175) ∧ ∃ n176 : Int, w.cell? (x134.add 2) = some (.int .u32 n176) ∧ al w (.cells #[(.bool b171), (.int .u32 n172), (.int .u32 n173), (.bool b174), (.int .u32 n175), (.int .u32 n176)] 24) fun r177 w => ∃ n178 : Int, w.cell? x135 = some (.int .u32 n178) ∧ ∃ b179 : Bool, w.cell? (x135.add 1) = some (.bool b179) ∧ ∃ b180 : Bool, w.cell? (x135.add 2) = some (.bool b180) ∧ ∃ n181 : Int, w.cell? (x135.add 3) = some (.int .u8 n181) ∧ ∃ (p182 : Option Addr) (l183 c184 : Nat), w.cell? (x135.add 4) = some (.slice p182 l183 c184) ∧ callQ Try.prog 10 #[(.slice (some ⟨r177, 0, none⟩) 2 2), (.agg #[(.int .u32 n178), (.bool b179), (.bool b180), (.int .u8 n181), (.slice p182 l183 c184)])] w fun v185 w => ∃ b186 : Bool, v185 = (.bool b186) ∧ br (!(x138 == b186))
  (K (.bool false) w)
  (J w)))
  (br (!(x138 == x137))
  (K (.bool false) w)
  (∃ b187 : Bool, w.cell? x133 = some (.bool b187) ∧ ∃ n188 : Int, w.cell? (x133.add 1) = some (.int .u32 n188) ∧ ∃ n189 : Int, w.cell? (x133.add 2) = some (.int .u32 n189) ∧ ∃ b190 : Bool, w.cell? x134 = some (.bool b190) ∧ ∃ n191 : Int, w.cell? (x134.add 1) = some (.int .u32 n191) ∧ ∃ n192 : Int, w.cell? (x134.add 2) = some (.int .u32 n192) ∧ al w (.cells #[(.bool b187), (.int .u32 n188), (.int .u32 n189), (.bool b190), (.int .u32 n191), (.int .u32 n192)] 24) fun r193 w => ∃ n194 : Int, w.cell? x135 = some (.int .u32 n194) ∧ ∃ b195 : Bool, w.cell? (x135.add 1) = some (.bool b195) ∧ ∃ b196 : Bool, w.cell? (x135.add 2) = some (.bool b196) ∧ ∃ n197 : Int, w.cell? (x135.add 3) = some (.int .u8 n197) ∧ ∃ (p198 : Option Addr) (l199 c200 : Nat), w.cell? (x135.add 4) = some (.slice p198 l199 c200) ∧ callQ Try.prog 10 #[(.slice (some ⟨r193, 0, none⟩) 2 2), (.agg #[(.int .u32 n194), (.bool b195), (.bool b196), (.int .u8 n197), (.slice p198 l199 c200)])] w fun v201 w => ∃ b202 : Bool, v201 = (.bool b202) ∧ br (!(x138 == b202))
  (K (.bool false) w)
  (J w))))
def CY4_c17 (x132 : Addr) (x133 : Addr) (x134 : Addr) (w : World) (K : Value → World → Prop) : Prop :=
  ∃ b203 : Bool, w.cell? x132 = some (.bool b203) ∧ ∃ n204 : Int, w.cell? (x132.add 1) = some (.int .u32 n204) ∧ ∃ n205 : Int, w.cell? (x132.add 2) = some (.int .u32 n205) ∧ ∃ b206 : Bool, w.cell? x133 = some (.bool b206) ∧ ∃ n207 : Int, w.cell? (x133.add 1) = some (.int .u32 n207) ∧ ∃ n208 : Int, w.cell? (x133.add 2) = some (.int .u32 n208) ∧ callQ Try.prog 11 #[(.agg #[(.bool b203), (.int .u32 n204), (.int .u32 n205)]), (.agg #[(.bool b206), (.int .u32 n207), (.int .u32 n208)])] w fun v209 w => ∃ b210 : Bool, v209 = (.bool b210) ∧ br b210
  (∃ b211 : Bool, w.cell? x132 = some (.bool b211) ∧ ∃ n212 : Int, w.cell? (x132.add 1) = some (.int .u32 n212) ∧ ∃ n213 : Int, w.cell? (x132.add 2) = some (.int .u32 n213) ∧ ∃ b214 : Bool, w.cell? x134 = some (.bool b214) ∧ ∃ n215 : Int, w.cell? (x134.add 1) = some (.int .u32 n215) ∧ ∃ n216 : Int, w.cell? (x134.add 2) = some (.int .u32 n216) ∧ callQ Try.prog 11 #[(.agg #[(.bool b211), (.int .u32 n212), (.int .u32 n213)]), (.agg #[(.bool b214), (.int .u32 n215), (.int .u32 n216)])] w fun v217 w => ∃ b218 : Bool, v217 = (.bool b218) ∧ br b218
  (∃ b219 : Bool, w.cell? x133 = some (.bool b219) ∧ ∃ n220 : Int, w.cell? (x133.add 1) = some (.int .u32 n220) ∧ ∃ n221 : Int, w.cell? (x133.add 2) = some (.int .u32 n221) ∧ ∃ b222 : Bool, w.cell? x132 = some (.bool b222) ∧ ∃ n223 : Int, w.cell? (x132.add 1) = some (.int .u32 n223) ∧ ∃ n224 : Int, w.cell? (x132.add 2) = some (.int .u32 n224) ∧ callQ Try.prog 11 #[(.agg #[(.bool b219), (.int .u32 n220), (.int .u32 n221)]), (.agg #[(.bool b222), (.int .u32 n223), (.int .u32 n224)])] w fun v225 w => ∃ b226 : Bool, v225 = (.bool b226) ∧ br (!b226)
  (∃ b227 : Bool, w.cell? x134 = some (.bool b227) ∧ ∃ n228 : Int, w.cell? (x134.add 1) = some (.int .u32 n228) ∧ ∃ n229 : Int, w.cell? (x134.add 2) = some (.int .u32 n229) ∧ ∃ b230 : Bool, w.cell? x132 = some (.bool b230) ∧ ∃ n231 : Int, w.cell? (x132.add 1) = some (.int .u32 n231) ∧ ∃ n232 : Int, w.cell? (x132.add 2) = some (.int .u32 n232) ∧ callQ Try.prog 11 #[(.agg #[(.bool b227), (.int .u32 n228), (.int .u32 n229)]), (.agg #[(.bool b230), (.int .u32 n231), (.int .u32 n232)])] w fun v233 w => ∃ b234 : Bool, v233 = (.bool b234) ∧ br (!b234)
  (∃ b235 : Bool, w.cell? x133 = some (.bool b235) ∧ ∃ n236 : Int, w.cell? (x133.add 1) = some (.int .u32 n236) ∧ ∃ n237 : Int, w.cell? (x133.add 2) = some (.int .u32 n237) ∧ ∃ b238 : Bool, w.cell? x134 = some (.bool b238) ∧ ∃ n239 : Int, w.cell? (x134.add 1) = some (.int .u32 n239) ∧ ∃ n240 : Int, w.cell? (x134.add 2) = some (.int .u32 n240) ∧ callQ Try.prog 11 #[(.agg #[(.bool b235), (.int .u32 n236), (.int .u32 n237)]), (.agg #[(.bool b238), (.int .u32 n239), (.int .u32 n240)])] w fun v241 w => ∃ b242 : Bool, v241 = (.bool b242) ∧ br (!b242)
  (callQ Try.prog 12 #[] w fun v243 w => ∃ b244 : Bool, v243 = (.bool b244) ∧ K (.bool b244) w)
  (K (.bool false) w))
  (K (.bool false) w))
  (K (.bool false) w))
  (K (.bool false) w))
  (K (.bool false) w)
/-- A cut of function 4, at region 17. -/
def CS4_c17 (x132 : Addr) (x133 : Addr) (x134 : Addr) (x135 : Addr) (x136 : Bool) (x137 : Bool) (x138 : Bool) (w : World) (K : Value → World → Prop) : Prop :=
  jn (fun (w : World) => CY4_c17 x132 x133 x134 w K) fun J => CX4_c17 x132 x133 x134 x135 x136 x137 x138 w J K
abbrev envX4_c17 (x132 : Addr) (x133 : Addr) (x134 : Addr) (x135 : Addr) (x136 : Bool) (x137 : Bool) (x138 : Bool) : Env := [(3, (.pointer (some x132))), (9, (.pointer (some x133))), (10, (.pointer (some x134))), (11, (.pointer (some x135))), (12, (.bool x136)), (13, (.bool x137)), (14, (.bool x138))]
abbrev envY4_c17 (x132 : Addr) (x133 : Addr) (x134 : Addr) : Env := [(3, (.pointer (some x132))), (9, (.pointer (some x133))), (10, (.pointer (some x134)))]
def KX4_c17 (J : World → Prop) (K : Value → World → Prop) : Kont := fun e E w => match e with
  | .normal => J w
  | .exit j => False
  | .ret => retG Try.prog Try.f4.results.toList K .ret E w
  | _ => False
def KY4_c17 (K : Value → World → Prop) : Kont := fun e E w => match e with
  | .normal => False
  | .exit j => False
  | .ret => retG Try.prog Try.f4.results.toList K .ret E w
  | _ => False
def HC4_c17 (F : Value → World → Prop) (K : Kont) (E : Env) (w : World) : Prop := match keep [3, 9, 10, 11, 12, 13, 14] E with
  | [(3, (.pointer (some x132))), (9, (.pointer (some x133))), (10, (.pointer (some x134))), (11, (.pointer (some x135))), (12, (.bool x136)), (13, (.bool x137)), (14, (.bool x138))] => CS4_c17 x132 x133 x134 x135 x136 x137 x138 w F
  | _ => False
def CX4_c14 (x76 : Addr) (x77 : Addr) (x78 : Addr) (x79 : Addr) (w : World) (J : Bool → Bool → World → Prop) (K : Value → World → Prop) : Prop :=
  dr w fun w =>
  ∃ b80 : Bool, w.cell? x77 = some (.bool b80) ∧ ∃ n81 : Int, w.cell? (x77.add 1) = some (.int .u32 n81) ∧ ∃ n82 : Int, w.cell? (x77.add 2) = some (.int .u32 n82) ∧ ∃ n83 : Int, w.cell? x79 = some (.int .u32 n83) ∧ ∃ b84 : Bool, w.cell? (x79.add 1) = some (.bool b84) ∧ ∃ b85 : Bool, w.cell? (x79.add 2) = some (.bool b85) ∧ ∃ n86 : Int, w.cell? (x79.add 3) = some (.int .u8 n86) ∧ ∃ (p87 : Option Addr) (l88 c89 : Nat), w.cell? (x79.add 4) = some (.slice p87 l88 c89) ∧ ∃ b90 : Bool, w.cell? x78 = some (.bool b90) ∧ ∃ n91 : Int, w.cell? (x78.add 1) = some (.int .u32 n91) ∧ ∃ n92 : Int, w.cell? (x78.add 2) = some (.int .u32 n92) ∧ ∃ n93 : Int, w.cell? x79 = some (.int .u32 n93) ∧ ∃ b94 : Bool, w.cell? (x79.add 1) = some (.bool b94) ∧ ∃ b95 : Bool, w.cell? (x79.add 2) = some (.bool b95) ∧ ∃ n96 : Int, w.cell? (x79.add 3) = some (.int .u8 n96) ∧ ∃ (p97 : Option Addr) (l98 c99 : Nat), w.cell? (x79.add 4) = some (.slice p97 l98 c99) ∧ (al w (.cells #[(.bool b80), (.int .u32 n81), (.int .u32 n82)] 24) fun r100 w => (callQ Try.prog 10 #[(.slice (some ⟨r100, 0, none⟩) 1 1), (.agg #[(.int .u32 n83), (.bool b84), (.bool b85), (.int .u8 n86), (.slice p87 l88 c89)])] w fun v101 w => ∃ b102 : Bool, v101 = (.bool b102) ∧ al w (.cells #[(.bool b90), (.int .u32 n91), (.int .u32 n92)] 24) fun r103 w => callQ Try.prog 10 #[(.slice (some ⟨r103, 0, none⟩) 1 1), (.agg #[(.int .u32 n93), (.bool b94), (.bool b95), (.int .u8 n96), (.slice p97 l98 c99)])] w fun v104 w => ∃ b105 : Bool, v104 = (.bool b105) ∧ J b102 b105 w) ∧
  (al w (.cells #[(.bool b90), (.int .u32 n91), (.int .u32 n92)] 24) fun r106 w => callQ Try.prog 10 #[(.slice (some ⟨r100, 0, none⟩) 1 1), (.agg #[(.int .u32 n83), (.bool b84), (.bool b85), (.int .u8 n86), (.slice p87 l88 c89)])] w fun v107 w => ∃ b108 : Bool, v107 = (.bool b108) ∧ callQ Try.prog 10 #[(.slice (some ⟨r106, 0, none⟩) 1 1), (.agg #[(.int .u32 n93), (.bool b94), (.bool b95), (.int .u8 n96), (.slice p97 l98 c99)])] w fun v109 w => ∃ b110 : Bool, v109 = (.bool b110) ∧ J b108 b110 w)) ∧
  (al w (.cells #[(.bool b90), (.int .u32 n91), (.int .u32 n92)] 24) fun r111 w => al w (.cells #[(.bool b80), (.int .u32 n81), (.int .u32 n82)] 24) fun r112 w => callQ Try.prog 10 #[(.slice (some ⟨r112, 0, none⟩) 1 1), (.agg #[(.int .u32 n83), (.bool b84), (.bool b85), (.int .u8 n86), (.slice p87 l88 c89)])] w fun v113 w => ∃ b114 : Bool, v113 = (.bool b114) ∧ callQ Try.prog 10 #[(.slice (some ⟨r111, 0, none⟩) 1 1), (.agg #[(.int .u32 n93), (.bool b94), (.bool b95), (.int .u8 n96), (.slice p97 l98 c99)])] w fun v115 w => ∃ b116 : Bool, v115 = (.bool b116) ∧ J b114 b116 w)
def CY4_c14 (x76 : Addr) (x77 : Addr) (x78 : Addr) (x79 : Addr) (x117 : Bool) (x118 : Bool) (w : World) (K : Value → World → Prop) : Prop :=
  ∃ b119 : Bool, w.cell? x76 = some (.bool b119) ∧ ∃ n120 : Int, w.cell? (x76.add 1) = some (.int .u32 n120) ∧ ∃ n121 : Int, w.cell? (x76.add 2) = some (.int .u32 n121) ∧ al w (.cells #[(.bool b119), (.int .u32 n120), (.int .u32 n121)] 24) fun r122 w => ∃ n123 : Int, w.cell? x79 = some (.int .u32 n123) ∧ ∃ b124 : Bool, w.cell? (x79.add 1) = some (.bool b124) ∧ ∃ b125 : Bool, w.cell? (x79.add 2) = some (.bool b125) ∧ ∃ n126 : Int, w.cell? (x79.add 3) = some (.int .u8 n126) ∧ ∃ (p127 : Option Addr) (l128 c129 : Nat), w.cell? (x79.add 4) = some (.slice p127 l128 c129) ∧ callQ Try.prog 10 #[(.slice (some ⟨r122, 0, none⟩) 1 1), (.agg #[(.int .u32 n123), (.bool b124), (.bool b125), (.int .u8 n126), (.slice p127 l128 c129)])] w fun v130 w => ∃ b131 : Bool, v130 = (.bool b131) ∧ CS4_c17 x76 x77 x78 x79 x117 x118 b131 w K
/-- A cut of function 4, at region 14. -/
def CS4_c14 (x76 : Addr) (x77 : Addr) (x78 : Addr) (x79 : Addr) (w : World) (K : Value → World → Prop) : Prop :=
  jn (fun (x117 : Bool) (x118 : Bool) (w : World) => CY4_c14 x76 x77 x78 x79 x117 x118 w K) fun J => CX4_c14 x76 x77 x78 x79 w J K
abbrev envX4_c14 (x76 : Addr) (x77 : Addr) (x78 : Addr) (x79 : Addr) : Env := [(3, (.pointer (some x76))), (9, (.pointer (some x77))), (10, (.pointer (some x78))), (11, (.pointer (some x79)))]
abbrev envY4_c14 (x76 : Addr) (x77 : Addr) (x78 : Addr) (x79 : Addr) (x117 : Bool) (x118 : Bool) : Env := [(3, (.pointer (some x76))), (9, (.pointer (some x77))), (10, (.pointer (some x78))), (11, (.pointer (some x79))), (12, (.bool x117)), (13, (.bool x118))]
def KX4_c14 (J : Bool → Bool → World → Prop) (K : Value → World → Prop) : Kont := fun e E w => match e with
  | .normal => gB E 12 fun x117 => gB E 13 fun x118 => J x117 x118 w
  | .exit j => False
  | .ret => retG Try.prog Try.f4.results.toList K .ret E w
  | _ => False
def KY4_c14 (K : Value → World → Prop) : Kont := fun e E w => match e with
  | .normal => False
  | .exit j => False
  | .ret => retG Try.prog Try.f4.results.toList K .ret E w
  | _ => False
def HC4_c14 (F : Value → World → Prop) (K : Kont) (E : Env) (w : World) : Prop := match keep [3, 9, 10, 11] E with
  | [(3, (.pointer (some x76))), (9, (.pointer (some x77))), (10, (.pointer (some x78))), (11, (.pointer (some x79)))] => CS4_c14 x76 x77 x78 x79 w F
  | _ => False
def CX4_c12 (x66 : Int) (x67 : Addr) (x68 : Int) (x69 : Addr) (x70 : Addr) (w : World) (J : World → Prop) (K : Value → World → Prop) : Prop :=
  dr w fun w =>
  ∃ n71 : Int, w.cell? (x69.add 1) = some (.int .u32 n71) ∧ (∃ n72 : Int, w.cell? (x67.add 2) = some (.int .u32 n72) ∧ stL w (x70.add 1) 0 [(.int .u32 n71)] fun w => stL w (x70.add 2) 0 [(.int .u32 (IntKind.wrap .u32 ((BitVec.ofInt 32 n72 ||| (BitVec.ofInt 32 x68)).toNat : Int)))] fun w => J w) ∧
  (stL w (x70.add 1) 0 [(.int .u32 n71)] fun w => ∃ n73 : Int, w.cell? (x67.add 2) = some (.int .u32 n73) ∧ stL w (x70.add 2) 0 [(.int .u32 (IntKind.wrap .u32 ((BitVec.ofInt 32 n73 ||| (BitVec.ofInt 32 x68)).toNat : Int)))] fun w => J w)
def CY4_c12 (x66 : Int) (x67 : Addr) (x69 : Addr) (x70 : Addr) (w : World) (K : Value → World → Prop) : Prop :=
  ∃ b74 : Bool, w.cell? x67 = some (.bool b74) ∧ al w (.cells #[(.int .u32 0), (.bool false), (.bool false), (.int .u8 0), (.slice none 0 0)] 30) fun r75 w => stL w ⟨r75, 0, none⟩ 0 [(.int .u32 x66), (.bool b74), (.bool false), (.int .u8 0), (.slice none 0 0)] fun w => CS4_c14 x67 x69 x70 (⟨r75, 0, none⟩) w K
/-- A cut of function 4, at region 12. -/
def CS4_c12 (x66 : Int) (x67 : Addr) (x68 : Int) (x69 : Addr) (x70 : Addr) (w : World) (K : Value → World → Prop) : Prop :=
  jn (fun (w : World) => CY4_c12 x66 x67 x69 x70 w K) fun J => CX4_c12 x66 x67 x68 x69 x70 w J K
abbrev envX4_c12 (x66 : Int) (x67 : Addr) (x68 : Int) (x69 : Addr) (x70 : Addr) : Env := [(2, (.int .u32 x66)), (3, (.pointer (some x67))), (8, (.int .u32 x68)), (9, (.pointer (some x69))), (10, (.pointer (some x70)))]
abbrev envY4_c12 (x66 : Int) (x67 : Addr) (x69 : Addr) (x70 : Addr) : Env := [(2, (.int .u32 x66)), (3, (.pointer (some x67))), (9, (.pointer (some x69))), (10, (.pointer (some x70)))]
def KX4_c12 (J : World → Prop) (K : Value → World → Prop) : Kont := fun e E w => match e with
  | .normal => J w
  | .exit j => False
  | .ret => retG Try.prog Try.f4.results.toList K .ret E w
  | _ => False
def KY4_c12 (K : Value → World → Prop) : Kont := fun e E w => match e with
  | .normal => False
  | .exit j => False
  | .ret => retG Try.prog Try.f4.results.toList K .ret E w
  | _ => False
def HC4_c12 (F : Value → World → Prop) (K : Kont) (E : Env) (w : World) : Prop := match keep [2, 3, 8, 9, 10] E with
  | [(2, (.int .u32 x66)), (3, (.pointer (some x67))), (8, (.int .u32 x68)), (9, (.pointer (some x69))), (10, (.pointer (some x70)))] => CS4_c12 x66 x67 x68 x69 x70 w F
  | _ => False
def CX4_c10 (x26 : Int) (x27 : Addr) (x28 : Int) (w : World) (J : Addr → Addr → World → Prop) (K : Value → World → Prop) : Prop :=
  dr w fun w =>
  ∃ b29 : Bool, w.cell? x27 = some (.bool b29) ∧ ∃ n30 : Int, w.cell? (x27.add 1) = some (.int .u32 n30) ∧ ∃ n31 : Int, w.cell? (x27.add 2) = some (.int .u32 n31) ∧ (∃ b32 : Bool, w.cell? x27 = some (.bool b32) ∧ ∃ n33 : Int, w.cell? (x27.add 1) = some (.int .u32 n33) ∧ ∃ n34 : Int, w.cell? (x27.add 2) = some (.int .u32 n34) ∧ (al w (.cells #[(.bool false), (.int .u32 0), (.int .u32 0)] 24) fun r35 w => al w (.cells #[(.bool false), (.int .u32 0), (.int .u32 0)] 24) fun r36 w => stL w ⟨r35, 0, none⟩ 0 [(.bool b29), (.int .u32 n30), (.int .u32 n31)] fun w => stL w ⟨r36, 0, none⟩ 0 [(.bool b32), (.int .u32 n33), (.int .u32 n34)] fun w => J ⟨r35, 0, none⟩ ⟨r36, 0, none⟩ w) ∧
  (al w (.cells #[(.bool false), (.int .u32 0), (.int .u32 0)] 24) fun r37 w => al w (.cells #[(.bool false), (.int .u32 0), (.int .u32 0)] 24) fun r38 w => stL w ⟨r38, 0, none⟩ 0 [(.bool b29), (.int .u32 n30), (.int .u32 n31)] fun w => stL w ⟨r37, 0, none⟩ 0 [(.bool b32), (.int .u32 n33), (.int .u32 n34)] fun w => J ⟨r38, 0, none⟩ ⟨r37, 0, none⟩ w)) ∧
  (al w (.cells #[(.bool false), (.int .u32 0), (.int .u32 0)] 24) fun r39 w => (∃ b40 : Bool, w.cell? x27 = some (.bool b40) ∧ ∃ n41 : Int, w.cell? (x27.add 1) = some (.int .u32 n41) ∧ ∃ n42 : Int, w.cell? (x27.add 2) = some (.int .u32 n42) ∧ al w (.cells #[(.bool false), (.int .u32 0), (.int .u32 0)] 24) fun r43 w => stL w ⟨r39, 0, none⟩ 0 [(.bool b29), (.int .u32 n30), (.int .u32 n31)] fun w => stL w ⟨r43, 0, none⟩ 0 [(.bool b40), (.int .u32 n41), (.int .u32 n42)] fun w => J ⟨r39, 0, none⟩ ⟨r43, 0, none⟩ w) ∧
  (al w (.cells #[(.bool false), (.int .u32 0), (.int .u32 0)] 24) fun r44 w => (∃ b45 : Bool, w.cell? x27 = some (.bool b45) ∧ ∃ n46 : Int, w.cell? (x27.add 1) = some (.int .u32 n46) ∧ ∃ n47 : Int, w.cell? (x27.add 2) = some (.int .u32 n47) ∧ stL w ⟨r39, 0, none⟩ 0 [(.bool b29), (.int .u32 n30), (.int .u32 n31)] fun w => stL w ⟨r44, 0, none⟩ 0 [(.bool b45), (.int .u32 n46), (.int .u32 n47)] fun w => J ⟨r39, 0, none⟩ ⟨r44, 0, none⟩ w) ∧
  (stL w ⟨r39, 0, none⟩ 0 [(.bool b29), (.int .u32 n30), (.int .u32 n31)] fun w => ∃ b48 : Bool, w.cell? x27 = some (.bool b48) ∧ ∃ n49 : Int, w.cell? (x27.add 1) = some (.int .u32 n49) ∧ ∃ n50 : Int, w.cell? (x27.add 2) = some (.int .u32 n50) ∧ stL w ⟨r44, 0, none⟩ 0 [(.bool b48), (.int .u32 n49), (.int .u32 n50)] fun w => J ⟨r39, 0, none⟩ ⟨r44, 0, none⟩ w))) ∧
  (al w (.cells #[(.bool false), (.int .u32 0), (.int .u32 0)] 24) fun r51 w => (∃ b52 : Bool, w.cell? x27 = some (.bool b52) ∧ ∃ n53 : Int, w.cell? (x27.add 1) = some (.int .u32 n53) ∧ ∃ n54 : Int, w.cell? (x27.add 2) = some (.int .u32 n54) ∧ al w (.cells #[(.bool false), (.int .u32 0), (.int .u32 0)] 24) fun r55 w => stL w ⟨r55, 0, none⟩ 0 [(.bool b29), (.int .u32 n30), (.int .u32 n31)] fun w => stL w ⟨r51, 0, none⟩ 0 [(.bool b52), (.int .u32 n53), (.int .u32 n54)] fun w => J ⟨r55, 0, none⟩ ⟨r51, 0, none⟩ w) ∧
  (al w (.cells #[(.bool false), (.int .u32 0), (.int .u32 0)] 24) fun r56 w => (∃ b57 : Bool, w.cell? x27 = some (.bool b57) ∧ ∃ n58 : Int, w.cell? (x27.add 1) = some (.int .u32 n58) ∧ ∃ n59 : Int, w.cell? (x27.add 2) = some (.int .u32 n59) ∧ stL w ⟨r56, 0, none⟩ 0 [(.bool b29), (.int .u32 n30), (.int .u32 n31)] fun w => stL w ⟨r51, 0, none⟩ 0 [(.bool b57), (.int .u32 n58), (.int .u32 n59)] fun w => J ⟨r56, 0, none⟩ ⟨r51, 0, none⟩ w) ∧
  (stL w ⟨r56, 0, none⟩ 0 [(.bool b29), (.int .u32 n30), (.int .u32 n31)] fun w => ∃ b60 : Bool, w.cell? x27 = some (.bool b60) ∧ ∃ n61 : Int, w.cell? (x27.add 1) = some (.int .u32 n61) ∧ ∃ n62 : Int, w.cell? (x27.add 2) = some (.int .u32 n62) ∧ stL w ⟨r51, 0, none⟩ 0 [(.bool b60), (.int .u32 n61), (.int .u32 n62)] fun w => J ⟨r56, 0, none⟩ ⟨r51, 0, none⟩ w)))
def CY4_c10 (x26 : Int) (x27 : Addr) (x28 : Int) (x63 : Addr) (x64 : Addr) (w : World) (K : Value → World → Prop) : Prop :=
  ∃ n65 : Int, w.cell? (x63.add 1) = some (.int .u32 n65) ∧ stL w (x63.add 1) 0 [(.int .u32 (IntKind.wrap .u32 ((BitVec.ofInt 32 n65 ||| (BitVec.ofInt 32 x28)).toNat : Int)))] fun w => CS4_c12 x26 x27 x28 x63 x64 w K
/-- A cut of function 4, at region 10. -/
def CS4_c10 (x26 : Int) (x27 : Addr) (x28 : Int) (w : World) (K : Value → World → Prop) : Prop :=
  jn (fun (x63 : Addr) (x64 : Addr) (w : World) => CY4_c10 x26 x27 x28 x63 x64 w K) fun J => CX4_c10 x26 x27 x28 w J K
abbrev envX4_c10 (x26 : Int) (x27 : Addr) (x28 : Int) : Env := [(2, (.int .u32 x26)), (3, (.pointer (some x27))), (8, (.int .u32 x28))]
abbrev envY4_c10 (x26 : Int) (x27 : Addr) (x28 : Int) (x63 : Addr) (x64 : Addr) : Env := [(2, (.int .u32 x26)), (3, (.pointer (some x27))), (8, (.int .u32 x28)), (9, (.pointer (some x63))), (10, (.pointer (some x64)))]
def KX4_c10 (J : Addr → Addr → World → Prop) (K : Value → World → Prop) : Kont := fun e E w => match e with
  | .normal => gA E 9 fun x63 => gA E 10 fun x64 => J x63 x64 w
  | .exit j => False
  | .ret => retG Try.prog Try.f4.results.toList K .ret E w
  | _ => False
def KY4_c10 (K : Value → World → Prop) : Kont := fun e E w => match e with
  | .normal => False
  | .exit j => False
  | .ret => retG Try.prog Try.f4.results.toList K .ret E w
  | _ => False
def HC4_c10 (F : Value → World → Prop) (K : Kont) (E : Env) (w : World) : Prop := match keep [2, 3, 8] E with
  | [(2, (.int .u32 x26)), (3, (.pointer (some x27))), (8, (.int .u32 x28))] => CS4_c10 x26 x27 x28 w F
  | _ => False
def CX4_c5 (x14 : Int) (x15 : Int) (x16 : Addr) (x17 : Int) (w : World) (J : Int → World → Prop) (K : Value → World → Prop) : Prop :=
  ∃ b18 : Bool, w.cell? x16 = some (.bool b18) ∧ br b18
  (J 29 w)
  (J x17 w)
def CY4_c5 (x14 : Int) (x15 : Int) (x16 : Addr) (x19 : Int) (w : World) (K : Value → World → Prop) : Prop :=
  remK .i64 (IntKind.wrap .i64 x14) x19 fun n20 => shlK .u32 1 n20 fun n21 => shlK .u32 1 x19 fun n22 => ∃ n23 : Int, w.cell? (x16.add 1) = some (.int .u32 n23) ∧ br (((IntKind.wrap .u32 ((BitVec.ofInt 32 n23 &&& (BitVec.ofInt 32 n21)).toNat : Int)) : Int) != 0)
  (callQ Try.prog 12 #[] w fun v24 w => ∃ b25 : Bool, v24 = (.bool b25) ∧ K (.bool b25) w)
  (CS4_c10 (IntKind.wrap .u32 ((BitVec.ofInt 32 x15 &&& (BitVec.ofInt 32 (IntKind.wrap .u32 (n22 - 1)))).toNat : Int)) x16 n21 w K)
/-- A cut of function 4, at region 5. -/
def CS4_c5 (x14 : Int) (x15 : Int) (x16 : Addr) (x17 : Int) (w : World) (K : Value → World → Prop) : Prop :=
  jn (fun (x19 : Int) (w : World) => CY4_c5 x14 x15 x16 x19 w K) fun J => CX4_c5 x14 x15 x16 x17 w J K
abbrev envX4_c5 (x14 : Int) (x15 : Int) (x16 : Addr) (x17 : Int) : Env := [(1, (.int .u8 x14)), (2, (.int .u32 x15)), (3, (.pointer (some x16))), (7, (.int .i64 x17))]
abbrev envY4_c5 (x14 : Int) (x15 : Int) (x16 : Addr) (x19 : Int) : Env := [(1, (.int .u8 x14)), (2, (.int .u32 x15)), (3, (.pointer (some x16))), (7, (.int .i64 x19))]
def KX4_c5 (J : Int → World → Prop) (K : Value → World → Prop) : Kont := fun e E w => match e with
  | .normal => gI .i64 E 7 fun x19 => J x19 w
  | .exit j => False
  | .ret => retG Try.prog Try.f4.results.toList K .ret E w
  | _ => False
def KY4_c5 (K : Value → World → Prop) : Kont := fun e E w => match e with
  | .normal => False
  | .exit j => False
  | .ret => retG Try.prog Try.f4.results.toList K .ret E w
  | _ => False
def HC4_c5 (F : Value → World → Prop) (K : Kont) (E : Env) (w : World) : Prop := match keep [1, 2, 3, 7] E with
  | [(1, (.int .u8 x14)), (2, (.int .u32 x15)), (3, (.pointer (some x16))), (7, (.int .i64 x17))] => CS4_c5 x14 x15 x16 x17 w F
  | _ => False
def H4 (F : Value → World → Prop) : Nat → Kont → Env → World → Prop := fun b K E w => match Nat.beq b 500000017 with | true => HC4_c17 F K E w | false => (match Nat.beq b 500000014 with | true => HC4_c14 F K E w | false => (match Nat.beq b 500000012 with | true => HC4_c12 F K E w | false => (match Nat.beq b 500000010 with | true => HC4_c10 F K E w | false => (match Nat.beq b 500000005 with | true => HC4_c5 F K E w | false => (False)))))
theorem CXeq4_c17 (x132 : Addr) (x133 : Addr) (x134 : Addr) (x135 : Addr) (x136 : Bool) (x137 : Bool) (x138 : Bool) (w : World) (J : World → Prop) (K : Value → World → Prop) :
    G Try.prog [8, 9, 10, 11, 12, 13, 14, 15, 16, 17, 18, 19, 20, 21, 22, 23, 24, 25, 26, 27, 28, 29, 30, 31, 500000005, 500000010, 500000012, 500000014, 500000017] 116 [0, 1, 2, 3, 6, 7, 8, 9, 10, 11, 12, 13, 14, 18, 33, 86] (H4 K) 0 (seqX 17 Try.f4) (KX4_c17 J K) (envX4_c17 x132 x133 x134 x135 x136 x137 x138) w = CX4_c17 x132 x133 x134 x135 x136 x137 x138 w J K := by kernel_rfl
theorem CYeq4_c17 (x132 : Addr) (x133 : Addr) (x134 : Addr) (w : World) (K : Value → World → Prop) :
    G Try.prog [8, 9, 10, 11, 12, 13, 14, 15, 16, 17, 18, 19, 20, 21, 22, 23, 24, 25, 26, 27, 28, 29, 30, 31, 500000005, 500000010, 500000012, 500000014, 500000017] 116 [0, 1, 2, 3, 6, 7, 8, 9, 10, 11, 12, 13, 14, 18, 33, 86] (H4 K) 0 (seqY 17 Try.f4) (KY4_c17 K) (envY4_c17 x132 x133 x134) w = CY4_c17 x132 x133 x134 w K := by kernel_rfl
theorem lok4_c17 (F : Value → World → Prop) : LoopOk Try.prog 116 Try.f4.results.toList F (H4 F) 500000017 (.seq (seqX 17 Try.f4) (seqY 17 Try.f4)) := by
  intro K E a w Q hr h hs hq
  have hs0 := hs.keep [3, 9, 10, 11, 12, 13, 14]
  have h1 : HC4_c17 F K E w := h
  unfold HC4_c17 at h1
  split at h1
  · rename_i x132 x133 x134 x135 x136 x137 x138 heq
    rw [heq] at hs0
    refine cut_typed (qs := [8, 9, 10, 11, 12, 13, 14, 15, 16, 17, 18, 19, 20, 21, 22, 23, 24, 25, 26, 27, 28, 29, 30, 31, 500000005, 500000010, 500000012, 500000014, 500000017]) (L := [0, 1, 2, 3, 6, 7, 8, 9, 10, 11, 12, 13, 14, 18, 33, 86]) (rs := Try.f4.results.toList) (F := F) (H := H4 F) (b := 0) (by kernel_rfl) (allL (show loops [8, 9, 10, 11, 12, 13, 14, 15, 16, 17, 18, 19, 20, 21, 22, 23, 24, 25, 26, 27, 28, 29, 30, 31, 500000005, 500000010, 500000012, 500000014, 500000017] 0 (seqX 17 Try.f4) = [] by kernel_rfl) True.intro) (allL (show loops [8, 9, 10, 11, 12, 13, 14, 15, 16, 17, 18, 19, 20, 21, 22, 23, 24, 25, 26, 27, 28, 29, 30, 31, 500000005, 500000010, 500000012, 500000014, 500000017] 0 (seqY 17 Try.f4) = [] by kernel_rfl) True.intro) (σ := Unit) (envX4_c17 x132 x133 x134 x135 x136 x137 x138) (fun s => envY4_c17 x132 x133 x134) (fun s w => CY4_c17 x132 x133 x134 w F)
      (KX4_c17 (fun (w : World) => CY4_c17 x132 x133 x134 w F) F) (KY4_c17 F) (fun _ _ h => h) (fun _ _ h => h) ?_ ?_ ?_ hs0 ?_ ?_
    · exact Eq.mpr (CXeq4_c17 x132 x133 x134 x135 x136 x137 x138 w _ F) h1
    · intro s w h
      exact Eq.mpr (CYeq4_c17 x132 x133 x134 w F) h
    · intro E' w' h
      exact ⟨(), h, ⟨.inl ⟨by kernel_rfl, rfl⟩, .inl ⟨by kernel_rfl, rfl⟩, .inl ⟨by kernel_rfl, rfl⟩, True.intro⟩⟩
    · intro e E' a' w' he hf hs' h
      cases e with
      | normal => exact (he rfl).elim
      | exit j =>
        dsimp only [KX4_c17] at h
        all_goals exact h.elim
      | ret => exact hq _ _ _ _ hs' hf (hr _ _ h)
      | _ => exact h.elim
    · intro s a1 e E' a' w' hs1 hf0 hf1 hf hs' h
      cases e with
      | normal =>
        exact h.elim
      | exit j =>
        dsimp only [KY4_c17] at h
        all_goals exact h.elim
      | ret => exact hq _ _ _ _ hs' hf (hr _ _ h)
      | _ => exact h.elim
  · exact h1.elim
theorem CXeq4_c14 (x76 : Addr) (x77 : Addr) (x78 : Addr) (x79 : Addr) (w : World) (J : Bool → Bool → World → Prop) (K : Value → World → Prop) :
    G Try.prog [8, 9, 10, 11, 12, 13, 14, 15, 16, 17, 18, 19, 20, 21, 22, 23, 24, 25, 26, 27, 28, 29, 30, 31, 500000005, 500000010, 500000012, 500000014, 500000017] 116 [0, 1, 2, 3, 6, 7, 8, 9, 10, 11, 12, 13, 14, 18, 33, 86] (H4 K) 0 (seqX 14 Try.f4) (KX4_c14 J K) (envX4_c14 x76 x77 x78 x79) w = CX4_c14 x76 x77 x78 x79 w J K := by kernel_rfl
theorem CYeq4_c14 (x76 : Addr) (x77 : Addr) (x78 : Addr) (x79 : Addr) (x117 : Bool) (x118 : Bool) (w : World) (K : Value → World → Prop) :
    G Try.prog [8, 9, 10, 11, 12, 13, 14, 15, 16, 17, 18, 19, 20, 21, 22, 23, 24, 25, 26, 27, 28, 29, 30, 31, 500000005, 500000010, 500000012, 500000014, 500000017] 116 [0, 1, 2, 3, 6, 7, 8, 9, 10, 11, 12, 13, 14, 18, 33, 86] (H4 K) 0 (seqY 14 Try.f4) (KY4_c14 K) (envY4_c14 x76 x77 x78 x79 x117 x118) w = CY4_c14 x76 x77 x78 x79 x117 x118 w K := by kernel_rfl
theorem lok4_c14 (F : Value → World → Prop) : LoopOk Try.prog 116 Try.f4.results.toList F (H4 F) 500000014 (.seq (seqX 14 Try.f4) (seqY 14 Try.f4)) := by
  intro K E a w Q hr h hs hq
  have hs0 := hs.keep [3, 9, 10, 11]
  have h1 : HC4_c14 F K E w := h
  unfold HC4_c14 at h1
  split at h1
  · rename_i x76 x77 x78 x79 heq
    rw [heq] at hs0
    refine cut_typed (qs := [8, 9, 10, 11, 12, 13, 14, 15, 16, 17, 18, 19, 20, 21, 22, 23, 24, 25, 26, 27, 28, 29, 30, 31, 500000005, 500000010, 500000012, 500000014, 500000017]) (L := [0, 1, 2, 3, 6, 7, 8, 9, 10, 11, 12, 13, 14, 18, 33, 86]) (rs := Try.f4.results.toList) (F := F) (H := H4 F) (b := 0) (by kernel_rfl) (allL (show loops [8, 9, 10, 11, 12, 13, 14, 15, 16, 17, 18, 19, 20, 21, 22, 23, 24, 25, 26, 27, 28, 29, 30, 31, 500000005, 500000010, 500000012, 500000014, 500000017] 0 (seqX 14 Try.f4) = [] by kernel_rfl) True.intro) (allL (show loops [8, 9, 10, 11, 12, 13, 14, 15, 16, 17, 18, 19, 20, 21, 22, 23, 24, 25, 26, 27, 28, 29, 30, 31, 500000005, 500000010, 500000012, 500000014, 500000017] 0 (seqY 14 Try.f4) = [(500000017, .seq (seqX 17 Try.f4) (seqY 17 Try.f4))] by kernel_rfl) ⟨lok4_c17 F, True.intro⟩) (σ := Bool × Bool) (envX4_c14 x76 x77 x78 x79) (fun s => envY4_c14 x76 x77 x78 x79 s.1 s.2) (fun s w => CY4_c14 x76 x77 x78 x79 s.1 s.2 w F)
      (KX4_c14 (fun (x117 : Bool) (x118 : Bool) (w : World) => CY4_c14 x76 x77 x78 x79 x117 x118 w F) F) (KY4_c14 F) (fun _ _ h => h) (fun _ _ h => h) ?_ ?_ ?_ hs0 ?_ ?_
    · exact Eq.mpr (CXeq4_c14 x76 x77 x78 x79 w _ F) h1
    · intro s w h
      exact Eq.mpr (CYeq4_c14 x76 x77 x78 x79 s.1 s.2 w F) h
    · intro E' w' h
      obtain ⟨x117, e12, h⟩ := gB_get h
      obtain ⟨x118, e13, h⟩ := gB_get h
      exact ⟨(x117, x118), h, ⟨.inl ⟨by kernel_rfl, rfl⟩, .inl ⟨by kernel_rfl, rfl⟩, .inl ⟨by kernel_rfl, rfl⟩, .inl ⟨by kernel_rfl, rfl⟩, .inr e12, .inr e13, True.intro⟩⟩
    · intro e E' a' w' he hf hs' h
      cases e with
      | normal => exact (he rfl).elim
      | exit j =>
        dsimp only [KX4_c14] at h
        all_goals exact h.elim
      | ret => exact hq _ _ _ _ hs' hf (hr _ _ h)
      | _ => exact h.elim
    · intro s a1 e E' a' w' hs1 hf0 hf1 hf hs' h
      cases e with
      | normal =>
        exact h.elim
      | exit j =>
        dsimp only [KY4_c14] at h
        all_goals exact h.elim
      | ret => exact hq _ _ _ _ hs' hf (hr _ _ h)
      | _ => exact h.elim
  · exact h1.elim
theorem CXeq4_c12 (x66 : Int) (x67 : Addr) (x68 : Int) (x69 : Addr) (x70 : Addr) (w : World) (J : World → Prop) (K : Value → World → Prop) :
    G Try.prog [8, 9, 10, 11, 12, 13, 14, 15, 16, 17, 18, 19, 20, 21, 22, 23, 24, 25, 26, 27, 28, 29, 30, 31, 500000005, 500000010, 500000012, 500000014, 500000017] 116 [0, 1, 2, 3, 6, 7, 8, 9, 10, 11, 12, 13, 14, 18, 33, 86] (H4 K) 0 (seqX 12 Try.f4) (KX4_c12 J K) (envX4_c12 x66 x67 x68 x69 x70) w = CX4_c12 x66 x67 x68 x69 x70 w J K := by kernel_rfl
theorem CYeq4_c12 (x66 : Int) (x67 : Addr) (x69 : Addr) (x70 : Addr) (w : World) (K : Value → World → Prop) :
    G Try.prog [8, 9, 10, 11, 12, 13, 14, 15, 16, 17, 18, 19, 20, 21, 22, 23, 24, 25, 26, 27, 28, 29, 30, 31, 500000005, 500000010, 500000012, 500000014, 500000017] 116 [0, 1, 2, 3, 6, 7, 8, 9, 10, 11, 12, 13, 14, 18, 33, 86] (H4 K) 0 (seqY 12 Try.f4) (KY4_c12 K) (envY4_c12 x66 x67 x69 x70) w = CY4_c12 x66 x67 x69 x70 w K := by kernel_rfl
theorem lok4_c12 (F : Value → World → Prop) : LoopOk Try.prog 116 Try.f4.results.toList F (H4 F) 500000012 (.seq (seqX 12 Try.f4) (seqY 12 Try.f4)) := by
  intro K E a w Q hr h hs hq
  have hs0 := hs.keep [2, 3, 8, 9, 10]
  have h1 : HC4_c12 F K E w := h
  unfold HC4_c12 at h1
  split at h1
  · rename_i x66 x67 x68 x69 x70 heq
    rw [heq] at hs0
    refine cut_typed (qs := [8, 9, 10, 11, 12, 13, 14, 15, 16, 17, 18, 19, 20, 21, 22, 23, 24, 25, 26, 27, 28, 29, 30, 31, 500000005, 500000010, 500000012, 500000014, 500000017]) (L := [0, 1, 2, 3, 6, 7, 8, 9, 10, 11, 12, 13, 14, 18, 33, 86]) (rs := Try.f4.results.toList) (F := F) (H := H4 F) (b := 0) (by kernel_rfl) (allL (show loops [8, 9, 10, 11, 12, 13, 14, 15, 16, 17, 18, 19, 20, 21, 22, 23, 24, 25, 26, 27, 28, 29, 30, 31, 500000005, 500000010, 500000012, 500000014, 500000017] 0 (seqX 12 Try.f4) = [] by kernel_rfl) True.intro) (allL (show loops [8, 9, 10, 11, 12, 13, 14, 15, 16, 17, 18, 19, 20, 21, 22, 23, 24, 25, 26, 27, 28, 29, 30, 31, 500000005, 500000010, 500000012, 500000014, 500000017] 0 (seqY 12 Try.f4) = [(500000014, .seq (seqX 14 Try.f4) (seqY 14 Try.f4))] by kernel_rfl) ⟨lok4_c14 F, True.intro⟩) (σ := Unit) (envX4_c12 x66 x67 x68 x69 x70) (fun s => envY4_c12 x66 x67 x69 x70) (fun s w => CY4_c12 x66 x67 x69 x70 w F)
      (KX4_c12 (fun (w : World) => CY4_c12 x66 x67 x69 x70 w F) F) (KY4_c12 F) (fun _ _ h => h) (fun _ _ h => h) ?_ ?_ ?_ hs0 ?_ ?_
    · exact Eq.mpr (CXeq4_c12 x66 x67 x68 x69 x70 w _ F) h1
    · intro s w h
      exact Eq.mpr (CYeq4_c12 x66 x67 x69 x70 w F) h
    · intro E' w' h
      exact ⟨(), h, ⟨.inl ⟨by kernel_rfl, rfl⟩, .inl ⟨by kernel_rfl, rfl⟩, .inl ⟨by kernel_rfl, rfl⟩, .inl ⟨by kernel_rfl, rfl⟩, True.intro⟩⟩
    · intro e E' a' w' he hf hs' h
      cases e with
      | normal => exact (he rfl).elim
      | exit j =>
        dsimp only [KX4_c12] at h
        all_goals exact h.elim
      | ret => exact hq _ _ _ _ hs' hf (hr _ _ h)
      | _ => exact h.elim
    · intro s a1 e E' a' w' hs1 hf0 hf1 hf hs' h
      cases e with
      | normal =>
        exact h.elim
      | exit j =>
        dsimp only [KY4_c12] at h
        all_goals exact h.elim
      | ret => exact hq _ _ _ _ hs' hf (hr _ _ h)
      | _ => exact h.elim
  · exact h1.elim
theorem CXeq4_c10 (x26 : Int) (x27 : Addr) (x28 : Int) (w : World) (J : Addr → Addr → World → Prop) (K : Value → World → Prop) :
    G Try.prog [8, 9, 10, 11, 12, 13, 14, 15, 16, 17, 18, 19, 20, 21, 22, 23, 24, 25, 26, 27, 28, 29, 30, 31, 500000005, 500000010, 500000012, 500000014, 500000017] 116 [0, 1, 2, 3, 6, 7, 8, 9, 10, 11, 12, 13, 14, 18, 33, 86] (H4 K) 0 (seqX 10 Try.f4) (KX4_c10 J K) (envX4_c10 x26 x27 x28) w = CX4_c10 x26 x27 x28 w J K := by kernel_rfl
theorem CYeq4_c10 (x26 : Int) (x27 : Addr) (x28 : Int) (x63 : Addr) (x64 : Addr) (w : World) (K : Value → World → Prop) :
    G Try.prog [8, 9, 10, 11, 12, 13, 14, 15, 16, 17, 18, 19, 20, 21, 22, 23, 24, 25, 26, 27, 28, 29, 30, 31, 500000005, 500000010, 500000012, 500000014, 500000017] 116 [0, 1, 2, 3, 6, 7, 8, 9, 10, 11, 12, 13, 14, 18, 33, 86] (H4 K) 0 (seqY 10 Try.f4) (KY4_c10 K) (envY4_c10 x26 x27 x28 x63 x64) w = CY4_c10 x26 x27 x28 x63 x64 w K := by kernel_rfl
theorem lok4_c10 (F : Value → World → Prop) : LoopOk Try.prog 116 Try.f4.results.toList F (H4 F) 500000010 (.seq (seqX 10 Try.f4) (seqY 10 Try.f4)) := by
  intro K E a w Q hr h hs hq
  have hs0 := hs.keep [2, 3, 8]
  have h1 : HC4_c10 F K E w := h
  unfold HC4_c10 at h1
  split at h1
  · rename_i x26 x27 x28 heq
    rw [heq] at hs0
    refine cut_typed (qs := [8, 9, 10, 11, 12, 13, 14, 15, 16, 17, 18, 19, 20, 21, 22, 23, 24, 25, 26, 27, 28, 29, 30, 31, 500000005, 500000010, 500000012, 500000014, 500000017]) (L := [0, 1, 2, 3, 6, 7, 8, 9, 10, 11, 12, 13, 14, 18, 33, 86]) (rs := Try.f4.results.toList) (F := F) (H := H4 F) (b := 0) (by kernel_rfl) (allL (show loops [8, 9, 10, 11, 12, 13, 14, 15, 16, 17, 18, 19, 20, 21, 22, 23, 24, 25, 26, 27, 28, 29, 30, 31, 500000005, 500000010, 500000012, 500000014, 500000017] 0 (seqX 10 Try.f4) = [] by kernel_rfl) True.intro) (allL (show loops [8, 9, 10, 11, 12, 13, 14, 15, 16, 17, 18, 19, 20, 21, 22, 23, 24, 25, 26, 27, 28, 29, 30, 31, 500000005, 500000010, 500000012, 500000014, 500000017] 0 (seqY 10 Try.f4) = [(500000012, .seq (seqX 12 Try.f4) (seqY 12 Try.f4))] by kernel_rfl) ⟨lok4_c12 F, True.intro⟩) (σ := Addr × Addr) (envX4_c10 x26 x27 x28) (fun s => envY4_c10 x26 x27 x28 s.1 s.2) (fun s w => CY4_c10 x26 x27 x28 s.1 s.2 w F)
      (KX4_c10 (fun (x63 : Addr) (x64 : Addr) (w : World) => CY4_c10 x26 x27 x28 x63 x64 w F) F) (KY4_c10 F) (fun _ _ h => h) (fun _ _ h => h) ?_ ?_ ?_ hs0 ?_ ?_
    · exact Eq.mpr (CXeq4_c10 x26 x27 x28 w _ F) h1
    · intro s w h
      exact Eq.mpr (CYeq4_c10 x26 x27 x28 s.1 s.2 w F) h
    · intro E' w' h
      obtain ⟨x63, e9, h⟩ := gA_get h
      obtain ⟨x64, e10, h⟩ := gA_get h
      exact ⟨(x63, x64), h, ⟨.inl ⟨by kernel_rfl, rfl⟩, .inl ⟨by kernel_rfl, rfl⟩, .inl ⟨by kernel_rfl, rfl⟩, .inr e9, .inr e10, True.intro⟩⟩
    · intro e E' a' w' he hf hs' h
      cases e with
      | normal => exact (he rfl).elim
      | exit j =>
        dsimp only [KX4_c10] at h
        all_goals exact h.elim
      | ret => exact hq _ _ _ _ hs' hf (hr _ _ h)
      | _ => exact h.elim
    · intro s a1 e E' a' w' hs1 hf0 hf1 hf hs' h
      cases e with
      | normal =>
        exact h.elim
      | exit j =>
        dsimp only [KY4_c10] at h
        all_goals exact h.elim
      | ret => exact hq _ _ _ _ hs' hf (hr _ _ h)
      | _ => exact h.elim
  · exact h1.elim
theorem CXeq4_c5 (x14 : Int) (x15 : Int) (x16 : Addr) (x17 : Int) (w : World) (J : Int → World → Prop) (K : Value → World → Prop) :
    G Try.prog [8, 9, 10, 11, 12, 13, 14, 15, 16, 17, 18, 19, 20, 21, 22, 23, 24, 25, 26, 27, 28, 29, 30, 31, 500000005, 500000010, 500000012, 500000014, 500000017] 116 [0, 1, 2, 3, 6, 7, 8, 9, 10, 11, 12, 13, 14, 18, 33, 86] (H4 K) 0 (seqX 5 Try.f4) (KX4_c5 J K) (envX4_c5 x14 x15 x16 x17) w = CX4_c5 x14 x15 x16 x17 w J K := by kernel_rfl
theorem CYeq4_c5 (x14 : Int) (x15 : Int) (x16 : Addr) (x19 : Int) (w : World) (K : Value → World → Prop) :
    G Try.prog [8, 9, 10, 11, 12, 13, 14, 15, 16, 17, 18, 19, 20, 21, 22, 23, 24, 25, 26, 27, 28, 29, 30, 31, 500000005, 500000010, 500000012, 500000014, 500000017] 116 [0, 1, 2, 3, 6, 7, 8, 9, 10, 11, 12, 13, 14, 18, 33, 86] (H4 K) 0 (seqY 5 Try.f4) (KY4_c5 K) (envY4_c5 x14 x15 x16 x19) w = CY4_c5 x14 x15 x16 x19 w K := by kernel_rfl
theorem lok4_c5 (F : Value → World → Prop) : LoopOk Try.prog 116 Try.f4.results.toList F (H4 F) 500000005 (.seq (seqX 5 Try.f4) (seqY 5 Try.f4)) := by
  intro K E a w Q hr h hs hq
  have hs0 := hs.keep [1, 2, 3, 7]
  have h1 : HC4_c5 F K E w := h
  unfold HC4_c5 at h1
  split at h1
  · rename_i x14 x15 x16 x17 heq
    rw [heq] at hs0
    refine cut_typed (qs := [8, 9, 10, 11, 12, 13, 14, 15, 16, 17, 18, 19, 20, 21, 22, 23, 24, 25, 26, 27, 28, 29, 30, 31, 500000005, 500000010, 500000012, 500000014, 500000017]) (L := [0, 1, 2, 3, 6, 7, 8, 9, 10, 11, 12, 13, 14, 18, 33, 86]) (rs := Try.f4.results.toList) (F := F) (H := H4 F) (b := 0) (by kernel_rfl) (allL (show loops [8, 9, 10, 11, 12, 13, 14, 15, 16, 17, 18, 19, 20, 21, 22, 23, 24, 25, 26, 27, 28, 29, 30, 31, 500000005, 500000010, 500000012, 500000014, 500000017] 0 (seqX 5 Try.f4) = [] by kernel_rfl) True.intro) (allL (show loops [8, 9, 10, 11, 12, 13, 14, 15, 16, 17, 18, 19, 20, 21, 22, 23, 24, 25, 26, 27, 28, 29, 30, 31, 500000005, 500000010, 500000012, 500000014, 500000017] 0 (seqY 5 Try.f4) = [(500000010, .seq (seqX 10 Try.f4) (seqY 10 Try.f4))] by kernel_rfl) ⟨lok4_c10 F, True.intro⟩) (σ := Int) (envX4_c5 x14 x15 x16 x17) (fun s => envY4_c5 x14 x15 x16 s) (fun s w => CY4_c5 x14 x15 x16 s w F)
      (KX4_c5 (fun (x19 : Int) (w : World) => CY4_c5 x14 x15 x16 x19 w F) F) (KY4_c5 F) (fun _ _ h => h) (fun _ _ h => h) ?_ ?_ ?_ hs0 ?_ ?_
    · exact Eq.mpr (CXeq4_c5 x14 x15 x16 x17 w _ F) h1
    · intro s w h
      exact Eq.mpr (CYeq4_c5 x14 x15 x16 s w F) h
    · intro E' w' h
      obtain ⟨x19, e7, h⟩ := gI_get h
      exact ⟨x19, h, ⟨.inl ⟨by kernel_rfl, rfl⟩, .inl ⟨by kernel_rfl, rfl⟩, .inl ⟨by kernel_rfl, rfl⟩, .inr e7, True.intro⟩⟩
    · intro e E' a' w' he hf hs' h
      cases e with
      | normal => exact (he rfl).elim
      | exit j =>
        dsimp only [KX4_c5] at h
        all_goals exact h.elim
      | ret => exact hq _ _ _ _ hs' hf (hr _ _ h)
      | _ => exact h.elim
    · intro s a1 e E' a' w' hs1 hf0 hf1 hf hs' h
      cases e with
      | normal =>
        exact h.elim
      | exit j =>
        dsimp only [KY4_c5] at h
        all_goals exact h.elim
      | ret => exact hq _ _ _ _ hs' hf (hr _ _ h)
      | _ => exact h.elim
  · exact h1.elim
/-- jackstay/jackstaylaw11.FilterHalves -/
def S4 (x1 : Bool) (x2 : Int) (x3 : Int) (x4 : Int) (x5 : Int) (w : World) (K : Value → World → Prop) : Prop :=
  al w (.cells #[(.bool x1), (.int .u32 x2), (.int .u32 x3)] 24) fun r6 w => ∃ b7 : Bool, w.cell? ⟨r6, 0, none⟩ = some (.bool b7) ∧ ∃ n8 : Int, w.cell? ⟨r6, 1, none⟩ = some (.int .u32 n8) ∧ ∃ n9 : Int, w.cell? ⟨r6, 2, none⟩ = some (.int .u32 n9) ∧ callQ Try.prog 8 #[(.agg #[(.bool b7), (.int .u32 n8), (.int .u32 n9)])] w fun v10 w => ∃ b11 : Bool, ∃ n12 : Int, ∃ n13 : Int, v10 = (.agg #[(.bool b11), (.int .u32 n12), (.int .u32 n13)]) ∧ stL w ⟨r6, 0, none⟩ 0 [(.bool b11), (.int .u32 n12), (.int .u32 n13)] fun w => CS4_c5 x4 x5 (⟨r6, 0, none⟩) 11 w K
theorem eq4 (x1 : Bool) (x2 : Int) (x3 : Int) (x4 : Int) (x5 : Int) (w : World) (K : Value → World → Prop) : G Try.prog [8, 9, 10, 11, 12, 13, 14, 15, 16, 17, 18, 19, 20, 21, 22, 23, 24, 25, 26, 27, 28, 29, 30, 31, 500000005, 500000010, 500000012, 500000014, 500000017] 116 [0, 1, 2, 3, 6, 7, 8, 9, 10, 11, 12, 13, 14, 18, 33, 86] (H4 K) 0 (bodyOf Try.f4) (retG Try.prog Try.f4.results.toList K) (env0 0 [(.agg #[(.bool x1), (.int .u32 x2), (.int .u32 x3)]), (.int .u8 x4), (.int .u32 x5)]) w = S4 x1 x2 x3 x4 x5 w K := by kernel_rfl
theorem ok4 {x1 : Bool} {x2 : Int} {x3 : Int} {x4 : Int} {x5 : Int} {w : World} {K : Value → World → Prop} (h : S4 x1 x2 x3 x4 x5 w K) : callV Try.prog 4 #[(.agg #[(.bool x1), (.int .u32 x2), (.int .u32 x3)]), (.int .u8 x4), (.int .u32 x5)] w K :=
  call_sound (qs := [8, 9, 10, 11, 12, 13, 14, 15, 16, 17, 18, 19, 20, 21, 22, 23, 24, 25, 26, 27, 28, 29, 30, 31, 500000005, 500000010, 500000012, 500000014, 500000017]) (args := [(.agg #[(.bool x1), (.int .u32 x2), (.int .u32 x3)]), (.int .u8 x4), (.int .u32 x5)]) (by kernel_rfl) (Try.func4) (c := bodyOf Try.f4) (by kernel_rfl) (by kernel_rfl) (allL (show loops [8, 9, 10, 11, 12, 13, 14, 15, 16, 17, 18, 19, 20, 21, 22, 23, 24, 25, 26, 27, 28, 29, 30, 31, 500000005, 500000010, 500000012, 500000014, 500000017] 0 (bodyOf Try.f4) = [(500000005, .seq (seqX 5 Try.f4) (seqY 5 Try.f4))] by kernel_rfl) ⟨lok4_c5 K, True.intro⟩) (Eq.mpr (eq4 x1 x2 x3 x4 x5 w K) h)
end Go.Proofs.Ytcemgjikmdbjgaa
