/- Plain facts: the phasors of 64ths of turns, their angles and powers, looked over by the kernel. No program in sight. -/
import Derived.Test.YthbinacchpjkmaaSj
import Derived.Test.YthbinacchpjkmaaFm
set_option linter.unusedSimpArgs false
set_option linter.unusedVariables false
set_option maxRecDepth 100000
namespace Go.Proofs.Ythbinacchpjkmaa.Wk
open Go.RowKit Fl

abbrev w64 : Nat := 4634204016564240384
def eN (n : Int) : Nat := can .f64 (floatOfInt .f64 n)
def eT (a : Int) : Nat := fop .quo .f64 (eN a) w64
def kOf (a : Int) : Nat := (a % 64).toNat
theorem kOf_lt (a : Int) : kOf a < 64 := by unfold kOf; omega
def PRl : List Nat := [1065353216, 1065272429, 1065030846, 1064630795, 1064076126, 1063372184, 1062525745, 1061544963, 1060439283, 1059219353, 1057896922, 1056004842, 1053028117, 1049927729, 1044891074, 1036565814, 0, 3184049462, 3192374722, 3197411377, 3200511765, 3203488490, 3205380570, 3206703001, 3207922931, 3209028611, 3210009393, 3210855832, 3211559774, 3212114443, 3212514494, 3212756077, 3212836864, 3212756077, 3212514494, 3212114443, 3211559774, 3210855832, 3210009393, 3209028611, 3207922931, 3206703001, 3205380570, 3203488490, 3200511765, 3197411377, 3192374722, 3184049462, 0, 1036565814, 1044891074, 1049927729, 1053028117, 1056004842, 1057896922, 1059219353, 1060439283, 1061544963, 1062525745, 1063372184, 1064076126, 1064630795, 1065030846, 1065272429]
def PIl : List Nat := [0, 1036565814, 1044891074, 1049927729, 1053028117, 1056004842, 1057896922, 1059219353, 1060439283, 1061544963, 1062525745, 1063372184, 1064076126, 1064630795, 1065030846, 1065272429, 1065353216, 1065272429, 1065030846, 1064630795, 1064076126, 1063372184, 1062525745, 1061544963, 1060439283, 1059219353, 1057896922, 1056004842, 1053028117, 1049927729, 1044891074, 1036565814, 0, 3184049462, 3192374722, 3197411377, 3200511765, 3203488490, 3205380570, 3206703001, 3207922931, 3209028611, 3210009393, 3210855832, 3211559774, 3212114443, 3212514494, 3212756077, 3212836864, 3212756077, 3212514494, 3212114443, 3211559774, 3210855832, 3210009393, 3209028611, 3207922931, 3206703001, 3205380570, 3203488490, 3200511765, 3197411377, 3192374722, 3184049462]
def ANl : List Nat := [0, 1015021568, 1023410176, 1027604479, 1031798784, 1033895936, 1035993088, 1038090240, 1040187392, 1041235968, 1042284544, 1043333120, 1044381696, 1045430272, 1046478848, 1047527424, 1048576000, 1049100288, 1049624576, 1050148864, 1050673152, 1051197440, 1051721728, 1052246016, 1052770304, 1053294592, 1053818880, 1054343168, 1054867456, 1055391744, 1055916032, 1056440320, 1056964608, 3203923968, 3203399680, 3202875392, 3202351104, 3201826816, 3201302528, 3200778240, 3200253952, 3199729664, 3199205376, 3198681088, 3198156800, 3197632512, 3197108224, 3196583936, 3196059648, 3195011072, 3193962496, 3192913920, 3191865344, 3190816768, 3189768192, 3188719616, 3187671040, 3185573888, 3183476736, 3181379584, 3179282432, 3175088127, 3170893824, 3162505216]
def PWl : List Nat := [1065353216, 1065353216, 1065353215, 1065353216, 1065353215, 1065353216, 1065353216, 1065353215, 1065353215, 1065353215, 1065353216, 1065353216, 1065353215, 1065353216, 1065353215, 1065353216, 1065353216, 1065353216, 1065353215, 1065353216, 1065353215, 1065353216, 1065353216, 1065353215, 1065353215, 1065353215, 1065353216, 1065353216, 1065353215, 1065353216, 1065353215, 1065353216, 1065353216, 1065353216, 1065353215, 1065353216, 1065353215, 1065353216, 1065353216, 1065353215, 1065353215, 1065353215, 1065353216, 1065353216, 1065353215, 1065353216, 1065353215, 1065353216, 1065353216, 1065353216, 1065353215, 1065353216, 1065353215, 1065353216, 1065353216, 1065353215, 1065353215, 1065353215, 1065353216, 1065353216, 1065353215, 1065353216, 1065353215, 1065353216]
def PR (k : Nat) : Nat := PRl.getD k 0
def PI (k : Nat) : Nat := PIl.getD k 0
def AN (k : Nat) : Nat := ANl.getD k 0
def PW (k : Nat) : Nat := PWl.getD k 0
theorem all_lt {p : Nat → Bool} {n : Nat} (h : (List.range n).all p = true) {k : Nat} (hk : k < n) : p k = true := List.all_eq_true.1 h k (List.mem_range.2 hk)
/-- A finite word of 32 bits. -/
def fin32B (x : Nat) : Bool := decide (x % 2147483648 < 2139095040)
def words (k : Nat) : Bool := fin32B (PR k) && fin32B (PI k) && fin32B (AN k) && fin32B (PW k)
theorem words_ok : (List.range 64).all words = true := by decide +kernel
def phOK (k : Nat) : Bool := (List.range (k / 16)).all (fun i => cmpF .geq .f64 (phF (eT k) i) wQuarter) && !(cmpF .geq .f64 (phF (eT k) (k / 16)) wQuarter) && (cop .f64 .f32 (phRe (eT k) (k / 16)) == PR k) && (cop .f64 .f32 (phIm (eT k) (k / 16)) == PI k)
theorem ph_ok : (List.range 64).all phOK = true := by decide +kernel
def ptOK (n : Nat) : Bool := decide (eT ((n : Int) - 256) % 9223372036854775808 < 9218868437227405312) && decide (aV D (eT ((n : Int) - 256)) < P 1126) && (partF (eT ((n : Int) - 256)) == eT (kOf ((n : Int) - 256)))
theorem pt_ok : (List.range 511).all ptOK = true := by decide +kernel
def anOK (k : Nat) : Bool := (cop .f64 .f32 (angF (wideF (PI k) % 9223372036854775808) (wideF (PR k) % 9223372036854775808) (cmpF .lss .f64 (wideF (PR k)) 0) (cmpF .lss .f64 (wideF (PI k)) 0)) == AN k) && !(decide (sV S (PR k) = 0) && decide (sV S (PI k) = 0))
theorem an_ok : (List.range 64).all anOK = true := by decide +kernel
def pwW (k : Nat) : Nat := fop .add .f64 (fop .mul .f64 (wideF (PR k)) (wideF (PR k))) (fop .mul .f64 (wideF (PI k)) (wideF (PI k)))
def gapF (a b : Nat) : Nat := if cmpF .lss .f64 a b then fop .sub .f64 b a else fop .sub .f64 a b
abbrev w4 : Nat := 4547007122018943789
abbrev w3 : Nat := 4562254508917369340
abbrev wBig : Nat := 4666723447345250304
def finDB (x : Nat) : Bool := decide (x % 9223372036854775808 < 9218868437227405312)
def pwOK (k : Nat) : Bool := (cop .f64 .f32 (pwW k) == PW k) && finDB (gapF (wideF (PW k)) wOne) && (FloatKind.f64.format.order (gapF (wideF (PW k)) wOne) w4 == some .lt)
theorem pw_ok : (List.range 64).all pwOK = true := by decide +kernel
/-- The turn that is left over. -/
def tuA (a : Int) : Nat := fop .sub .f64 (fop .mul .f64 (wideF (AN (kOf a))) w64) (eN a)
def whA (a : Int) : Nat := fop .add .f64 (tuA a) wBig
def whN (a : Int) : Int := Fl.toI (whA a)
def tuOK (n : Nat) : Bool := finDB (tuA ((n : Int) - 128)) && finDB (whA ((n : Int) - 128)) && decide (cutW (whA ((n : Int) - 128)) ≤ 20000) && decide ((whN ((n : Int) - 128) - 10000).natAbs ≤ 300) && decide (Int.tmod (whN ((n : Int) - 128) - 10000) 64 = 0) &&
  finDB (gapF (tuA ((n : Int) - 128)) (eN (whN ((n : Int) - 128) - 10000))) && (FloatKind.f64.format.order (gapF (tuA ((n : Int) - 128)) (eN (whN ((n : Int) - 128) - 10000))) w3 == some .lt)
theorem tu_ok : (List.range 256).all tuOK = true := by decide +kernel
/-- The real part of a quarter's multiple: 0 or 1. -/
def reOK (n : Nat) : Bool := finDB (gapF (wideF (PR (16 * n))) 0) && ((FloatKind.f64.format.order (gapF (wideF (PR (16 * n))) 0) 0 == some .eq) || (FloatKind.f64.format.order (gapF (wideF (PR (16 * n))) 0) wOne == some .eq && FloatKind.f64.format.order (gapF (wideF (PR (16 * n))) 0) 0 == some .gt))
theorem re_ok : (List.range 4).all reOK = true := by decide +kernel
end Go.Proofs.Ythbinacchpjkmaa.Wk
