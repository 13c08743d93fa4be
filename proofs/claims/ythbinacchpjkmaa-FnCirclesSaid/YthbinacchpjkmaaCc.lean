/- Plain facts: the bounds of tenths for the numbers that the law draws, looked over by the kernel. No program in sight. -/
import Derived.Test.YthbinacchpjkmaaCb
set_option linter.unusedSimpArgs false
set_option linter.unusedVariables false
namespace Go.Proofs.Ythbinacchpjkmaa.Fl
open Ieee

def tab0 : List (Int × Int) := [(-1506744977, -1506744583), (-1001700449, -1001700099), (-706268760, -706267846), (-496655921, -496655615), (-334067966, -334067487), (-201224232, -201223363), (-88905864, -88905603), (8388608, 8388869), (94208237, 94208499), (170976562, 170976997), (240421466, 240422596), (303820252, 303821165), (362141571, 362142050), (416138620, 416138925), (466408640, 466408946), (513433091, 513433397), (557605617, 557605923), (599252721, 599253027), (638647487, 638647793), (676021046, 676021525), (711570568, 711571308), (745465949, 745467124), (777853808, 777855764), (808864736, 808865693), (838608870, 838609480), (867186055, 867186578), (894684800, 894685149), (921183104, 921183453), (946751583, 946751933), (971453124, 971453474), (995344532, 995344882), (1018477575, 1018477925), (1040898549, 1040898899), (1062650101, 1062650451), (1083771145, 1083771495), (1104297205, 1104297555), (1124260767, 1124261204), (1143691971, 1143692321), (1162618264, 1162618700), (1181065530, 1181066053), (1199057047, 1199057658), (1216615052, 1216615836), (1233759869, 1233760827), (1250510433, 1250511652), (1266884291, 1266885857), (1282898292, 1282900292), (1298567637, 1298570158), (1313909220, 1313910221), (1328933029, 1328933770), (1343653354, 1343654008), (1358082093, 1358082660), (1372230539, 1372231106), (1386109548, 1386110029), (1399729283, 1399729677), (1413098865, 1413099259), (1426227588, 1426227981), (1439123962, 1439124443), (1451796067, 1451796461), (1464251459, 1464251853), (1476497608, 1476498002)]
def tab1 : List (Int × Int) := [(1488541202, 1488541596), (1500389016, 1500389410), (1512047304, 1512047698), (1523522059, 1523522453), (1534818667, 1534819061), (1545943033, 1545943427), (1556900022, 1556900416), (1567694585, 1567694979), (1578331673, 1578332067), (1588815629, 1588816023), (1599150882, 1599151276), (1609341689, 1609342083), (1619391784, 1619392178), (1629305251, 1629305732), (1639085562, 1639086043), (1648736454, 1648736849), (1658261054, 1658261535), (1667662747, 1667663228), (1676944750, 1676945231), (1686110014, 1686110581), (1695161232, 1695161886), (1704101531, 1704102186), (1712933430, 1712934172), (1721659536, 1721660364), (1730282453, 1730283368), (1738804353, 1738805355), (1747227668, 1747228844), (1755554917, 1755556180), (1763787925, 1763789361), (1771928775, 1771930385)]
def tab2 : List (Int × Int) := [(1779979813, 1779981597), (1787942776, 1787944820), (1795819662, 1795821967), (1803612121, 1803614686), (1811322150, 1811324977), (1818953703, 1818954749), (1826504347, 1826505306), (1833977513, 1833978298), (1841374851, 1841375636), (1848697838, 1848698536), (1855947950, 1855948561), (1863126577, 1863127188), (1870235109, 1870235721), (1877275023, 1877275634), (1884247620, 1884248145), (1891154032, 1891154557), (1897995733, 1897996258), (1904773767, 1904774205), (1911489176, 1911489701), (1918143349, 1918143787)]
def tab3 : List (Int × Int) := [(1924737242, 1924737767), (1931272071, 1931272509), (1937748792, 1937749230), (1944168446, 1944168971), (1950532076, 1950532514), (1956840551, 1956840989), (1963094913, 1963095351), (1969295943, 1969296381), (1975444771, 1975445209), (1981542092, 1981542530), (1987588774, 1987589212), (1993585686, 1993586124), (1999533696, 1999534134), (2005433500, 2005433938), (2011285966, 2011286404), (2017091788, 2017092226), (2022851662, 2022852100), (2028566543, 2028566981), (2034236692, 2034237130), (2039863151, 2039863589)]
def tab4 : List (Int × Int) := [(2045446527, 2045446965), (2050987517, 2050987955), (2056486554, 2056486992), (2061944506, 2061944944), (2067361722, 2067362160), (2072739069, 2072739507), (2078077069, 2078077508), (2083376157, 2083376595), (2088637027, 2088637465), (2093860113, 2093860551), (2099046110, 2099046548), (2104195366, 2104195804), (2109308662, 2109309100), (2114386173, 2114386611), (2119428592, 2119429030)]
def tab5 : List (Int × Int) := [(2124436268, 2124436706), (2129409895, 2129410334), (2134349735, 2134350260), (2139256307, 2139256745), (2144130046, 2144130571), (2148971388, 2148971913), (2153780938, 2153781377), (2158558699, 2158559224), (2163305538, 2163306063), (2168021628, 2168022153), (2172707231, 2172707756), (2177363042, 2177363567), (2181989234, 2181989759), (2186586241, 2186586853), (2191154497, 2191155109)]
def tab6 : List (Int × Int) := [(2195694178, 2195694790), (2200205716, 2200206414), (2204689632, 2204690331), (2209146015, 2209146714), (2213575384, 2213576083), (2217977914, 2217978700), (2222354039, 2222354825), (2226704020, 2226704892), (2231028203, 2231029076), (2235326937, 2235327896), (2239600307, 2239601267), (2243848837, 2243849883), (2248072698, 2248073831), (2252272152, 2252273372), (2256447720, 2256448940)]
def tab7 : List (Int × Int) := [(2260599401, 2260600708), (2264727544, 2264728938), (2268832408, 2268833889), (2272914169, 2272915823), (2276973259, 2276974913), (2281009939, 2281011680), (2285024296, 2285026125), (2289016679, 2289018594), (2292987260, 2292989348), (2296936299, 2296938562), (2300864145, 2300866495), (2304770798, 2304773321), (2308656604, 2308659214)]
def tab8 : List (Int × Int) := [(2312521825, 2312524609), (2316366634, 2316369505), (2320191205, 2320194250), (2323998187, 2323999277), (2327783324, 2327784327), (2331548831, 2331549834), (2335294969, 2335295885), (2339021997, 2339022826), (2342730003, 2342730833), (2346419335, 2346420164), (2350089992, 2350090734), (2353742321, 2353743064)]
def tabs : List (Int × Int) := tab0 ++ tab1 ++ tab2 ++ tab3 ++ tab4 ++ tab5 ++ tab6 ++ tab7 ++ tab8
set_option maxRecDepth 100000
def tabC : List (Int × Int) → Nat → Bool
  | [], _ => true
  | i :: r, X => decide (tenIV X 3 = some i) && tabC r (X + 1)
theorem tabC_at : ∀ (T : List (Int × Int)) (X : Nat), tabC T X = true → ∀ m i, T[m]? = some i → tenIV (X + m) 3 = some i
  | [], X, h, m, i, hi => by simp at hi
  | i0 :: r, X, h, m, i, hi => by
    unfold tabC at h
    simp only [Bool.and_eq_true, decide_eq_true_eq] at h
    cases m with
    | zero => cases hi; exact h.1
    | succ m =>
      have := tabC_at r (X + 1) h.2 m i (by simpa using hi)
      rwa [show X + 1 + m = X + (m + 1) by omega] at this
theorem tab_ok : tabC tabs 1 = true := by decide +kernel
theorem tab_len : tabs.length = 200 := by decide +kernel
theorem col0 : colC [] tab0 1 = true := by decide +kernel
theorem col1 : colC (tab0) tab1 61 = true := by decide +kernel
theorem col2 : colC (tab0 ++ tab1) tab2 91 = true := by decide +kernel
theorem col3 : colC (tab0 ++ tab1 ++ tab2) tab3 111 = true := by decide +kernel
theorem col4 : colC (tab0 ++ tab1 ++ tab2 ++ tab3) tab4 131 = true := by decide +kernel
theorem col5 : colC (tab0 ++ tab1 ++ tab2 ++ tab3 ++ tab4) tab5 146 = true := by decide +kernel
theorem col6 : colC (tab0 ++ tab1 ++ tab2 ++ tab3 ++ tab4 ++ tab5) tab6 161 = true := by decide +kernel
theorem col7 : colC (tab0 ++ tab1 ++ tab2 ++ tab3 ++ tab4 ++ tab5 ++ tab6) tab7 176 = true := by decide +kernel
theorem col8 : colC (tab0 ++ tab1 ++ tab2 ++ tab3 ++ tab4 ++ tab5 ++ tab6 ++ tab7) tab8 189 = true := by decide +kernel
theorem colC_app : ∀ (R Q T : List (Int × Int)) (X : Nat), colC T R X = true → colC (T ++ R) Q (X + R.length) = true → colC T (R ++ Q) X = true
  | [], Q, T, X, _, h => by simpa using h
  | i :: r, Q, T, X, h1, h2 => by
    rw [List.cons_append]
    unfold colC at h1 ⊢
    simp only [Bool.and_eq_true] at h1 ⊢
    refine ⟨h1.1, colC_app r Q (T ++ [i]) (X + 1) h1.2 ?_⟩
    rw [show X + 1 + r.length = X + (i :: r).length by simp; omega]
    simpa using h2
theorem col_all : colC [] tabs 1 = true := by
  have h0 : colC [] tab0 1 = true := col0
  have h1 : colC [] (tab0 ++ tab1) 1 = true := colC_app _ _ _ 1 h0 (by rw [List.nil_append]; exact col1)
  have h2 : colC [] (tab0 ++ tab1 ++ tab2) 1 = true := colC_app _ _ _ 1 h1 (by rw [List.nil_append]; exact col2)
  have h3 : colC [] (tab0 ++ tab1 ++ tab2 ++ tab3) 1 = true := colC_app _ _ _ 1 h2 (by rw [List.nil_append]; exact col3)
  have h4 : colC [] (tab0 ++ tab1 ++ tab2 ++ tab3 ++ tab4) 1 = true := colC_app _ _ _ 1 h3 (by rw [List.nil_append]; exact col4)
  have h5 : colC [] (tab0 ++ tab1 ++ tab2 ++ tab3 ++ tab4 ++ tab5) 1 = true := colC_app _ _ _ 1 h4 (by rw [List.nil_append]; exact col5)
  have h6 : colC [] (tab0 ++ tab1 ++ tab2 ++ tab3 ++ tab4 ++ tab5 ++ tab6) 1 = true := colC_app _ _ _ 1 h5 (by rw [List.nil_append]; exact col6)
  have h7 : colC [] (tab0 ++ tab1 ++ tab2 ++ tab3 ++ tab4 ++ tab5 ++ tab6 ++ tab7) 1 = true := colC_app _ _ _ 1 h6 (by rw [List.nil_append]; exact col7)
  have h8 : colC [] (tab0 ++ tab1 ++ tab2 ++ tab3 ++ tab4 ++ tab5 ++ tab6 ++ tab7 ++ tab8) 1 = true := colC_app _ _ _ 1 h7 (by rw [List.nil_append]; exact col8)
  exact h8
/-- For all numbers of eighths that the law draws, the lesser behind the greater. -/
theorem ten_tri (X Y : Nat) (hX : 1 ≤ X ∧ X ≤ 200) (hY : 1 ≤ Y ∧ Y ≤ X) : ∃ i j k, tenIV X 3 = some i ∧ tenIV Y 3 = some j ∧ tenIV (X * Y) 6 = some k ∧ chk3 i j k = true := by
  have hl := tab_len
  have g : ∀ n, n < 200 → ∃ i, tabs[n]? = some i := fun n hn => ⟨tabs[n]'(by omega), List.getElem?_eq_getElem _⟩
  obtain ⟨i, hi⟩ := g (X - 1) (by omega)
  obtain ⟨j, hj⟩ := g (Y - 1) (by omega)
  have h1 := tabC_at tabs 1 tab_ok _ _ hi
  have h2 := tabC_at tabs 1 tab_ok _ _ hj
  rw [show 1 + (X - 1) = X by omega] at h1
  rw [show 1 + (Y - 1) = Y by omega] at h2
  have h3 := colC_at tabs [] 1 col_all _ _ hi
  rw [show 1 + (X - 1) = X by omega, List.nil_append] at h3
  obtain ⟨k, h4, h5⟩ := rowC_at _ 1 h3 (Y - 1) j (by rw [List.getElem?_take, if_pos (by omega)]; exact hj)
  rw [show 1 + (Y - 1) = Y by omega] at h4
  exact ⟨i, j, k, h1, h2, h4, h5⟩
theorem ten_pairs (X Y : Nat) (hX : 1 ≤ X ∧ X ≤ 200) (hY : 1 ≤ Y ∧ Y ≤ 200) : ∃ i j k, tenIV X 3 = some i ∧ tenIV Y 3 = some j ∧ tenIV (X * Y) 6 = some k ∧ i.2 + j.2 - k.1 ≤ 16777216 ∧ k.2 - i.1 - j.1 ≤ 0 := by
  rcases Nat.le_total Y X with h | h
  · obtain ⟨i, j, k, h1, h2, h3, h4⟩ := ten_tri X Y hX ⟨hY.1, h⟩
    unfold chk3 at h4
    simp only [Bool.and_eq_true, decide_eq_true_eq] at h4
    exact ⟨i, j, k, h1, h2, h3, h4.1, h4.2⟩
  · obtain ⟨i, j, k, h1, h2, h3, h4⟩ := ten_tri Y X hY ⟨hX.1, h⟩
    unfold chk3 at h4
    simp only [Bool.and_eq_true, decide_eq_true_eq] at h4
    exact ⟨j, i, k, h2, h1, by rw [Nat.mul_comm]; exact h3, by omega, by omega⟩
end Go.Proofs.Ythbinacchpjkmaa.Fl
