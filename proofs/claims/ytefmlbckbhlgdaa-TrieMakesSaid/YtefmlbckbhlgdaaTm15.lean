/- The sum of one byte, 128: reckoned round by round. The trie: the root of none; alive. The trie: what is laid may come in again; alive. The trie's root sum, in plain words: what nodes are told by, of a trie and of its pairs, is the same. -/
import Derived.Test.YtefmlbckbhlgdaaTm4
import Derived.Test.YtefmlbckbhlgdaaTm5
import Derived.Test.YtefmlbckbhlgdaaTm13
import Derived.Test.YtefmlbckbhlgdaaTm14
namespace Go.Proofs.Ytefmlbckbhlgdaa
open Go.RowKit
set_option maxRecDepth 100000
def rotN (a s : Nat) : Nat := ((a * 2 ^ s) % 18446744073709551616) ||| (a / 2 ^ (64 - s))
def invN : List Nat := [0, 6, 12, 18, 24, 3, 9, 10, 16, 22, 1, 7, 13, 19, 20, 4, 5, 11, 17, 23, 2, 8, 14, 15, 21]
def tabN : List Nat := [0, 1, 62, 28, 27, 36, 44, 6, 55, 20, 3, 10, 43, 25, 39, 41, 45, 15, 21, 8, 18, 2, 61, 56, 14]
def cN (S : List Nat) (x : Nat) : Nat := (((S.getD x 0 ^^^ S.getD (x + 5) 0) ^^^ S.getD (x + 10) 0) ^^^ S.getD (x + 15) 0) ^^^ S.getD (x + 20) 0
def dN (S : List Nat) (x : Nat) : Nat := cN S ((x + 4) % 5) ^^^ rotN (cN S ((x + 1) % 5)) 1
def bN (S : List Nat) (j : Nat) : Nat := rotN (S.getD (invN.getD j 0) 0 ^^^ dN S (invN.getD j 0 % 5)) (tabN.getD (invN.getD j 0) 0)
def chN (S : List Nat) (i : Nat) : Nat := bN S i ^^^ ((18446744073709551615 ^^^ bN S (i / 5 * 5 + (i + 1) % 5)) &&& bN S (i / 5 * 5 + (i + 2) % 5))
def rndN (S : List Nat) (c : Nat) : List Nat := (List.range 25).map fun i => if i = 0 then chN S 0 ^^^ c else chN S i

def W64 (a : Nat) : Prop := a < 18446744073709551616
theorem W64.xor {a b : Nat} (ha : W64 a) (hb : W64 b) : W64 (a ^^^ b) := Nat.xor_lt_two_pow (n := 64) ha hb
theorem W64.and {a b : Nat} (ha : W64 a) : W64 (a &&& b) := Nat.lt_of_le_of_lt Nat.and_le_left ha
theorem W64.rot {a s : Nat} (ha : W64 a) : W64 (rotN a s) := Nat.or_lt_two_pow (n := 64) (Nat.mod_lt _ (by decide)) (Nat.lt_of_le_of_lt (Nat.div_le_self _ _) ha)
theorem xr_nat {a b : Nat} (ha : W64 a) (hb : W64 b) : xr (a : Int) (b : Int) = ((a ^^^ b : Nat) : Int) := bits_xor_u64_nat a b ha hb
theorem an_nat {a b : Nat} (ha : W64 a) (hb : W64 b) : an (a : Int) (b : Int) = ((a &&& b : Nat) : Int) := bits_and_u64_nat a b ha hb
theorem nt_nat {a : Nat} (ha : W64 a) : nt (a : Int) = ((18446744073709551615 ^^^ a : Nat) : Int) := bits_xor_u64_nat 18446744073709551615 a (by omega) ha
theorem rl_nat {a : Nat} (s : Nat) (ha : W64 a) : rl (a : Int) s = ((rotN a s : Nat) : Int) := by
  unfold rl rotN
  have e1 : IntKind.u64.wrap ((a : Int) * 2 ^ s) = (((a * 2 ^ s) % 18446744073709551616 : Nat) : Int) := by
    rw [IntKind.wrap_u64, Int.natCast_emod, Int.natCast_mul, Int.natCast_pow]; rfl
  have e2 : (a : Int) / 2 ^ (64 - s) = ((a / 2 ^ (64 - s) : Nat) : Int) := by rw [Int.natCast_ediv, Int.natCast_pow]; rfl
  rw [e1, e2]
  exact bits_or_u64_nat _ _ (Nat.mod_lt _ (by decide)) (Nat.lt_of_le_of_lt (Nat.div_le_self _ _) ha)

theorem toN_inj : ∀ i, i < 25 → ∀ j, j < 25 → toT i = toT j → i = j := by decide
theorem inv_ok : ∀ j, j < 25 → invN.getD j 0 < 25 ∧ toT (invN.getD j 0) = j := by decide
theorem tab_ok : ∀ i, i < 25 → byT 24 i = tabN.getD i 0 := by decide
theorem rho_at (A : NF) (t : Nat → Nat) : ∀ n, n ≤ 25 → ∀ i, i < n → rho A t toT n (toT i) = rl (xr (A i) (thD A (i % 5))) (t i)
  | 0, _, i, h => by omega
  | n + 1, hn, i, h => by
    unfold rho upd
    by_cases e : i = n
    · subst e; rw [if_pos rfl]
    · rw [if_neg (fun h2 => e (toN_inj i (by omega) n (by omega) h2))]
      exact rho_at A t n (by omega) i (by omega)
/-- A state as numbers. -/
structure StN (A : NF) (S : List Nat) : Prop where
  at_ : ∀ i, i < 25 → A i = ((S.getD i 0 : Nat) : Int)
  lt : ∀ i, W64 (S.getD i 0)
theorem StN.c {A : NF} {S : List Nat} (h : StN A S) {x : Nat} (hx : x < 5) : thC A x = ((cN S x : Nat) : Int) ∧ W64 (cN S x) := by
  unfold thC cN
  rw [h.at_ x (by omega), h.at_ (x + 5) (by omega), h.at_ (x + 10) (by omega), h.at_ (x + 15) (by omega), h.at_ (x + 20) (by omega)]
  have w1 := (h.lt x).xor (h.lt (x + 5))
  have w2 := w1.xor (h.lt (x + 10))
  have w3 := w2.xor (h.lt (x + 15))
  rw [xr_nat (h.lt _) (h.lt _), xr_nat w1 (h.lt _), xr_nat w2 (h.lt _), xr_nat w3 (h.lt _)]
  exact ⟨rfl, w3.xor (h.lt _)⟩
theorem StN.d {A : NF} {S : List Nat} (h : StN A S) (x : Nat) : thD A x = ((dN S x : Nat) : Int) ∧ W64 (dN S x) := by
  unfold thD dN
  obtain ⟨a1, a2⟩ := h.c (x := (x + 4) % 5) (Nat.mod_lt _ (by decide))
  obtain ⟨b1, b2⟩ := h.c (x := (x + 1) % 5) (Nat.mod_lt _ (by decide))
  rw [a1, b1, rl_nat 1 b2, xr_nat a2 b2.rot]
  exact ⟨rfl, a2.xor b2.rot⟩
theorem StN.b {A : NF} {S : List Nat} (h : StN A S) {j : Nat} (hj : j < 25) : rho A (byT 24) toT 25 j = ((bN S j : Nat) : Int) ∧ W64 (bN S j) := by
  obtain ⟨h1, h2⟩ := inv_ok j hj
  have := rho_at A (byT 24) 25 (Nat.le_refl _) (invN.getD j 0) h1
  rw [h2] at this
  obtain ⟨d1, d2⟩ := h.d (invN.getD j 0 % 5)
  rw [this, h.at_ _ h1, d1, xr_nat (h.lt _) d2, rl_nat _ ((h.lt _).xor d2), tab_ok _ h1]
  exact ⟨rfl, ((h.lt _).xor d2).rot⟩
theorem StN.ch {A : NF} {S : List Nat} (h : StN A S) {i : Nat} (hi : i < 25) : chi (rho A (byT 24) toT 25) i = ((chN S i : Nat) : Int) ∧ W64 (chN S i) := by
  obtain ⟨a1, a2⟩ := h.b hi
  obtain ⟨b1, b2⟩ := h.b (j := i / 5 * 5 + (i + 1) % 5) (by omega)
  obtain ⟨c1, c2⟩ := h.b (j := i / 5 * 5 + (i + 2) % 5) (by omega)
  have w1 : W64 (18446744073709551615 ^^^ bN S (i / 5 * 5 + (i + 1) % 5)) := W64.xor (by unfold W64; decide) b2
  unfold chi chN
  rw [a1, b1, c1, nt_nat b2, an_nat w1 c2, xr_nat a2 w1.and]
  exact ⟨rfl, a2.xor w1.and⟩
theorem getD_map25 (f : Nat → Nat) (i : Nat) : ((List.range 25).map f).getD i 0 = if i < 25 then f i else 0 := by
  rw [List.getD_eq_getElem?_getD, List.getElem?_map]
  by_cases h : i < 25
  · rw [List.getElem?_range h, if_pos h]; rfl
  · rw [List.getElem?_eq_none (by simpa using h), if_neg h]; rfl
theorem StN.rnd {A : NF} {S : List Nat} (h : StN A S) {c : Nat} (hc : W64 c) : StN (rnd A (byT 24) toT (c : Int)) (rndN S c) := by
  refine ⟨fun i hi => ?_, fun i => ?_⟩
  · unfold Go.Proofs.Ytefmlbckbhlgdaa.rnd rndN upd
    rw [getD_map25, if_pos hi]
    by_cases e : i = 0
    · subst e
      obtain ⟨a1, a2⟩ := h.ch (i := 0) (by decide)
      rw [if_pos rfl, if_pos rfl, a1, xr_nat a2 hc]
    · rw [if_neg e, if_neg e]
      exact (h.ch hi).1
  · unfold rndN
    rw [getD_map25]
    split
    · rename_i hi
      split
      · exact (h.ch (i := 0) (by decide)).2.xor hc
      · exact (h.ch hi).2
    · exact (by decide : (0 : Nat) < 18446744073709551616)
def s128_0 : List Nat := [384, 0, 0, 0, 0, 0, 0, 0, 0, 0, 0, 0, 0, 0, 0, 0, 9223372036854775808, 0, 0, 0, 0, 0, 0, 0, 0]
def s128_1 : List Nat := [4398046511488, 6755399441055744, 4398059094016, 385, 6755399453638656, 8, 13528391873462272, 1152921504606846984, 13528391068155904, 1152921505412153344, 768, 196640, 262144, 197376, 262176, 103079608320, 68719493120, 393216, 103079231488, 0, 2306265221678759936, 2199023255552, 422212465067520, 2305845208236949504, 1536]
def s128_2 : List Nat := [2182049132765644770, 11668168345446221096, 5380413974553647500, 10613868769615053264, 16585490794394507284, 456132115667562560, 16938320722170086145, 9388061039550305092, 5748704430597996592, 16756265305995787093, 69535462859226168, 2383987551405267700, 9242460763465982734, 3687938127802109296, 9406263727712469922, 4762128047853402321, 2101068318248223265, 5345844775773448714, 1951837895049425141, 4915737297537943566, 10498406093481075016, 12399536543796086180, 405852763366170176, 1809537378687725993, 2594698054100106853]
def s128_3 : List Nat := [10587674082251155286, 12295003333405047640, 8320106052203517906, 15746646630373826632, 7956341367140175821, 271998501055187152, 6161950723969201315, 14626824847793123466, 7232038832619253626, 5802318109987064019, 14605914843357596783, 18199034560651813238, 11761055198248588649, 14931131939011272061, 4589230114844672293, 2702709278797886732, 12438175492473974488, 16533758835832514448, 17648767619333162449, 12454155362834798288, 6547419096552038997, 17863714295294183737, 6815941287131243850, 11941818008713731977, 11593272198896001877]
def s128_4 : List Nat := [13139004848265492024, 12038897189279959863, 4535509470629079885, 6298811088724731955, 6960541259291704176, 4238298452061379741, 14052547358869265198, 13534091451449006027, 5005742540969869375, 10216265057317338243, 10657968201887144309, 3755886287199727861, 1905221129398742332, 18058633948119425965, 14139725243624045079, 12692265190992576030, 16351333553944118316, 17939733627500939115, 3158244766273046136, 6905765664026428776, 11216096557022702948, 3226614663942222110, 9295748125387185896, 4877051358022462022, 2466253043493396834]
def s128_5 : List Nat := [11499700482924944614, 9871736077752886168, 9347189370386090310, 13687706470696388789, 7342376038307992005, 7515567418376488463, 6626367755818266168, 17870384328968292663, 16040312605229999755, 3961475810303670321, 14641834863742215884, 9919199157411834415, 8239493335932606232, 14673990661345350134, 10232430124821431709, 8102956457542890468, 11398696988432736561, 8087700857654129527, 8284515488609121202, 3426283203580408768, 2892372057968105065, 5698727030472103352, 6768186833150412808, 9390236849841403085, 10418992559873566219]
def s128_6 : List Nat := [5449036103682384970, 1945435974673893549, 6537962327368724302, 192488952015788577, 18012517056658479333, 1541344975414744486, 10826806985277206076, 17374733906858460757, 12411558819379232788, 9715899772589254484, 7803780984886946869, 4666084499967365986, 1071124970359389036, 11285656840313644975, 7126250872523319144, 4761075731672139331, 2134987740164658089, 3312505235148041925, 7996747645392498619, 9421920852806988923, 12509880441052002251, 12449875390780702968, 10926952464568556833, 16711899077820180878, 16089439927557968069]
def s128_7 : List Nat := [8119035236139836811, 16005129534378575768, 68899860831642857, 17176054800153979844, 10807643993994952478, 11635152437011172752, 370311697163386474, 2447316518401403070, 8050118152392018323, 15677702258001722352, 10612647512998469364, 10307308126180011708, 16707262376862710597, 8149669907370473351, 2348188376447942579, 5600852301144429397, 7759218427471314370, 10749806066910966430, 10833596457699545892, 17526896618579581842, 10746720898108813213, 1059767712115599108, 6143523680500992805, 3335727938099738285, 2185253684342599229]
def s128_8 : List Nat := [524192139042845799, 12380955459704331248, 4371099328627514517, 11512612867373488377, 3587695288418489146, 6727774815105058600, 544270735790307225, 15481746320463109232, 12420082352217240072, 15867816860523471954, 1361973359649401293, 4864147376121046440, 14019105629707784967, 6291940297467077831, 238910987141159827, 14370632719706036312, 18254186758232640274, 12355931435344577893, 15203951647468424953, 14536166784496461991, 7498111979048702564, 8842035033708500077, 14041469979673580767, 16109215187623354656, 6972967776131015887]
def s128_9 : List Nat := [1216453332709159171, 8753152814632261148, 12697741148230024476, 10084298616644274422, 16892449705610524647, 13537571959996144536, 4203203418863942035, 5623412450235769105, 11179784819334908026, 17226989575017586774, 308118316201839737, 7224336918783877235, 13693823936456071447, 12970465063502099519, 3746124186074857135, 5433392959649111753, 1347896246647563999, 16876046896984210744, 13103176967629883984, 6485697694820273588, 7310503191572197945, 18100877299295402041, 10086234199795060944, 14493696004129231616, 16462383848295827596]
def s128_10 : List Nat := [2116225999785982360, 12044841014460807379, 1785248466689517891, 1190008905775761575, 10699401538006093767, 16432291458439581178, 2848124399160325866, 11169023018819784720, 12656347508403053591, 13657909975344673092, 16415684346823843766, 5448883023617368460, 10671887524177224992, 13940941951662843920, 13953113988626850119, 3320760914317465352, 4118994835717738311, 4821723679654819769, 17509521463633415901, 4526532243680502560, 9116922956685233584, 4815925211365891741, 14981716700872396020, 9008695263281244497, 16634909234815024432]
def s128_11 : List Nat := [14906959868749108378, 7894173544634510771, 10262757026543449174, 6717860483236353578, 5310204787795495901, 12532786328403630264, 8406327143097671751, 10517703827903059957, 17454202353324355047, 4723430105288713949, 12482848676284049865, 6997294386465397171, 13547292945660118874, 8035872269059479258, 10066853524872805724, 15215280023480420515, 6222579505111834287, 1568822445144163485, 856833742097746050, 14690580670163857089, 8917978462485785961, 15487566397219529227, 2934861320190668580, 13030354995026465382, 17714353076711248944]
def s128_12 : List Nat := [10553292844352694267, 14259367131973343222, 2085998812316830885, 8507148488644357679, 7743391390052336125, 13085319535328589963, 11618297156687106908, 2924616172033823003, 5002400838071083, 2724205994926072944, 8608269609951864508, 14170358090386181188, 11375446719732927902, 16463154603470967387, 5158751459433039196, 5898912534161873141, 2313193305486201834, 5623455912960192096, 12988558287740869989, 18253978213935194498, 16412814479281302612, 13711613077733587838, 13814082518477709936, 3298202002006865477, 3159545049898824069]
def s128_13 : List Nat := [13298714065151456723, 6224607450032610414, 12207241611464126147, 1837804615662004060, 4404813662446481772, 548653257859538918, 11660615430031997684, 3900706914228803054, 3308108712605172294, 4235935295777145166, 10362224988270710232, 6695418476141962704, 17614829627338288367, 11000626005946360598, 1532683922533196498, 17994657707468831400, 235462687742309471, 17284324419416418896, 13417725436150297555, 15748675958682090143, 16810691848762358144, 5454892855250601591, 17229571845234459403, 18199098756126607482, 11612078567017430984]
def s128_14 : List Nat := [13823524779708910984, 14281122110029787657, 17189171338541125617, 6791913141048735877, 259541089738326219, 16668978254616714254, 3026826805070468389, 470149926113035733, 6153356983587357561, 4841111202885911077, 16371852056411377453, 5126647719649866208, 12128196466674219486, 13078557170392937299, 6454450792476241040, 9118834981528426905, 215695369590744345, 5631498869728710316, 4443491163451993979, 12409458298429026395, 10845583159568967994, 14870477225528254442, 9811996547450627880, 9844769852550114963, 13394620159935359043]
def s128_15 : List Nat := [17748602176242838365, 13058475605274964795, 1889533336491015253, 6621542229281743329, 4321154409910605131, 622900429602030885, 9059224556306320107, 2121297500176599482, 16653691280421534636, 12107575473710205945, 8343103847795454907, 1318087737226548509, 6958168814758146860, 15466800517819633049, 12912434677545786466, 553230959009058289, 9064379221063755633, 14172285357915968608, 7096640855261188857, 8720428065159344208, 3287126877322161493, 14242187915503046392, 1097884345880474993, 497976006780068147, 9604159332242790100]
def s128_16 : List Nat := [2305140452915102755, 9909762104569018444, 8789596271840803301, 1771907164334744049, 1196928142444415284, 11048397381414116143, 3939112443187796642, 6076715078881044795, 8912901566217813367, 3028973554566675393, 15557917132125292277, 13577912083663106232, 14050973868454557151, 17929287658545513403, 12111070707567681912, 12237030153049991198, 17493176899746065802, 4371057466064789429, 6820574897875752940, 6346604837964165390, 14790700688646278618, 4827620243357633546, 6253666424992827731, 7676132835540775712, 14570859653722555080]
def s128_17 : List Nat := [13269546751511367511, 13287077529390166627, 8757056241597218114, 7922109146168121960, 2376068474109293465, 10527445812170856215, 2595762396363134491, 923114007124674609, 6800172131028729617, 12917914518783816100, 4012250213379328877, 2317036388993319594, 18378768879321704154, 2534822515498796713, 12098060693471276234, 5928713163861591708, 8218874283748724525, 9155058365903026767, 16694715255993167520, 17385646621500109121, 4993244903752580732, 10642396254358743239, 4913838231047504879, 15032577511617244447, 17806686985624837986]
def s128_18 : List Nat := [1509502791701384570, 765124607615010790, 3453670054982543146, 8649693094955341352, 11155455814371402593, 4909435743074445400, 12216850873910308350, 15717002983119359564, 161619811603060584, 9466465316668949703, 14558136862141223283, 10792471619176523076, 18326703579157343348, 8033632026053230016, 1554774960459961980, 15867092617858072748, 2743065395975502996, 3055677683512236327, 17042643855714236353, 11278604704494917334, 2012788485051520872, 8810714954618619836, 14722004994191201569, 3642410168125965215, 12638222564473035877]
def s128_19 : List Nat := [7353336335028557552, 4955121705712609142, 18360604150291910579, 15928614321613363016, 12845447708406060686, 10083343494105476700, 14892786149472821607, 141247582628197760, 2382991958432697806, 7064098399559591740, 1876464526974771715, 5205519727869018376, 3493873591313550012, 14168146601265662588, 13254286192304702766, 12152597872613730504, 4889670852692155787, 3323052424727094471, 420857117209258805, 1997903355595881103, 18193559495593265330, 5145987521271701748, 12525992911993190505, 1487982046081522064, 17472816755999308103]
def s128_20 : List Nat := [10248423023236527471, 10394254735004966898, 8914656710518729853, 16828055007520204010, 8111850925068447083, 15746899663063146358, 175283254652348609, 17141515452528725186, 6333076140313851596, 2845689822875955295, 4384073991557645194, 3672422414505408277, 11661213744472218189, 13782021956263836598, 8002543554418158336, 17344372653853440853, 11259804308988728442, 4687478897329987034, 4693595288979099465, 1442452018847983665, 10841207381348318738, 2408919086196686246, 8694240059901313998, 13881804696601742623, 15280515040652822568]
def s128_21 : List Nat := [15629585363509424163, 16755520474227736427, 1559888885384189454, 1457160843054545544, 2070603999348856114, 5345687427252465693, 2703621425517256869, 17423862398935307806, 2615585973130287990, 941045327271028343, 12081853137002706263, 662306608032166773, 12878153255089365462, 16440260416254934600, 10716291420411256348, 18324227650432501220, 4687221305869414184, 7338060336599758208, 16603463928510332559, 11753926020857054598, 15983828647482386434, 13269012402224476799, 3030064248631323727, 11035253295152831813, 17151190040208269701]
def s128_22 : List Nat := [18125468270842645029, 11690078016348033018, 6414100091009222967, 10789097616628902722, 7916319721009905443, 16307276223263972077, 859012317515988667, 16434862445385678506, 480966778923234477, 4694384407109996729, 15922521854798170853, 12794480623281963719, 17685012235926847054, 7398952644571751464, 2658765233674649570, 9915277948655060401, 7317690761517222156, 6086560678593609907, 14337741051674625915, 11463237114119286579, 15539692591913227074, 14249666303978899761, 15810374989292808086, 16528171688284387501, 6011232178025032594]
def s128_23 : List Nat := [10361979491161404250, 3691123768478048297, 9385078375145344761, 4182742558859951071, 5920061582878944511, 1388740100397240451, 1356562829280412526, 947193280270412507, 13044364648587959079, 8753014595586030025, 8051431276773621651, 1923155668945195471, 7707384467049087500, 1427273494420172654, 8703794461132574602, 5787385926773172459, 16707396074871576439, 7421353114141693954, 12125766446577033324, 14349841598403673519, 15715966226703361705, 12684557446684747097, 12195791111880149849, 9164381570362885313, 7223111818023870811]
def s128_24 : List Nat := [11985710400040593494, 7996352875557389311, 13883872631106586715, 2428675928708047361, 8009521449391666938, 13377062685146247572, 9205169033692588957, 4257343883257824810, 8383144359197334823, 2885581488111880633, 9103848925177610390, 12394212369106831099, 17265513621861202425, 7895675855236150778, 16542592676313222267, 3790574131978657662, 8094560990692712504, 13647880811540030900, 7425679839650677910, 2878170972903059965, 14734313658079327778, 7052820394251810002, 17807322953142272636, 11132721222538226987, 6258665726687805247]
theorem r128_0 : rndN s128_0 1 = s128_1 := by kernel_rfl
theorem r128_1 : rndN s128_1 32898 = s128_2 := by kernel_rfl
theorem r128_2 : rndN s128_2 9223372036854808714 = s128_3 := by kernel_rfl
theorem r128_3 : rndN s128_3 9223372039002292224 = s128_4 := by kernel_rfl
theorem r128_4 : rndN s128_4 32907 = s128_5 := by kernel_rfl
theorem r128_5 : rndN s128_5 2147483649 = s128_6 := by kernel_rfl
theorem r128_6 : rndN s128_6 9223372039002292353 = s128_7 := by kernel_rfl
theorem r128_7 : rndN s128_7 9223372036854808585 = s128_8 := by kernel_rfl
theorem r128_8 : rndN s128_8 138 = s128_9 := by kernel_rfl
theorem r128_9 : rndN s128_9 136 = s128_10 := by kernel_rfl
theorem r128_10 : rndN s128_10 2147516425 = s128_11 := by kernel_rfl
theorem r128_11 : rndN s128_11 2147483658 = s128_12 := by kernel_rfl
theorem r128_12 : rndN s128_12 2147516555 = s128_13 := by kernel_rfl
theorem r128_13 : rndN s128_13 9223372036854775947 = s128_14 := by kernel_rfl
theorem r128_14 : rndN s128_14 9223372036854808713 = s128_15 := by kernel_rfl
theorem r128_15 : rndN s128_15 9223372036854808579 = s128_16 := by kernel_rfl
theorem r128_16 : rndN s128_16 9223372036854808578 = s128_17 := by kernel_rfl
theorem r128_17 : rndN s128_17 9223372036854775936 = s128_18 := by kernel_rfl
theorem r128_18 : rndN s128_18 32778 = s128_19 := by kernel_rfl
theorem r128_19 : rndN s128_19 9223372039002259466 = s128_20 := by kernel_rfl
theorem r128_20 : rndN s128_20 9223372039002292353 = s128_21 := by kernel_rfl
theorem r128_21 : rndN s128_21 9223372036854808704 = s128_22 := by kernel_rfl
theorem r128_22 : rndN s128_22 2147483649 = s128_23 := by kernel_rfl
theorem r128_23 : rndN s128_23 9223372039002292232 = s128_24 := by kernel_rfl
theorem pad128_0 : absb (fun _ => 0) (padL [128]) 0 = ((384 : Nat) : Int) := by kernel_rfl
theorem pad128_1 : absb (fun _ => 0) (padL [128]) 1 = ((0 : Nat) : Int) := by kernel_rfl
theorem pad128_2 : absb (fun _ => 0) (padL [128]) 2 = ((0 : Nat) : Int) := by kernel_rfl
theorem pad128_3 : absb (fun _ => 0) (padL [128]) 3 = ((0 : Nat) : Int) := by kernel_rfl
theorem pad128_4 : absb (fun _ => 0) (padL [128]) 4 = ((0 : Nat) : Int) := by kernel_rfl
theorem pad128_5 : absb (fun _ => 0) (padL [128]) 5 = ((0 : Nat) : Int) := by kernel_rfl
theorem pad128_6 : absb (fun _ => 0) (padL [128]) 6 = ((0 : Nat) : Int) := by kernel_rfl
theorem pad128_7 : absb (fun _ => 0) (padL [128]) 7 = ((0 : Nat) : Int) := by kernel_rfl
theorem pad128_8 : absb (fun _ => 0) (padL [128]) 8 = ((0 : Nat) : Int) := by kernel_rfl
theorem pad128_9 : absb (fun _ => 0) (padL [128]) 9 = ((0 : Nat) : Int) := by kernel_rfl
theorem pad128_10 : absb (fun _ => 0) (padL [128]) 10 = ((0 : Nat) : Int) := by kernel_rfl
theorem pad128_11 : absb (fun _ => 0) (padL [128]) 11 = ((0 : Nat) : Int) := by kernel_rfl
theorem pad128_12 : absb (fun _ => 0) (padL [128]) 12 = ((0 : Nat) : Int) := by kernel_rfl
theorem pad128_13 : absb (fun _ => 0) (padL [128]) 13 = ((0 : Nat) : Int) := by kernel_rfl
theorem pad128_14 : absb (fun _ => 0) (padL [128]) 14 = ((0 : Nat) : Int) := by kernel_rfl
theorem pad128_15 : absb (fun _ => 0) (padL [128]) 15 = ((0 : Nat) : Int) := by kernel_rfl
theorem pad128_16 : absb (fun _ => 0) (padL [128]) 16 = ((9223372036854775808 : Nat) : Int) := by kernel_rfl
theorem pad128_17 : absb (fun _ => 0) (padL [128]) 17 = ((0 : Nat) : Int) := by kernel_rfl
theorem pad128_18 : absb (fun _ => 0) (padL [128]) 18 = ((0 : Nat) : Int) := by kernel_rfl
theorem pad128_19 : absb (fun _ => 0) (padL [128]) 19 = ((0 : Nat) : Int) := by kernel_rfl
theorem pad128_20 : absb (fun _ => 0) (padL [128]) 20 = ((0 : Nat) : Int) := by kernel_rfl
theorem pad128_21 : absb (fun _ => 0) (padL [128]) 21 = ((0 : Nat) : Int) := by kernel_rfl
theorem pad128_22 : absb (fun _ => 0) (padL [128]) 22 = ((0 : Nat) : Int) := by kernel_rfl
theorem pad128_23 : absb (fun _ => 0) (padL [128]) 23 = ((0 : Nat) : Int) := by kernel_rfl
theorem pad128_24 : absb (fun _ => 0) (padL [128]) 24 = ((0 : Nat) : Int) := by kernel_rfl
theorem pad128 : ∀ i, i < 25 → absb (fun _ => 0) (padL [128]) i = ((s128_0.getD i 0 : Nat) : Int) := by
  intro i hi
  have : i = 0 ∨ i = 1 ∨ i = 2 ∨ i = 3 ∨ i = 4 ∨ i = 5 ∨ i = 6 ∨ i = 7 ∨ i = 8 ∨ i = 9 ∨ i = 10 ∨ i = 11 ∨ i = 12 ∨ i = 13 ∨ i = 14 ∨ i = 15 ∨ i = 16 ∨ i = 17 ∨ i = 18 ∨ i = 19 ∨ i = 20 ∨ i = 21 ∨ i = 22 ∨ i = 23 ∨ i = 24 := by omega
  rcases this with rfl | rfl | rfl | rfl | rfl | rfl | rfl | rfl | rfl | rfl | rfl | rfl | rfl | rfl | rfl | rfl | rfl | rfl | rfl | rfl | rfl | rfl | rfl | rfl | rfl
  · exact pad128_0
  · exact pad128_1
  · exact pad128_2
  · exact pad128_3
  · exact pad128_4
  · exact pad128_5
  · exact pad128_6
  · exact pad128_7
  · exact pad128_8
  · exact pad128_9
  · exact pad128_10
  · exact pad128_11
  · exact pad128_12
  · exact pad128_13
  · exact pad128_14
  · exact pad128_15
  · exact pad128_16
  · exact pad128_17
  · exact pad128_18
  · exact pad128_19
  · exact pad128_20
  · exact pad128_21
  · exact pad128_22
  · exact pad128_23
  · exact pad128_24
theorem st128_0 : StN (mixN (absb (fun _ => 0) (padL [128])) 0) s128_0 := ⟨pad128, fun i => by
  by_cases h : i < 25
  · exact (by decide : ∀ i, i < 25 → s128_0.getD i 0 < 18446744073709551616) i h
  · rw [List.getD_eq_getElem?_getD, List.getElem?_eq_none (by simpa [s128_0] using h)]; exact (by decide : (0 : Nat) < 18446744073709551616)⟩
theorem st128_1 : StN (mixN (absb (fun _ => 0) (padL [128])) 1) s128_1 := by rw [← r128_0]; exact st128_0.rnd (c := 1) (by unfold W64; decide)
theorem st128_2 : StN (mixN (absb (fun _ => 0) (padL [128])) 2) s128_2 := by rw [← r128_1]; exact st128_1.rnd (c := 32898) (by unfold W64; decide)
theorem st128_3 : StN (mixN (absb (fun _ => 0) (padL [128])) 3) s128_3 := by rw [← r128_2]; exact st128_2.rnd (c := 9223372036854808714) (by unfold W64; decide)
theorem st128_4 : StN (mixN (absb (fun _ => 0) (padL [128])) 4) s128_4 := by rw [← r128_3]; exact st128_3.rnd (c := 9223372039002292224) (by unfold W64; decide)
theorem st128_5 : StN (mixN (absb (fun _ => 0) (padL [128])) 5) s128_5 := by rw [← r128_4]; exact st128_4.rnd (c := 32907) (by unfold W64; decide)
theorem st128_6 : StN (mixN (absb (fun _ => 0) (padL [128])) 6) s128_6 := by rw [← r128_5]; exact st128_5.rnd (c := 2147483649) (by unfold W64; decide)
theorem st128_7 : StN (mixN (absb (fun _ => 0) (padL [128])) 7) s128_7 := by rw [← r128_6]; exact st128_6.rnd (c := 9223372039002292353) (by unfold W64; decide)
theorem st128_8 : StN (mixN (absb (fun _ => 0) (padL [128])) 8) s128_8 := by rw [← r128_7]; exact st128_7.rnd (c := 9223372036854808585) (by unfold W64; decide)
theorem st128_9 : StN (mixN (absb (fun _ => 0) (padL [128])) 9) s128_9 := by rw [← r128_8]; exact st128_8.rnd (c := 138) (by unfold W64; decide)
theorem st128_10 : StN (mixN (absb (fun _ => 0) (padL [128])) 10) s128_10 := by rw [← r128_9]; exact st128_9.rnd (c := 136) (by unfold W64; decide)
theorem st128_11 : StN (mixN (absb (fun _ => 0) (padL [128])) 11) s128_11 := by rw [← r128_10]; exact st128_10.rnd (c := 2147516425) (by unfold W64; decide)
theorem st128_12 : StN (mixN (absb (fun _ => 0) (padL [128])) 12) s128_12 := by rw [← r128_11]; exact st128_11.rnd (c := 2147483658) (by unfold W64; decide)
theorem st128_13 : StN (mixN (absb (fun _ => 0) (padL [128])) 13) s128_13 := by rw [← r128_12]; exact st128_12.rnd (c := 2147516555) (by unfold W64; decide)
theorem st128_14 : StN (mixN (absb (fun _ => 0) (padL [128])) 14) s128_14 := by rw [← r128_13]; exact st128_13.rnd (c := 9223372036854775947) (by unfold W64; decide)
theorem st128_15 : StN (mixN (absb (fun _ => 0) (padL [128])) 15) s128_15 := by rw [← r128_14]; exact st128_14.rnd (c := 9223372036854808713) (by unfold W64; decide)
theorem st128_16 : StN (mixN (absb (fun _ => 0) (padL [128])) 16) s128_16 := by rw [← r128_15]; exact st128_15.rnd (c := 9223372036854808579) (by unfold W64; decide)
theorem st128_17 : StN (mixN (absb (fun _ => 0) (padL [128])) 17) s128_17 := by rw [← r128_16]; exact st128_16.rnd (c := 9223372036854808578) (by unfold W64; decide)
theorem st128_18 : StN (mixN (absb (fun _ => 0) (padL [128])) 18) s128_18 := by rw [← r128_17]; exact st128_17.rnd (c := 9223372036854775936) (by unfold W64; decide)
theorem st128_19 : StN (mixN (absb (fun _ => 0) (padL [128])) 19) s128_19 := by rw [← r128_18]; exact st128_18.rnd (c := 32778) (by unfold W64; decide)
theorem st128_20 : StN (mixN (absb (fun _ => 0) (padL [128])) 20) s128_20 := by rw [← r128_19]; exact st128_19.rnd (c := 9223372039002259466) (by unfold W64; decide)
theorem st128_21 : StN (mixN (absb (fun _ => 0) (padL [128])) 21) s128_21 := by rw [← r128_20]; exact st128_20.rnd (c := 9223372039002292353) (by unfold W64; decide)
theorem st128_22 : StN (mixN (absb (fun _ => 0) (padL [128])) 22) s128_22 := by rw [← r128_21]; exact st128_21.rnd (c := 9223372036854808704) (by unfold W64; decide)
theorem st128_23 : StN (mixN (absb (fun _ => 0) (padL [128])) 23) s128_23 := by rw [← r128_22]; exact st128_22.rnd (c := 2147483649) (by unfold W64; decide)
theorem st128_24 : StN (mixN (absb (fun _ => 0) (padL [128])) 24) s128_24 := by rw [← r128_23]; exact st128_23.rnd (c := 9223372039002292232) (by unfold W64; decide)
theorem out128 : outL (fun i => ((s128_24.getD i 0 : Nat) : Int)) = [86, 232, 31, 23, 27, 204, 85, 166, 255, 131, 69, 230, 146, 192, 248, 110, 91, 72, 224, 27, 153, 108, 173, 192, 1, 98, 47, 181, 227, 99, 180, 33] := by kernel_rfl
/-- The sum of the empty trie's bytes. -/
theorem sum128 : sumL [128] = [86, 232, 31, 23, 27, 204, 85, 166, 255, 131, 69, 230, 146, 192, 248, 110, 91, 72, 224, 27, 153, 108, 173, 192, 1, 98, 47, 181, 227, 99, 180, 33] := by
  have h := st128_24
  have e : sumL [128] = outL (mixN (absb (fun _ => 0) (padL [128])) 24) := rfl
  rw [e]
  have h2 : outL (mixN (absb (fun _ => 0) (padL [128])) 24) = outL (fun i => ((s128_24.getD i 0 : Nat) : Int)) := by
    unfold outL
    refine List.map_congr_left fun i hi => ?_
    unfold outB
    rw [h.at_ (i / 8) (by have := List.mem_range.1 hi; omega)]
  rw [h2]
  exact out128
end Go.Proofs.Ytefmlbckbhlgdaa
namespace Go.Proofs.Ytefmlbckbhlgdaa
open Go.RowKit Go.Shelf
set_option maxRecDepth 100000
theorem none_enc (w : World) : Calls Try.prog 45 #[.agg #[.bool false, .string ⟨#[]⟩, .slice none 0 0]] w fun e w' => e = .returned (.tuple #[.string (mkS [128]), .int .i64 0]) ∧ Below w.heap.size w w' := by
  have he : (It.mk false [] []).enc = ([128], 0) := by kernel_rfl
  have h := encode_any (.mk false [] []) (.agg #[.bool false, .string ⟨#[]⟩, .slice none 0 0]) w ⟨.slice none 0 0, rfl, by decide, .inl ⟨rfl, rfl⟩⟩ (fun _ _ => by
    have : (It.mk false [] []).write = [128] := by kernel_rfl
    rw [this]; decide)
  rw [he] at h
  exact h
def hashL : List UInt8 := sumL [128]
theorem TOk.nil : TOk ([], -1) := ⟨⟨(fun n h => nomatch h), (fun n h => nomatch h), Nat.zero_le _⟩, by show (-1 : Int) ≤ _; omega⟩
theorem pairsT_nil : pairsT ([], -1) = ([], true) := pairsT_of (l := []) Pairs.nil
set_option maxHeartbeats 2000000 in
theorem trRoot_nil (w : World) : Calls Try.prog 21 #[.agg #[.slice none 0 0, .int .i64 (-1)]] w fun e w' => e = .returned (.tuple #[.string (mkS hashL), .int .i64 0]) ∧ Below w.heap.size w w' := by
  have KR := Lib.hid (fun W => trRight_any ([], -1) TOk.nil (.agg #[.slice none 0 0, .int .i64 (-1)]) W ⟨_, rfl, .inl ⟨rfl, rfl⟩⟩)
  rw [pairsT_nil] at KR
  have KE := Lib.hid none_enc
  have KS := Lib.hid (fun W => sum_any (mkS [128]) (by rw [mk_size]; decide) W)
  rw [bl_mk, show sumL [128] = hashL from rfl] at KS
  generalize hashL = hs at *
  have HB := Lib.hid ((Below.refl w.heap.size w).alloc (Nat.le_refl _) (.cells #[.slice none 0 0, .int .i64 (-1)] 37))
  have RB := Lib.hid (RowAt.new w #[.slice none 0 0, .int .i64 (-1)] 37)
  obtain ⟨x0, x1, -, -⟩ := RB.out.c2
  go_enter Try.func21, Try.ntmps21
  go_upto_region 3 with (go_at_call 19; (with_reducible refine (KR.out _).mono ?_); rintro e w2 ⟨rfl, hb⟩; have RB2 := Lib.hid (RB.out.belowS hb); have HB2 := Lib.hid (HB.out.trans (hb.mono HB.out.size)); clear hb)
  clear x0 x1 RB HB
  have RS := Lib.hid (RowAt.new w2 #[.slice none 0 0, .string ⟨#[]⟩] 95)
  have RB3 := Lib.hid (RB2.out.alloc (.cells #[.slice none 0 0, .string ⟨#[]⟩] 95))
  have HB3 := Lib.hid (HB2.out.alloc HB2.out.size (.cells #[.slice none 0 0, .string ⟨#[]⟩] 95))
  have HKS := Lib.hid (show w.heap.size < w2.heap.size from RB2.out.lt)
  clear RB2 HB2
  go_upto_region 4 with (fail)
  generalize w2.alloc (.cells #[.slice none 0 0, .string ⟨#[]⟩] 95) = w3 at *
  generalize w2.heap.size = ks at *
  obtain ⟨s0, s1, sf0, sf1⟩ := RS.out.c2
  go_upto_region 5 with (go_at_call 45; (with_reducible refine (KE.out _).mono ?_); rintro e w4 ⟨rfl, hb⟩; have RS4 := Lib.hid (RS.out.belowS hb); have RB4 := Lib.hid (RB3.out.belowS hb); have HB4 := Lib.hid (HB3.out.trans (hb.mono HB3.out.size)); clear hb s0 s1 sf0 sf1; obtain ⟨s0, s1, sf0, sf1⟩ := RS4.out.c2)
  have RS5 := Lib.hid (RS4.out.set 1 (.string (mkS [128])) (cs' := #[.slice none 0 0, .string (mkS [128])]) rfl)
  have RB5 := Lib.hid (RB4.out.other ⟨ks, 1, none⟩ (.string (mkS [128])) (Nat.ne_of_lt HKS.out))
  have HB5 := Lib.hid (HB4.out.setCell (p := ⟨ks, 1, none⟩) (Nat.le_of_lt HKS.out) (.string (mkS [128])))
  clear s0 s1 sf0 sf1 RS RB3 HB3 RS4 RB4 HB4
  generalize w4.setCell ⟨ks, 1, none⟩ (.string (mkS [128])) = w5 at *
  obtain ⟨x0, -, -, -⟩ := RB5.out.c2
  obtain ⟨-, s1, -, -⟩ := RS5.out.c2
  go_upto_region 6 with (fail)
  go_loopw [23] (fun s wr => s = .int .i64 0 ∧ w5 = wr) (fun _ _ => 0)
  case atStart => exact ⟨rfl, rfl⟩
  case round =>
    obtain ⟨rfl, rfl⟩ := hrel
    go_wp2_with (go_at_call 47; (with_reducible refine (KS.out _).mono ?_); rintro e w6 ⟨rfl, hb⟩)
    go_ret2
    exact ⟨rfl, HB5.out.trans (hb.mono HB5.out.size)⟩
end Go.Proofs.Ytefmlbckbhlgdaa
namespace Go.Proofs.Ytefmlbckbhlgdaa
open Go.RowKit Go.Shelf
set_option maxRecDepth 100000
theorem layF_part (B : Nat) : ∀ (f : Nat) (l : List Pr) (ns : List Nd), (∀ n ∈ ns, n.part.length ≤ B) → (∀ p ∈ l, p.1.length ≤ B) → ∀ n ∈ (layF f l ns).1, n.part.length ≤ B
  | 0, l, ns, h, _ => by simpa [layF] using h
  | f + 1, [], ns, h, _ => by simpa [layF] using h
  | f + 1, [p], ns, h, hl => by
    rw [layF_one]
    intro n hn
    rcases List.mem_append.1 hn with hn | hn
    · exact h n hn
    · rw [List.mem_singleton.1 hn]; exact hl p List.mem_cons_self
  | f + 1, p :: q :: r, ns, h, hl => by
    by_cases hc : 0 < commonL (p :: q :: r)
    · rw [layF_joint hc]
      intro n hn
      rcases List.mem_append.1 hn with hn | hn
      · refine layF_part B f _ ns h (fun x hx => ?_) n hn
        obtain ⟨y, hy, rfl⟩ := List.mem_map.1 hx
        have := hl y hy
        show (y.1.drop _).length ≤ B
        rw [List.length_drop]; omega
      · rw [List.mem_singleton.1 hn]
        have := hl p List.mem_cons_self
        show (p.1.take _).length ≤ B
        rw [List.length_take]; omega
    · rw [layF_branch hc]
      have hk : ∀ m, ∀ n ∈ (kidsF f (p :: q :: r) (List.range m) (ns, [])).1, n.part.length ≤ B := by
        intro m
        induction m with
        | zero => exact h
        | succ m ih =>
          rw [kidsF_range]
          refine layF_part B f _ _ ih fun x hx => ?_
          obtain ⟨y, hy, rfl⟩ := List.mem_map.1 hx
          have := hl y (List.mem_filter.1 hy).1
          show (y.1.drop _).length ≤ B
          rw [List.length_drop]; omega
      intro n hn
      rcases List.mem_append.1 hn with hn | hn
      · exact hk 16 n hn
      · rw [List.mem_singleton.1 hn]
        exact Nat.zero_le _
theorem layF_root : ∀ (f : Nat) (l : List Pr) (ns : List Nd), (layF f l ns).2 ≤ ((layF f l ns).1.length : Int)
  | 0, l, ns => by show (-1 : Int) ≤ _; omega
  | f + 1, [], ns => by show (-1 : Int) ≤ _; omega
  | f + 1, [p], ns => by rw [layF_one]; simp; omega
  | f + 1, p :: q :: r, ns => by
    by_cases hc : 0 < commonL (p :: q :: r)
    · rw [layF_joint hc]; simp; omega
    · rw [layF_branch hc]; simp; omega
theorem ofT_ok {l : List Pr} (h : Pairs l) : TOk (ofT l) := by
  have hpl : (partsL l).length = l.length := List.length_map _
  have hz : ∀ p ∈ partsL l, p.1.length ≤ 64 := fun p hp => by
    obtain ⟨q, hq, rfl⟩ := List.mem_map.1 hp
    have := (mayP_len (h.2.1 q hq)).2.1
    show (ofL q.1).length ≤ 64
    rw [ofL_length]; omega
  have hlen := layF_len 200 (partsL l) []
  have h64 := h.2.2
  have hl2 : (ofT l).1.length ≤ 12800 := by
    unfold ofT
    simp only [List.length_nil, Nat.zero_add] at hlen
    rw [hpl] at hlen
    omega
  refine ⟨⟨ofT_kids l, fun n hn => ?_, by omega⟩, ?_⟩
  · have := layF_part 64 200 (partsL l) [] (fun n h => nomatch h) hz n hn
    omega
  · have := layF_root 200 (partsL l) []
    unfold ofT at hl2 ⊢
    omega

def lAB : List Pr := [([97], [98])]
theorem pairs_AB : Pairs lAB := by
  have := Pairs.put (k := [97]) (v := [98]) Pairs.nil (by decide) (.inr (by decide))
  exact this
theorem put_AB : putR ([], -1) [97] [98] = (ofT lAB, 0) := by
  unfold putR
  rw [pairsT_nil]
  rfl
theorem hash_len : hashL.length = 32 := by unfold hashL; rw [sum128]; rfl
theorem hash_four : hashL.take 4 = [86, 232, 31, 23] := by unfold hashL; rw [sum128]; rfl

set_option maxHeartbeats 4000000 in
theorem trAlive_any (w : World) : Calls Try.prog 12 #[] w fun e w' => e = .returned (.bool true) ∧ Below w.heap.size w w' := by
  have KN := Lib.hid trNew_any
  have KP := Lib.hid (fun W => trPut_any ([], -1) TOk.nil [97] [98] (.agg #[.slice none 0 0, .int .i64 (-1)]) W ⟨_, rfl, .inl ⟨rfl, rfl⟩⟩)
  rw [put_AB] at KP
  have KG := Lib.hid (fun v W (h : TrA W v (ofT lAB)) => trGet_any (ofT lAB) (ofT_ok pairs_AB) [97] v W h)
  rw [pairsT_of pairs_AB, show getL [97] (lAB, true).1 = some [98] from rfl] at KG
  replace KP : Hid (∀ W, Calls Try.prog 14 #[.agg #[.slice none 0 0, .int .i64 (-1)], .string ⟨#[97]⟩, .string ⟨#[98]⟩] W (TrAns (ofT lAB, 0) W)) := KP
  replace KG : Hid (∀ v W, TrA W v (ofT lAB) → Calls Try.prog 13 #[v, .string ⟨#[97]⟩] W fun e w' => e = .returned (.tuple #[.string ⟨#[98]⟩, .bool true]) ∧ Below W.heap.size W w') := KG
  have KR := Lib.hid trRoot_nil
  have hsz : (mkS hashL).size = 32 := by rw [mk_size, hash_len]
  have hex : (mkS hashL).extract 0 4 = ByteArray.mk #[86, 232, 31, 23] := by rw [mkS_take, hash_four]; rfl
  generalize mkS hashL = sv at *
  generalize ofT lAB = t at *
  obtain ⟨ns, ix⟩ := t
  go_enter Try.func12, Try.ntmps12
  go_upto_region 2 with (first
    | (go_at_call 33; (with_reducible refine (KN.out _).mono ?_); rintro e w2 ⟨rfl, hb⟩; have HB2 := Lib.hid hb; clear hb)
    | (go_at_call 14; (with_reducible refine (KP.out _).mono ?_); rintro e w3 ⟨v3, rfl, ⟨u3, rfl, hu3⟩, hb⟩; have HB3 := Lib.hid (HB2.out.trans (hb.mono HB2.out.size)); have HU := Lib.hid hu3; clear hb hu3; obtain ⟨p3, c3, rfl, -, -⟩ := RowE.shape encN HU.out))
  have R := Lib.hid (RowAt.new w3 #[.slice p3 ns.length c3, .int .i64 ix] 37)
  have HB4 := Lib.hid (HB3.out.alloc HB3.out.size (.cells #[.slice p3 ns.length c3, .int .i64 ix] 37))
  have HT := Lib.hid (show TrA (w3.alloc (.cells #[.slice p3 ns.length c3, .int .i64 ix] 37)) (.agg #[.slice p3 ns.length c3, .int .i64 ix]) (ns, ix) from ⟨_, rfl, RN.below HU.out ((Below.refl w3.heap.size w3).alloc (Nat.le_refl _) _) (Nat.le_refl _)⟩)
  obtain ⟨x0, x1, -, -⟩ := R.out.c2
  have hq : ((ByteArray.mk #[86, 232, 31, 23]).toList == (ByteArray.mk #[86, 232, 31, 23]).toList) = true := beq_self_eq_true _
  have hq2 : ((ByteArray.mk #[98]).toList == (ByteArray.mk #[98]).toList) = true := beq_self_eq_true _
  go_wp2_with (first
    | (go_at_call 13; (with_reducible refine (KG.out _ _ HT.out).mono ?_); rintro e w5 ⟨rfl, hb⟩; have HB5 := Lib.hid (HB4.out.trans (hb.mono HB4.out.size)); clear hb)
    | (go_at_call 33; (with_reducible refine (KN.out _).mono ?_); rintro e w6 ⟨rfl, hb⟩; have HB6 := Lib.hid (HB5.out.trans (hb.mono HB5.out.size)); clear hb)
    | (go_at_call 21; (with_reducible refine (KR.out _).mono ?_); rintro e w7 ⟨rfl, hb⟩; have HB7 := Lib.hid (HB6.out.trans (hb.mono HB6.out.size)); clear hb))
  go_ret
  exact ⟨by first | rfl | simp, HB7.out⟩
end Go.Proofs.Ytefmlbckbhlgdaa
namespace Go.Proofs.Ytefmlbckbhlgdaa
set_option maxRecDepth 100000
def strI (b : List UInt8) : It := .mk false b []
def referI (x : It) : It := if x.write.length < 32 then x else strI (sumL x.write)
/-- What pairs of parts are told by, if 'g' tells their node's item. -/
def toldW (g : List Pr → It) : List Pr → It
  | [] => strI []
  | p :: r => referI (g (p :: r))
/-- The item of the node of pairs of parts. -/
def itemR : Nat → List Pr → It
  | 0, _ => strI []
  | f + 1, l => match l with
    | [] => strI []
    | [p] => .mk true [] [strI (packL p.1 true), strI p.2]
    | p :: q :: r =>
      if 0 < commonL (p :: q :: r) then .mk true [] [strI (packL (p.1.take (commonL (p :: q :: r))) false), toldW (itemR f) (cutK (commonL (p :: q :: r)) (p :: q :: r))]
      else .mk true [] ((List.range 16).map (fun c => toldW (itemR f) (cutC c (p :: q :: r))) ++ [strI (valE (p :: q :: r))])
theorem itemR_one (f : Nat) (p : Pr) : itemR (f + 1) [p] = .mk true [] [strI (packL p.1 true), strI p.2] := rfl
theorem itemR_joint {f : Nat} {p q : Pr} {r : List Pr} (h : 0 < commonL (p :: q :: r)) : itemR (f + 1) (p :: q :: r) = .mk true [] [strI (packL (p.1.take (commonL (p :: q :: r))) false), toldW (itemR f) (cutK (commonL (p :: q :: r)) (p :: q :: r))] := by
  rw [itemR]
  rw [if_pos h]
theorem itemR_branch {f : Nat} {p q : Pr} {r : List Pr} (h : ¬ 0 < commonL (p :: q :: r)) : itemR (f + 1) (p :: q :: r) = .mk true [] ((List.range 16).map (fun c => toldW (itemR f) (cutC c (p :: q :: r))) ++ [strI (valE (p :: q :: r))]) := by
  rw [itemR]
  rw [if_neg h]

/-- What a node below is told by; a node's item. -/
def toldI (its : List It) (i : Int) : It := if i = -1 then strI [] else its.getD i.toNat (strI [])
def itN (its : List It) (n : Nd) : It :=
  if n.kind = 2 then .mk true [] [strI (packL n.part false), toldI its (n.kids.getD 0 0)]
  else if n.kind = 3 then .mk true [] (n.kids.map (toldI its) ++ [strI n.value])
  else .mk true [] [strI (packL n.part (decide (n.kind = 1))), strI n.value]
def itemsF (ns : List Nd) : List It := ns.foldl (fun its n => its ++ [referI (itN its n)]) []
theorem itemsF_snoc (ns : List Nd) (n : Nd) : itemsF (ns ++ [n]) = itemsF ns ++ [referI (itN (itemsF ns) n)] := by
  unfold itemsF
  rw [List.foldl_append]
  rfl
theorem itemsF_pre : ∀ (more ns : List Nd), ∃ t, itemsF (ns ++ more) = itemsF ns ++ t ∧ t.length = more.length
  | [], ns => ⟨[], by simp, rfl⟩
  | n :: m, ns => by
    obtain ⟨t, e, hl⟩ := itemsF_pre m (ns ++ [n])
    rw [itemsF_snoc, List.append_assoc, List.append_assoc] at e
    exact ⟨[referI (itN (itemsF ns) n)] ++ t, e, by simp [hl]⟩
theorem itemsF_len (ns : List Nd) : (itemsF ns).length = ns.length := by
  obtain ⟨t, e, hl⟩ := itemsF_pre ns []
  rw [List.nil_append] at e
  rw [e]
  simpa [itemsF] using hl
/-- A place that was told of stays told of. -/
theorem toldI_pre {ns more : List Nd} {i : Int} (h : i = -1 ∨ (0 ≤ i ∧ i < ns.length)) : toldI (itemsF (ns ++ more)) i = toldI (itemsF ns) i := by
  obtain ⟨t, e, _⟩ := itemsF_pre more ns
  unfold toldI
  rw [e]
  rcases h with h | ⟨h1, h2⟩
  · rw [if_pos h, if_pos h]
  · have : ¬ i = -1 := by omega
    rw [if_neg this, if_neg this]
    unfold List.getD
    rw [List.getElem?_append_left (by rw [itemsF_len]; omega)]

theorem strI_pure (b : List UInt8) : (strI b).pure := by unfold strI; rw [It.pure]; exact ⟨(fun h => Bool.noConfusion h), (fun _ => rfl), trivial⟩
theorem strI_depth (b : List UInt8) : (strI b).depth = 0 := by unfold strI; rw [It.depth]; simp [depths]
theorem strI_write (b : List UInt8) (h : b.length < 65536) : (strI b).write.length ≤ b.length + 3 := by
  unfold strI
  rw [It.write, if_neg (by simp)]
  split
  · omega
  · rw [List.length_append, headL_length h]
    split
    · omega
    · split <;> omega
theorem strI_32 {b : List UInt8} (h : b.length = 32) : (strI b).write.length = 33 := by
  unfold strI
  rw [It.write, if_neg (by simp), if_neg (by omega), List.length_append, headL_short (by omega), h]
  rfl
theorem pures_all : ∀ {ks : List It}, pures ks ↔ ∀ k ∈ ks, k.pure
  | [] => by simp [pures]
  | k :: ks => by rw [pures, pures_all]; simp
theorem depths_all {d : Nat} : ∀ {ks : List It}, depths ks ≤ d ↔ ∀ k ∈ ks, k.depth ≤ d
  | [] => by simp [depths]
  | k :: ks => by rw [depths, Nat.max_le, depths_all]; simp
theorem writes_bound {d : Nat} : ∀ {ks : List It}, (∀ k ∈ ks, k.write.length ≤ d) → (writes ks).length ≤ ks.length * d
  | [], _ => by simp [writes]
  | k :: ks, h => by
    have h1 := h k List.mem_cons_self
    have h2 := writes_bound (ks := ks) fun x hx => h x (List.mem_cons_of_mem _ hx)
    rw [writes, List.length_append, List.length_cons, Nat.add_mul]
    omega
theorem writes_pos : ∀ {ks : List It}, (∀ k ∈ ks, k.pure) → ks.length ≤ (writes ks).length
  | [], _ => by simp
  | k :: ks, h => by
    have h1 := write_pos k (h k List.mem_cons_self)
    have h2 := writes_pos (ks := ks) fun x hx => h x (List.mem_cons_of_mem _ hx)
    rw [writes, List.length_append, List.length_cons]
    omega
theorem writes_one : ∀ {ks : List It} {k : It}, (∀ k ∈ ks, k.pure) → k ∈ ks → k.write.length + ks.length ≤ (writes ks).length + 1
  | x :: ks, k, h, hk => by
    have h1 := write_pos x (h x List.mem_cons_self)
    have hp : ∀ y ∈ ks, y.pure := fun y hy => h y (List.mem_cons_of_mem _ hy)
    rw [writes, List.length_append, List.length_cons]
    rcases List.mem_cons.1 hk with rfl | hk
    · have := writes_pos hp
      omega
    · have := writes_one hp hk
      omega
theorem list_pure {ks : List It} : (It.mk true [] ks).pure ↔ ∀ k ∈ ks, k.pure := by
  rw [It.pure, pures_all]; simp
theorem list_depth (ks : List It) : (It.mk true [] ks).depth = depths ks + 1 := by rw [It.depth]; simp
theorem list_write {ks : List It} (h : (writes ks).length < 65536) : (It.mk true [] ks).write.length ≤ (writes ks).length + 3 ∧ (writes ks).length + 1 ≤ (It.mk true [] ks).write.length := by
  rw [It.write, if_pos rfl, List.length_append, headL_length h]
  split
  · omega
  · split <;> omega

/-- What may be written. -/
def Good (x : It) : Prop := x.pure ∧ x.depth ≤ 8 ∧ x.write.length ≤ 4000
theorem Good.enc {x : It} (h : Good x) : x.enc = (x.write, 0) := by
  have := size_le_write x h.1
  have h1 := h.2.1
  have h2 := h.2.2
  rw [It.enc, if_neg (by rw [(pureB_iff x).2 h.1, decide_eq_true (by omega)]; simp), if_neg (by omega), if_neg (by omega)]
def Tl (x : It) : Prop := x.pure ∧ x.write.length ≤ 33 ∧ x.depth ≤ 3 ∧ (x.write.length ≤ 14 → x.depth ≤ 1)
theorem tl_str (b : List UInt8) (h : b.length ≤ 30 ∨ b.length = 32) : Tl (strI b) := by
  refine ⟨strI_pure b, ?_, by rw [strI_depth]; omega, fun _ => by rw [strI_depth]; omega⟩
  rcases h with h | h
  · have := strI_write b (by omega); omega
  · rw [strI_32 h]; omega
theorem tl_refer {x : It} (h : x.pure) (hd : x.write.length < 32 → x.depth ≤ 3 ∧ (x.write.length ≤ 14 → x.depth ≤ 1)) : Tl (referI x) := by
  unfold referI
  split
  · rename_i hw
    exact ⟨h, by omega, (hd hw).1, (hd hw).2⟩
  · exact tl_str _ (.inr (sumL_length _))

/-- Pairs of parts as they come. -/
structure POk (l : List Pr) : Prop where
  sort : sortP l
  half : halfP l
  part : ∀ p ∈ l, p.1.length ≤ 64
  val : ∀ p ∈ l, p.2.length ≤ 500
theorem POk.bare {l : List Pr} {k : Nat} (h : POk l) (hk : ∀ p ∈ l, ∀ q ∈ l, p.1.take k = q.1.take k) (hl : ∀ p ∈ l, k ≤ p.1.length) : POk (cutK k l) :=
  ⟨sortP_cutK h.sort hk hl, halfP_cutK h.half, fun p hp => by
    obtain ⟨q, hq, rfl⟩ := List.mem_map.1 hp
    have := h.part q hq
    show (q.1.drop k).length ≤ 64
    rw [List.length_drop]; omega, fun p hp => by
    obtain ⟨q, hq, rfl⟩ := List.mem_map.1 hp
    exact h.val q hq⟩
theorem POk.first {l : List Pr} {c : Nat} (h : POk l) : POk (cutC c l) :=
  ⟨sortP_cutC h.sort, halfP_cutC h.half, fun p hp => by
    obtain ⟨q, hq, rfl⟩ := List.mem_map.1 hp
    have := h.part q (List.mem_filter.1 hq).1
    show (q.1.drop 1).length ≤ 64
    rw [List.length_drop]; omega, fun p hp => by
    obtain ⟨q, hq, rfl⟩ := List.mem_map.1 hp
    exact h.val q (List.mem_filter.1 hq).1⟩
theorem valE_len : ∀ {l : List Pr}, (∀ p ∈ l, p.2.length ≤ 500) → (valE l).length ≤ 500
  | [], _ => by simp [valE]
  | p :: l, h => by
    rw [valE]
    split
    · exact h p List.mem_cons_self
    · exact valE_len fun q hq => h q (List.mem_cons_of_mem _ hq)
theorem packL_len (s : List UInt8) (e : Bool) (h : s.length ≤ 64) : (packL s e).length ≤ 33 := by
  unfold packL
  rw [joinL_length, List.length_append]
  split <;> simp <;> omega
end Go.Proofs.Ytefmlbckbhlgdaa
