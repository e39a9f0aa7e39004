/- copyistlaw18.OversNames returns true. -/
import Derived.Test.YthjkdeocdhdkaaaOvVl
import Derived.Test.YthjkdeocdhdkaaaOvNx
import Derived.Test.YthjkdeocdhdkaaaWin
namespace Go.Proofs.Ythjkdeocdhdkaaa
open Go.RowKit
set_option linter.unusedVariables false
set_option linter.unusedSimpArgs false
section
variable {w w' : World}
def nD1 : List OverD := [⟨0, 3, 3, true, false, []⟩]
def nD2 : List OverD := [⟨0, 3, 3, true, false, []⟩, ⟨1, 3, 3, true, true, []⟩]
def nD3 : List OverD := [⟨0, 3, 3, true, false, []⟩, ⟨1, 3, 3, true, true, []⟩, ⟨2, 3, 3, false, true, []⟩]
def nD4 : List OverD := [⟨0, 3, 3, true, false, []⟩, ⟨1, 5, 5, true, true, []⟩, ⟨2, 3, 5, false, true, []⟩]
def nD5 : List OverD := [⟨0, 3, 3, true, false, []⟩, ⟨1, 5, 5, true, true, []⟩, ⟨2, 3, 5, false, true, [⟨9, 0, 3⟩]⟩]
theorem nA0 : addR [] 0 3 2 = 0 ∧ addE [] 3 2 = 3 ∧ addD [] 0 3 2 false false = [] ∧ addN [] 0 3 2 = 0 := ⟨by decide, by decide, rfl, by decide⟩
theorem nA00 : addR [] 0 0 2 = 0 ∧ addE [] 0 2 = 3 ∧ addD [] 0 0 2 false false = [] ∧ addN [] 0 0 2 = 0 := ⟨by decide, by decide, rfl, by decide⟩
theorem nA1 : addR [] 0 3 3 = 0 ∧ addE [] 3 3 = 0 ∧ addD [] 0 3 3 true false = nD1 ∧ addN [] 0 3 3 = 1 := ⟨by decide, by decide, rfl, by decide⟩
theorem nA2 : addR nD1 1 3 3 = 1 ∧ addE nD1 3 3 = 0 ∧ addD nD1 1 3 3 true true = nD2 ∧ addN nD1 1 3 3 = 2 := ⟨by decide, by decide, rfl, by decide⟩
theorem nA3 : addR nD2 2 3 3 = 2 ∧ addE nD2 3 3 = 0 ∧ addD nD2 2 3 3 false true = nD3 ∧ addN nD2 2 3 3 = 3 := ⟨by decide, by decide, rfl, by decide⟩
theorem nW1 : WfD nD1 1 := by have h := wf_add WfD.nil 3 3 true false; rwa [nA1.2.2.1, nA1.2.2.2] at h
theorem nW2 : WfD nD2 2 := by have h := wf_add nW1 3 3 true true; rwa [nA2.2.2.1, nA2.2.2.2] at h
theorem nW3 : WfD nD3 3 := by have h := wf_add nW2 3 3 false true; rwa [nA3.2.2.1, nA3.2.2.2] at h
theorem nI4 : insE nD3 3 2 = 0 ∧ insertedD nD3 3 2 = nD4 := ⟨by decide, rfl⟩
theorem nW4 : WfD nD4 3 := by have h := wf_ins nW3 3 2; rwa [nI4.2] at h
theorem nP5 : putE nD4 2 9 = 0 ∧ putD nD4 2 9 0 3 = nD5 := ⟨rfl, rfl⟩
theorem nW5 : WfD nD5 3 := by have h := wf_put nW4 2 9 0 3; rwa [nP5.2] at h
theorem nV4 : winL (sortD 1 (nD4.filter (covB 4))) 9 = .tuple #[.agg #[.int .i64 0, .int .i64 0], .int .i64 0, .bool false] := by
  have hf : nD4.filter (covB 4) = [⟨2, 3, 5, false, true, []⟩] := rfl
  rw [hf, show sortD 1 [(⟨2, 3, 5, false, true, []⟩ : OverD)] = [⟨2, 3, 5, false, true, []⟩] by simp [sortD]]
  rfl
theorem nV5 : winL (sortD 1 (nD5.filter (covB 4))) 9 = .tuple #[.agg #[.int .i64 0, .int .i64 3], .int .i64 2, .bool true] := by
  have hf : nD5.filter (covB 4) = [⟨2, 3, 5, false, true, [⟨9, 0, 3⟩]⟩] := rfl
  rw [hf, show sortD 1 [(⟨2, 3, 5, false, true, [⟨9, 0, 3⟩]⟩ : OverD)] = [⟨2, 3, 5, false, true, [⟨9, 0, 3⟩]⟩] by simp [sortD]]
  rfl
theorem nIn1 : inI 1 nD5 3 5 = [2, 0, 1] := by
  unfold inI
  have hf : nD5.filter (inB 3 5) = nD5 := rfl
  rw [hf, sortD_eq (M := [⟨2, 3, 5, false, true, [⟨9, 0, 3⟩]⟩, ⟨0, 3, 3, true, false, []⟩, ⟨1, 5, 5, true, true, []⟩]) nW5.nodup]
  · rfl
  · exact List.perm_append_comm (l₁ := [(⟨2, 3, 5, false, true, [⟨9, 0, 3⟩]⟩ : OverD)]) (l₂ := [⟨0, 3, 3, true, false, []⟩, ⟨1, 5, 5, true, true, []⟩])
  · exact List.pairwise_cons.2 ⟨fun y hy => by simp at hy; rcases hy with rfl | rfl <;> decide, List.pairwise_cons.2 ⟨fun y hy => by simp at hy; subst hy; decide, by simp⟩⟩
theorem nIn2 : inI 1 nD5 5 5 = [1] := by
  unfold inI
  have hf : nD5.filter (inB 5 5) = [⟨1, 5, 5, true, true, []⟩] := rfl
  rw [hf, show sortD 1 [(⟨1, 5, 5, true, true, []⟩ : OverD)] = [⟨1, 5, 5, true, true, []⟩] by simp [sortD]]
  rfl
theorem nNx : nextI nD5 1 9 = 3 ∧ nextI nD5 3 9 = 5 ∧ nextI nD5 5 9 = 9 := ⟨by decide, by decide, by decide⟩
theorem nEx : putE nD5 2 (-1) = 17 ∧ putE nD5 7 1 = 8 ∧ takeE nD5 2 9 = 0 := ⟨rfl, rfl, rfl⟩
theorem nEd (k n : Int) : putD nD5 2 (-1) k n = nD5 ∧ putD nD5 7 1 k n = nD5 := ⟨rfl, rfl⟩
theorem eqW (a b : Int) (w : World) : (binOp .eql 34 (.agg #[.int .i64 a, .int .i64 b]) (.agg #[.int .i64 a, .int .i64 b])).run Try.prog w = .ok (.bool true) w := by
  have u3 := Try.underlying3
  have hS : Try.prog.underlying 34 = some (.struct (Try.prog.fieldsOf 34)) := by kernel_rfl
  have hp : Try.prog.stoodInHeld 34 = false := by kernel_rfl
  rw [run_eql_struct, show (10000 : Nat) = 9999 + 1 from rfl, run_equalIn_agg w 9999 34 _ _ hS hp]
  simp only [Program.fieldsOf, Try.underlying34]
  go_simp
def msk4 : List Msk := [(0, 19807040628566084398385987584, 0), (1, 39614081257132168796771975168, 19807040628566084398385987584), (2, 79228162514264337593543950336, 39614081257132168796771975176), (6, 158456325028528675187087900672, 118842243771396506390315925504), (10, 316912650057057350374175801344, 198070406285660843983859875840), (18, 633825300114114700748351602688, 316912650057057350374175801344), (32, 1267650600228229401496703205376, 633825300114114700748351602720), (96, 2535301200456458802993406410752, 1901475900342344102245054808064), (160, 5070602400912917605986812821504, 3169126500570573503741758013440), (288, 10141204801825835211973625643008, 5070602400912917605986812821504), (512, 20282409603651670423947251286016, 10141204801825835211973625647104), (1536, 40564819207303340847894502572032, 30423614405477505635920876929024), (2560, 81129638414606681695789005144064, 50706024009129176059868128215040), (4608, 162259276829213363391578010288128, 81129638414606681695789005144064), (8192, 324518553658426726783156020576256, 162259276829213363391578010296320), (24576, 649037107316853453566312041152512, 486777830487640090174734030864384), (40960, 1298074214633706907132624082305024, 811296384146066816957890051440640), (73728, 2596148429267413814265248164610048, 1298074214633706907132624082305024), (131072, 5192296858534827628530496329220096, 2596148429267413814265248164642816), (393216, 10384593717069655257060992658440192, 7788445287802241442795744493830144), (655360, 20769187434139310514121985316880384, 12980742146337069071326240823050240), (1179648, 41538374868278621028243970633760768, 20769187434139310514121985316880384), (2097152, 83076749736557242056487941267521536, 41538374868278621028243970633826304), (6291456, 166153499473114484112975882535043072, 124615124604835863084731911901282304), (10485760, 332306998946228968225951765070086144, 207691874341393105141219853168803840), (18874368, 664613997892457936451903530140172288, 332306998946228968225951765070086144), (33554432, 1329227995784915872903807060280344576, 664613997892457936451903530140434432), (100663296, 2658455991569831745807614120560689152, 1993841993677373809355710590420516864), (167772160, 5316911983139663491615228241121378304, 3323069989462289682259517650700861440), (301989888, 10633823966279326983230456482242756608, 5316911983139663491615228241121378304), (536870912, 21267647932558653966460912964485513216, 10633823966279326983230456482243280896), (1610612736, 42535295865117307932921825928971026432, 31901471898837980949691369446728269824), (2684354560, 85070591730234615865843651857942052864, 53169119831396634916152282411213783040), (4831838208, 170141183460469231731687303715884105728, 85070591730234615865843651857942052864), (8589934592, 340282366920938463463374607431768211456, 170141183460469231731687303715892494336), (25769803776, 680564733841876926926749214863536422912, 510423550381407695195061911147652317184), (42949672960, 1361129467683753853853498429727072845824, 850705917302346158658436518579420528640), (77309411328, 2722258935367507707706996859454145691648, 1361129467683753853853498429727072845824), (137438953472, 5444517870735015415413993718908291383296, 2722258935367507707706996859454147788800), (137438953472, 10889035741470030830827987437816582766592, 2722258935367507707706996859454145691648), (962072674304, 21778071482940061661655974875633165533184, 19055812547572553953948978016179019841536), (1236950581248, 43556142965880123323311949751266331066368, 24500330418307569369362971735087311224832), (2336462209024, 87112285931760246646623899502532662132736, 43556142965880123323311949751266331066368), (4398046511104, 174224571863520493293247799005065324265472, 87112285931760246646623899502532666327040), (13194139533312, 348449143727040986586495598010130648530944, 261336857795280739939871698507597986398208), (21990232555520, 696898287454081973172991196020261297061888, 435561429658801233233119497512663310663680), (39582418599936, 1393796574908163946345982392040522594123776, 696898287454081973172991196020261297061888), (70368744177664, 2787593149816327892691964784081045188247552, 1393796574908163946345982392040522661232640), (211106232532992, 5575186299632655785383929568162090376495104, 4181389724724491839037947176121567782371328), (351843720888320, 11150372599265311570767859136324180752990208, 5575186299632655785383929568162090376495104), (562949953421312, 22300745198530623141535718272648361505980416, 11150372599265311570767859136324180786544640), (562949953421312, 44601490397061246283071436545296723011960832, 11150372599265311570767859136324180752991232), (3940649673949184, 89202980794122492566142873090593446023921664, 78052608194857180995375013954269265270931456), (5066549580791808, 178405961588244985132285746181186892047843328, 100353353393387804136910732226917626776911872), (9570149208162304, 356811923176489970264571492362373784095686656, 178405961588244985132285746181186892047843328), (18014398509481984, 713623846352979940529142984724747568191373312, 356811923176489970264571492362373784112463872), (18014398509481984, 1427247692705959881058285969449495136382746624, 356811923176489970264571492362373784095686656), (126100789566373888, 2854495385411919762116571938898990272765493248, 2497683462235429791852000446536616488669806592), (162129586585337856, 5708990770823839524233143877797980545530986496, 3211307308588409732381143431261364056861179904), (360287970189639680, 11417981541647679048466287755595961091061972992, 5708990770823839524233143877797980545530986496), (576460752303423488, 22835963083295358096932575511191922182123945984, 11417981541647679048466287755595961091061972994), (1729382256910270464, 45671926166590716193865151022383844364247891968, 34253944624943037145398863266787883273185918976), (576460752303423488, 91343852333181432387730302044767688728495783936, 11417981541647679048466287755595961091061974016), (576460752303423488, 182687704666362864775460604089535377456991567872, 11417981541647679048466287755595961091061973056), (576460752303423488, 365375409332725729550921208179070754913983135744, 11417981541647679048466287755595961091061973248), (32858262881295138816, 730750818665451459101842416358141509827966271488, 650824947873917705762578402068969782190532460544), (39775791908936220672, 1461501637330902918203684832716283019655932542976, 787840726373689854344173855136121315283276136448), (74363437047141629952, 2923003274661805836407369665432566039311865085952, 1472919618872550597252151120471878980746994515968), (221360928884514619392, 5846006549323611672814739330865132078623730171904, 2923003274661805836407369665432566039311865085952), (295147905179352825856, 11692013098647223345629478661730264157247460343808, 5846006549323611672814739330865132078623730171906), (885443715538058477568, 23384026197294446691258957323460528314494920687616, 17538019647970835018444217992595396235871190515712), (295147905179352825856, 46768052394588893382517914646921056628989841375232, 5846006549323611672814739330865132078623730172160), (2656331146614175432704, 93536104789177786765035829293842113257979682750464, 52614058943912505055332653977786188707613571547136), (6198106008766409342976, 187072209578355573530071658587684226515959365500928, 122766137535795845129109525948167773651098333609984), (9739880870918643253248, 374144419156711147060143317175368453031918731001856, 192918216127679185202886397918549358594583095672832), (28334198897217871282176, 748288838313422294120286634350736906063837462003712, 374144419156711147060143317175368453031918731001856), (37778931862957161709568, 1496577676626844588240573268701473812127674924007424, 748288838313422294120286634350736906063837462003714), (113336795588871485128704, 2993155353253689176481146537402947624255349848014848, 2244866514940266882360859903052210718191512386011136), (188894659314785808547840, 5986310706507378352962293074805895248510699696029696, 3741444191567111470601433171753684530319187310018560), (340010386766614455386112, 11972621413014756705924586149611790497021399392059392, 6734599544820800647082579709156632154574537158033408), (755578637259143234191360, 23945242826029513411849172299223580994042798784118784, 11972621413014756705924586149611790497021399392059392), (1208925819614629174706176, 47890485652059026823698344598447161988085597568237568, 23945242826029513411849172299223580994042798784118786), (3626777458843887524118528, 95780971304118053647396689196894323976171195136475136, 71835728478088540235547516897670742982128396352356352), (6044629098073145873530880, 191561942608236107294793378393788647952342390272950272, 119726214130147567059245861496117904970213993920593920), (10880332376531662572355584, 383123885216472214589586756787577295904684780545900544, 215507185434265620706642550693012228946385189057069056), (24178516392292583494123520, 766247770432944429179173513575154591809369561091801088, 383123885216472214589586756787577295904684780545900544), (38685626227668133590597632, 1532495540865888858358347027150309183618739122183602176, 766247770432944429179173513575154591809369561091801090), (116056878683004400771792896, 3064991081731777716716694054300618367237478244367204352, 2298743311298833287537520540725463775428108683275403264), (193428131138340667952988160, 6129982163463555433433388108601236734474956488734408704, 3831238852164722145895867567875772959046847805459005440), (348170636049013202315378688, 12259964326927110866866776217202473468949912977468817408, 6896229933896499862612561622176391326284326049826209792), (773712524553362671811952640, 24519928653854221733733552434404946937899825954937634816, 12259964326927110866866776217202473468949912977468817408), (1237940039285380274899124224, 49039857307708443467467104868809893875799651909875269632, 24519928653854221733733552434404946937899825954937634818), (1237940039285380274899124224, 98079714615416886934934209737619787751599303819750539264, 24519928653854221733733552434404946937899825954937635840), (1237940039285380274899124224, 196159429230833773869868419475239575503198607639501078528, 24519928653854221733733552434404946937899825954954412032), (18569100589280704123486863360, 392318858461667547739736838950479151006397215279002157056, 367798929807813326006003286516074204068497389324064522240), (21044980667851464673285111808, 784637716923335095479473677900958302012794430558004314112, 416838787115521769473470391384884097944297041233939791872), (40852021296417549071671099392, 1569275433846670190958947355801916604025588861116008628224, 809157645577189317213207230335363248950694256512941948928), (99035203142830421991929937920, 3138550867693340381917894711603833208051177722232017256448, 1569275433846670190958947355801916604025588861116008628224), (158456325028528675187087900672, 6277101735386680763835789423207666416102355444464034512896, 3138550867693340381917894711603833208051177722232017256450), (158456325028528675187087900672, 12554203470773361527671578846415332832204710888928069025792, 3138550867693340381917894711603833208051177722232034033664), (1109194275199700726309615304704, 25108406941546723055343157692830665664409421777856138051584, 21969856073853382673425262981226832456358244055624120795136), (1426106925256758076683791106048, 50216813883093446110686315385661331328818843555712276103168, 28246957809240063437261052404434498872460599500088155308032), (2693757525484987478180494311424, 100433627766186892221372630771322662657637687111424552206336, 53355364750786786492604210097265164536870021277944293359616), (6338253001141147007483516026880, 200867255532373784442745261542645325315275374222849104412672, 100433627766186892221372630771322662657637687111424552206336), (10141204801825835211973625643008, 401734511064747568885490523085290650630550748445698208825344, 200867255532373784442745261542645325315275374222849104412674), (10141204801825835211973625643008, 803469022129495137770981046170581301261101496891396417650688, 200867255532373784442745261542645325315275374222849104413696), (70988433612780846483815379501056, 1606938044258990275541962092341162602522202993782792835301376, 1406070788726616491099216830798517277206927619559943730888704), (91270843216432516907762630787072, 3213876088517980551083924184682325205044405987565585670602752, 1807805299791364059984707353883807927837478368005641939714048), (172400481631039198603551635931136, 6427752177035961102167848369364650410088811975131171341205504, 3414743344050354335526669446224970530359681361788434775015424), (649037107316853453566312041152511, 1, 6427752177035961102167848369364650410088811975131171341205504)]
set_option maxRecDepth 100000 in
set_option maxHeartbeats 4000000 in
theorem names_true (w : World) : Calls Try.prog 4 #[] w fun e w' => e = .returned (.bool true) ∧ Below w.heap.size w w' := by
  have hgd : Try.prog.eqGuardType Try.prog.depth 34 = false := by kernel_rfl
  have hq0 := eqW 0 0
  have hq3 := eqW 0 3
  go_enter Try.func4, Try.ntmps4
  go_wp2_with fail
  refine (s_new 1 2 w).mono ?_
  rintro e w1 ⟨b, rfl, s1, b1⟩
  have z1 := b1.size
  go_wp2_with fail
  refine (s_add s1 WfD.nil 3 2 false false (by omega)).mono ?_
  rw [nA0.1, nA0.2.1, nA0.2.2.1, nA0.2.2.2]
  rintro e w2 hp
  obtain ⟨rfl, s2, c2⟩ := hp.below z1 (fun k hk => hk)
  have b2 := b1.trans c2
  have z2 := b2.size
  clear s1 b1 c2 hp z1
  go_wp2_with fail
  refine (s_add s2 WfD.nil 0 2 false false (by omega)).mono ?_
  rw [nA00.1, nA00.2.1, nA00.2.2.1, nA00.2.2.2]
  rintro e w3 hp
  obtain ⟨rfl, s3, c3⟩ := hp.below z2 (fun k hk => hk)
  have b3 := b2.trans c3
  have z3 := b3.size
  clear s2 b2 c3 hp z2
  go_wp2_with fail
  refine (s_add s3 WfD.nil 3 3 true false (by omega)).mono ?_
  rw [nA1.1, nA1.2.1, nA1.2.2.1, nA1.2.2.2]
  rintro e w4 hp
  obtain ⟨rfl, s4, c4⟩ := hp.below z3 (fun k hk => hk)
  have b4 := b3.trans c4
  have z4 := b4.size
  clear s3 b3 c4 hp z3
  go_wp2_with fail
  refine (s_add s4 nW1 3 3 true true (by omega)).mono ?_
  rw [nA2.1, nA2.2.1, nA2.2.2.1, nA2.2.2.2]
  rintro e w5 hp
  obtain ⟨rfl, s5, c5⟩ := hp.below z4 (fun k hk => hk)
  have b5 := b4.trans c5
  have z5 := b5.size
  clear s4 b4 c5 hp z4
  go_wp2_with fail
  refine (s_add s5 nW2 3 3 false true (by omega)).mono ?_
  rw [nA3.1, nA3.2.1, nA3.2.2.1, nA3.2.2.2]
  rintro e w6 hp
  obtain ⟨rfl, s6, c6⟩ := hp.below z5 (fun k hk => hk)
  have b6 := b5.trans c6
  have z6 := b6.size
  clear s5 b5 c6 hp z5
  go_wp2_with fail
  refine (s_ins s6 nW3 3 2).mono ?_
  rw [nI4.1, nI4.2]
  rintro e w7 hp
  obtain ⟨rfl, s7, c7⟩ := hp.below z6 (fun k hk => hk)
  have b7 := b6.trans c7
  have z7 := b7.size
  clear s6 b6 c7 hp z6
  go_wp2_with fail
  refine (s_ends s7 nW4 0).mono ?_
  rw [show endsV (endsD nD4 0) = .tuple #[.int .i64 3, .int .i64 3, .bool true] from rfl]
  rintro e w8 ⟨rfl, c8⟩
  have s8 := s7.up c8
  have b8 := up2 b7 c8
  have z8 := b8.size
  clear s7 b7 c8 z7
  go_wp2_with fail
  refine (s_ends s8 nW4 1).mono ?_
  rw [show endsV (endsD nD4 1) = .tuple #[.int .i64 5, .int .i64 5, .bool true] from rfl]
  rintro e w9 ⟨rfl, c9⟩
  have s9 := s8.up c9
  have b9 := up2 b8 c9
  have z9 := b9.size
  clear s8 b8 c9 z8
  go_wp2_with fail
  refine (s_ends s9 nW4 2).mono ?_
  rw [show endsV (endsD nD4 2) = .tuple #[.int .i64 3, .int .i64 5, .bool true] from rfl]
  rintro e w10 ⟨rfl, c10⟩
  have s10 := s9.up c10
  have b10 := up2 b9 c10
  have z10 := b10.size
  clear s9 b9 c10 z9
  go_wp2_with fail
  refine (s_value s10 nW4 4 9).mono ?_
  rw [nV4]
  rintro e w11 ⟨rfl, c11⟩
  have s11 := s10.up c11
  have b11 := up2 b10 c11
  have z11 := b11.size
  clear s10 b10 c11 z10
  go_wp2_with fail
  have t11 : OSt w11 b 1 2 nD4 3 (fun k => w.heap.size ≤ k ∧ k < w11.heap.size) := s11.tight'
  have T11 := Lib.hid (t11.up (below1 w11 (.cells #[.int .i64 0, .int .i64 0] 34)))
  have B11 := Lib.hid (up2 b11 (below1 w11 (.cells #[.int .i64 0, .int .i64 0] 34)))
  have m11 := (MapKept.heap_alloc w11 (.cells #[.int .i64 0, .int .i64 0] 34)).1
  have M11 := Lib.hid m11
  have hz11 : (w11.alloc (.cells #[.int .i64 0, .int .i64 0] 34)).heap.size = w11.heap.size + 1 := by simp
  clear t11 s11 b11 m11
  refine (kint_any 3 _).mono ?_
  rintro e w12 ⟨rfl, c12⟩
  have z12 := c12.size
  rw [hz11] at z12
  have T12 := Lib.hid (T11.out.up c12)
  have B12 := Lib.hid (up2 B11.out c12)
  have M12 := Lib.hid ((c12.block w11.heap.size (by rw [hz11]; omega)).trans M11.out)
  clear c12 T11 B11 M11 hz11
  go_wp2_with fail
  refine (s_put T12.out nW4 2 9 0 3).mono ?_
  rw [nP5.1, nP5.2]
  rintro e w13 ⟨rfl, S13, s13, on13, hS13⟩
  have hz13 := on13.size
  have t13 : OSt w13 b 1 2 nD5 3 (fun k => w.heap.size ≤ k ∧ k ≠ w11.heap.size) := s13.mono fun k hk => by
    rcases hS13 k hk with h | h
    · exact ⟨h.1, by omega⟩
    · exact ⟨by omega, by omega⟩
  have T13 := Lib.hid t13
  have B13 := Lib.hid (B12.out.trans (on13.below (by omega) fun k hk => hk.1))
  have M13 := Lib.hid ((on13.block w11.heap.size (by omega) (fun h => by omega)).trans M12.out)
  clear T12 B12 M12 on13 hS13 s13 t13
  go_wp2_with fail
  refine (s_value T13.out nW5 4 9).mono ?_
  rw [nV5]
  rintro e w14 ⟨rfl, c14⟩
  have hz14 := c14.size
  have t14 : OSt w14 b 1 2 nD5 3 (fun k => (w.heap.size ≤ k ∧ k ≠ w11.heap.size) ∧ k < w14.heap.size) := (T13.out.up c14).tight'
  have al14 := (below1 w14 (.cells #[.int .i64 0, .int .i64 3] 34)).drew
  have sz14 : (w14.alloc (.cells #[.int .i64 0, .int .i64 3] 34)).drew.heap.size = w14.heap.size + 1 := by simp
  have T14 := Lib.hid (t14.up al14)
  have B14 := Lib.hid (up2 (up2 B13.out c14) al14)
  have M14 := Lib.hid ((al14.block w11.heap.size (by omega)).trans ((c14.block w11.heap.size (by omega)).trans M13.out))
  have N14 := Lib.hid (show (w14.alloc (.cells #[.int .i64 0, .int .i64 3] 34)).drew.heap[w14.heap.size]? = _ from (MapKept.heap_alloc w14 (.cells #[.int .i64 0, .int .i64 3] 34)).1)
  clear T13 B13 M13 c14 t14 al14
  go_wp2_with fail
  simp only [List.append_eq, List.cons_append, List.nil_append]
  refine wp_region_wins msk4 [(1, .one [] 0 (.done [])), (58, .one [1, 2, 3, 4, 5, 6, 7, 8, 9, 10, 11, 12, 13, 14, 15, 16, 17, 18, 19, 20, 21, 22, 23, 24, 25, 26, 27, 28, 29, 30, 31, 32, 33, 34, 35, 36, 37, 38, 39, 40, 41, 42, 43, 44, 45, 46, 47, 48, 49, 50, 51, 52, 53, 54, 55] 56 (.done [57])), (67, .two [58, 59, 60, 62, 63, 64] 61 (.one [] 65 (.one [] 66 (.done []))) 65 (.one [] 61 (.one [] 66 (.done [])))), (74, .two [67, 68, 69, 71] 70 (.one [] 72 (.one [] 73 (.done []))) 72 (.one [] 70 (.one [] 73 (.done [])))), (78, .one [74, 75, 76] 77 (.done [])), (83, .one [78, 79, 80, 81] 82 (.done [])), (88, .one [83, 84, 85, 86] 87 (.done [])), (95, .one [88, 89, 90, 91, 92, 93] 94 (.done [])), (101, .one [95, 96, 97, 98, 99] 100 (.done [])), (107, .one [101, 102, 103, 104, 105] 106 (.done [])), (110, .done [107, 108, 109])] (by kernel_rfl) (fun c d v a w h => by cases d <;> exact h) (by kernel_rfl) ?_
  refine wins_next (fun _ => False) ?_
  simp only [wpMixT, pk_nil, pk_cons, pushAt_zero, pushAt_succ, List.drop_succ_cons, List.drop_zero]
  repeat (go_big_quiet_step (fail))
  refine wpQuiet_nil ?_
  go_wp2_with fail
  refine (lives_true _).mono ?_
  rintro e w15 ⟨rfl, c15⟩
  have hz15 := c15.size
  rw [sz14] at hz15
  have T15 := Lib.hid (T14.out.up c15)
  have B15 := Lib.hid (up2 B14.out c15)
  have e15 := (c15.block w11.heap.size (by rw [sz14]; omega)).trans M14.out
  have e24 := (c15.block w14.heap.size (by rw [sz14]; omega)).trans N14.out
  have N15 := Lib.hid e24
  have k0 : ∀ x : OnW (fun _ => False) w15, x.w.cell? ⟨w11.heap.size, 0, none⟩ = some (.int .i64 0) := fun x => cell_kind ((x.on.block w11.heap.size (by omega) (fun h => h)).trans e15) 0 _ rfl
  have k1 : ∀ x : OnW (fun _ => False) w15, x.w.cell? ⟨w11.heap.size, 1, none⟩ = some (.int .i64 0) := fun x => cell_kind ((x.on.block w11.heap.size (by omega) (fun h => h)).trans e15) 1 _ rfl
  have l0 : ∀ x : OnW (fun _ => False) w15, x.w.cell? ⟨w14.heap.size, 0, none⟩ = some (.int .i64 0) := fun x => cell_kind ((x.on.block w14.heap.size (by omega) (fun h => h)).trans e24) 0 _ rfl
  have l1 : ∀ x : OnW (fun _ => False) w15, x.w.cell? ⟨w14.heap.size, 1, none⟩ = some (.int .i64 3) := fun x => cell_kind ((x.on.block w14.heap.size (by omega) (fun h => h)).trans e24) 1 _ rfl
  have C15 := Lib.hid c15
  clear T14 B14 M14 N14 c15 sz14 e15 e24
  go_wp2_with fail
  refine thenQ_normal ⟨⟨⟨_, Only.of_below C15.out⟩, rfl⟩, ?_⟩
  refine wpQuiet_nil ?_
  refine wins_next (fun _ => False) ?_
  simp only [wpMixT, pk_nil, pk_cons, pushAt_zero, pushAt_succ, List.drop_succ_cons, List.drop_zero]
  repeat (go_big_quiet_step (fail))
  refine wpQuiet_nil ?_
  go_wp2_with fail
  refine (kint_any 3 _).mono ?_
  rintro e w16 ⟨rfl, c16⟩
  have hz16 := c16.size
  have T16 := Lib.hid (T15.out.up c16)
  have B16 := Lib.hid (up2 B15.out c16)
  have N16 := Lib.hid ((c16.block w14.heap.size (by omega)).trans N15.out)
  have C16 := Lib.hid c16
  clear T15 B15 N15 c16 k0 k1 l0 l1
  go_wp2_with fail
  refine thenQ_normal ⟨⟨⟨_, Only.of_below C16.out⟩, rfl⟩, ?_⟩
  repeat (go_big_quiet_step (fail))
  refine wpQuiet_nil ?_
  refine wins_next (fun _ => False) ?_
  simp only [wpMixT, pk_nil, pk_cons, pushAt_zero, pushAt_succ, List.drop_succ_cons, List.drop_zero]
  repeat (go_big_quiet_step (fail))
  refine wpQuiet_nil ?_
  refine ⟨?_, ?_⟩
  · go_wp2_with fail
    refine (s_in T16.out nW5 3 5).mono ?_
    rw [nIn1]
    rintro e w17 ⟨v17, rfl, o17, c17⟩
    have hz17 := c17.size
    have T17 := Lib.hid (T16.out.up c17)
    have B17 := Lib.hid (up2 B16.out c17)
    have N17 := Lib.hid ((c17.block w14.heap.size (by omega)).trans N16.out)
    have O17 := Lib.hid o17
    have C17 := Lib.hid c17
    obtain ⟨A17, cc17, rfl, _, _, _⟩ := o17.shape eltI
    clear T16 B16 N16 c17 o17
    go_wp2_with fail
    refine thenQ_normal ⟨⟨⟨_, Only.of_below C17.out⟩, rfl⟩, ?_⟩
    refine wpQuiet_nil ?_
    obtain ⟨X18, HX⟩ : ∃ X, X = w17.alloc (.cells #[.int .i64 2, .int .i64 0, .int .i64 1] 3) := ⟨_, rfl⟩
    have al : Below w17.heap.size w17 X18 := by rw [HX]; exact below1 _ _
    have hx : X18.heap.size = w17.heap.size + 1 := by rw [HX]; simp
    have hb : X18.heap[w17.heap.size]? = some (.cells #[.int .i64 2, .int .i64 0, .int .i64 1] 3 (0, 0)) := by rw [HX]; exact (MapKept.heap_alloc _ _).1
    have r' := (let ⟨_, _, e, _, _, r⟩ := O17.out.shape eltI; (show RSl encI w17 A17 [2, 0, 1] by cases e; exact r)).up al
    have q' := RSl.lit [2, 0, 1] hb
    have T18 := Lib.hid (T17.out.up al)
    have B18 := Lib.hid (up2 B17.out al)
    have N18 := Lib.hid ((al.block w14.heap.size (by omega)).trans N17.out)
    have AL := Lib.hid (up2 C17.out al)
    have HXH := Lib.hid HX
    clear al hb HX T17 B17 N17 O17
    go_wp2_with fail
    rw [← HXH.out]
    refine thenQ_normal ⟨⟨⟨_, Only.of_below AL.out⟩, rfl⟩, ?_⟩
    refine wpQuiet_nil ?_
    have SM := Lib.hid (same_any r' q' cc17 3 (by simp) (by simp))
    simp only [List.length_cons, List.length_nil, Nat.reduceAdd] at SM
    clear r' q'
    go_wp2_with fail
    refine SM.out.mono ?_
    rintro e w19 ⟨rfl, c19⟩
    have hz19 := c19.size
    have T19 := Lib.hid (T18.out.up c19)
    have B19 := Lib.hid (up2 B18.out c19)
    have N19 := Lib.hid ((c19.block w14.heap.size (by omega)).trans N18.out)
    have C19 := Lib.hid c19
    clear T18 B18 N18 c19 SM
    go_wp2_with fail
    refine thenQ_normal ⟨⟨⟨_, Only.of_below (up2 AL.out C19.out)⟩, rfl⟩, ?_⟩
    refine wpQuiet_nil ?_
    refine wins_next (fun _ => False) ?_
    simp only [wpMixT, pk_nil, pk_cons, pushAt_zero, pushAt_succ, List.drop_succ_cons, List.drop_zero]
    repeat (go_big_quiet_step (fail))
    refine wpQuiet_nil ?_
    refine ⟨?_, ?_⟩
    · go_wp2_with fail
      refine (s_in T19.out nW5 5 5).mono ?_
      rw [nIn2]
      rintro e w20 ⟨v20, rfl, o20, c20⟩
      have hz20 := c20.size
      have T20 := Lib.hid (T19.out.up c20)
      have B20 := Lib.hid (up2 B19.out c20)
      have N20 := Lib.hid ((c20.block w14.heap.size (by omega)).trans N19.out)
      have O20 := Lib.hid o20
      have C20 := Lib.hid c20
      obtain ⟨A20, cc20, rfl, _, _, _⟩ := o20.shape eltI
      clear T19 B19 N19 c20 o20
      go_wp2_with fail
      refine thenQ_normal ⟨⟨⟨_, Only.of_below C20.out⟩, rfl⟩, ?_⟩
      refine wpQuiet_nil ?_
      obtain ⟨X21, HX⟩ : ∃ X, X = w20.alloc (.cells #[.int .i64 1] 3) := ⟨_, rfl⟩
      have al : Below w20.heap.size w20 X21 := by rw [HX]; exact below1 _ _
      have hx : X21.heap.size = w20.heap.size + 1 := by rw [HX]; simp
      have hb : X21.heap[w20.heap.size]? = some (.cells #[.int .i64 1] 3 (0, 0)) := by rw [HX]; exact (MapKept.heap_alloc _ _).1
      have r' := (let ⟨_, _, e, _, _, r⟩ := O20.out.shape eltI; (show RSl encI w20 A20 [1] by cases e; exact r)).up al
      have q' := RSl.lit [1] hb
      have T21 := Lib.hid (T20.out.up al)
      have B21 := Lib.hid (up2 B20.out al)
      have N21 := Lib.hid ((al.block w14.heap.size (by omega)).trans N20.out)
      have AL := Lib.hid (up2 C20.out al)
      have HXH := Lib.hid HX
      clear al hb HX T20 B20 N20 O20
      go_wp2_with fail
      rw [← HXH.out]
      refine thenQ_normal ⟨⟨⟨_, Only.of_below AL.out⟩, rfl⟩, ?_⟩
      refine wpQuiet_nil ?_
      have SM := Lib.hid (same_any r' q' cc20 1 (by simp) (by simp))
      simp only [List.length_cons, List.length_nil, Nat.reduceAdd] at SM
      clear r' q'
      go_wp2_with fail
      refine SM.out.mono ?_
      rintro e w22 ⟨rfl, c22⟩
      have hz22 := c22.size
      have T22 := Lib.hid (T21.out.up c22)
      have B22 := Lib.hid (up2 B21.out c22)
      have N22 := Lib.hid ((c22.block w14.heap.size (by omega)).trans N21.out)
      have C22 := Lib.hid c22
      clear T21 B21 N21 c22 SM
      go_wp2_with fail
      refine thenQ_normal ⟨⟨⟨_, Only.of_below (up2 AL.out C22.out)⟩, rfl⟩, ?_⟩
      refine wpQuiet_nil ?_
      refine wins_next (fun _ => False) ?_
      simp only [wpMixT, pk_nil, pk_cons, pushAt_zero, pushAt_succ, List.drop_succ_cons, List.drop_zero]
      repeat (go_big_quiet_step (fail))
      refine wpQuiet_nil ?_
      go_wp2_with fail
      refine (s_next T22.out nW5 1 9).mono ?_
      rw [nNx.1]
      rintro e w23 ⟨rfl, c23⟩
      have hz23 := c23.size
      have T23 := Lib.hid (T22.out.up c23)
      have B23 := Lib.hid (up2 B22.out c23)
      have N23 := Lib.hid ((c23.block w14.heap.size (by omega)).trans N22.out)
      have C23 := Lib.hid c23
      clear T22 B22 N22 c23
      go_wp2_with fail
      refine thenQ_normal ⟨⟨⟨_, Only.of_below C23.out⟩, rfl⟩, ?_⟩
      refine wpQuiet_nil ?_
      refine wins_next (fun _ => False) ?_
      simp only [wpMixT, pk_nil, pk_cons, pushAt_zero, pushAt_succ, List.drop_succ_cons, List.drop_zero]
      repeat (go_big_quiet_step (fail))
      refine wpQuiet_nil ?_
      go_wp2_with fail
      refine (s_next T23.out nW5 3 9).mono ?_
      rw [nNx.2.1]
      rintro e w24 ⟨rfl, c24⟩
      have hz24 := c24.size
      have T24 := Lib.hid (T23.out.up c24)
      have B24 := Lib.hid (up2 B23.out c24)
      have N24 := Lib.hid ((c24.block w14.heap.size (by omega)).trans N23.out)
      have C24 := Lib.hid c24
      clear T23 B23 N23 c24
      go_wp2_with fail
      refine thenQ_normal ⟨⟨⟨_, Only.of_below C24.out⟩, rfl⟩, ?_⟩
      refine wpQuiet_nil ?_
      refine wins_next (fun _ => False) ?_
      simp only [wpMixT, pk_nil, pk_cons, pushAt_zero, pushAt_succ, List.drop_succ_cons, List.drop_zero]
      repeat (go_big_quiet_step (fail))
      refine wpQuiet_nil ?_
      go_wp2_with fail
      refine (s_next T24.out nW5 5 9).mono ?_
      rw [nNx.2.2]
      rintro e w25 ⟨rfl, c25⟩
      have hz25 := c25.size
      have T25 := Lib.hid (T24.out.up c25)
      have B25 := Lib.hid (up2 B24.out c25)
      have N25 := Lib.hid ((c25.block w14.heap.size (by omega)).trans N24.out)
      have C25 := Lib.hid c25
      clear T24 B24 N24 c25
      go_wp2_with fail
      refine thenQ_normal ⟨⟨⟨_, Only.of_below C25.out⟩, rfl⟩, ?_⟩
      refine wpQuiet_nil ?_
      have l0 : ∀ x : OnW (fun k => (w.heap.size ≤ k ∧ k ≠ w11.heap.size) ∧ k < w14.heap.size) w25, x.w.cell? ⟨w14.heap.size, 0, none⟩ = some (.int .i64 0) := fun x => cell_kind ((x.on.block w14.heap.size (by omega) (fun h => by omega)).trans N25.out) 0 _ rfl
      have l1 : ∀ x : OnW (fun k => (w.heap.size ≤ k ∧ k ≠ w11.heap.size) ∧ k < w14.heap.size) w25, x.w.cell? ⟨w14.heap.size, 1, none⟩ = some (.int .i64 3) := fun x => cell_kind ((x.on.block w14.heap.size (by omega) (fun h => by omega)).trans N25.out) 1 _ rfl
      refine wins_next (fun k => (w.heap.size ≤ k ∧ k ≠ w11.heap.size) ∧ k < w14.heap.size) ?_
      simp only [wpMixT, pk_nil, pk_cons, pushAt_zero, pushAt_succ, List.drop_succ_cons, List.drop_zero]
      repeat (go_big_quiet_step (fail))
      refine wpQuiet_nil ?_
      go_wp2_with fail
      clear l0 l1
      refine (s_put T25.out nW5 2 (-1) 0 3).mono ?_
      rw [nEx.1, (nEd 0 3).1]
      rintro e w26 ⟨rfl, S26, s26, on26, hS26⟩
      have hz26 := on26.size
      have T26 := Lib.hid s26
      have HS26 := Lib.hid hS26
      have B26 := Lib.hid (B25.out.trans (on26.below (by omega) fun k hk => hk.1.1))
      have N26 := Lib.hid ((on26.block w14.heap.size (by omega) (fun h => by omega)).trans N25.out)
      have ON26 := Lib.hid on26
      clear T25 B25 N25 on26 s26 hS26
      go_wp2_with fail
      refine thenQ_normal ⟨⟨⟨_, ON26.out⟩, rfl⟩, ?_⟩
      refine wpQuiet_nil ?_
      have hno : ¬ S26 w14.heap.size := fun h => by rcases HS26.out _ h with h | h <;> omega
      have l0 : ∀ x : OnW S26 w26, x.w.cell? ⟨w14.heap.size, 0, none⟩ = some (.int .i64 0) := fun x => cell_kind ((x.on.block w14.heap.size (by omega) hno).trans N26.out) 0 _ rfl
      have l1 : ∀ x : OnW S26 w26, x.w.cell? ⟨w14.heap.size, 1, none⟩ = some (.int .i64 3) := fun x => cell_kind ((x.on.block w14.heap.size (by omega) hno).trans N26.out) 1 _ rfl
      refine wins_next S26 ?_
      simp only [wpMixT, pk_nil, pk_cons, pushAt_zero, pushAt_succ, List.drop_succ_cons, List.drop_zero]
      repeat (go_big_quiet_step (fail))
      refine wpQuiet_nil ?_
      go_wp2_with fail
      clear l0 l1 hno
      refine (s_put T26.out nW5 7 1 0 3).mono ?_
      rw [nEx.2.1, (nEd 0 3).2]
      rintro e w27 ⟨rfl, S27, s27, on27, hS27⟩
      have hS' : ∀ k, S26 k → w.heap.size ≤ k := fun k hk => by rcases HS26.out k hk with h | h <;> omega
      have hz27 := on27.size
      have T27 := Lib.hid s27
      have hS2 : ∀ k, S27 k → w.heap.size ≤ k := fun k hk => by
        rcases hS27 k hk with h | h
        · exact hS' k h
        · omega
      have HS27 := Lib.hid hS2
      have B27 := Lib.hid (B26.out.trans (on27.below (by omega) hS'))
      have ON27 := Lib.hid on27
      clear T26 B26 N26 on27 s27 hS27 hS' HS26 hS2
      go_wp2_with fail
      refine thenQ_normal ⟨⟨⟨_, ON27.out⟩, rfl⟩, ?_⟩
      refine wpQuiet_nil ?_
      refine wins_next S27 ?_
      simp only [wpMixT, pk_nil, pk_cons, pushAt_zero, pushAt_succ, List.drop_succ_cons, List.drop_zero]
      repeat (go_big_quiet_step (fail))
      refine wpQuiet_nil ?_
      go_wp2_with fail
      refine (s_take T27.out nW5 2 9).mono ?_
      rw [nEx.2.2]
      rintro e w28 ⟨rfl, S28, s28, on28, hS28⟩
      have B28 := Lib.hid (B27.out.trans (on28.below (by omega) HS27.out))
      have ON28 := Lib.hid on28
      clear T27 B27 on28 s28 hS28 HS27
      go_wp2_with fail
      refine thenQ_normal ⟨⟨⟨_, ON28.out⟩, rfl⟩, ?_⟩
      refine wpQuiet_nil ?_
      refine wins_next (fun _ => False) ?_
      simp only [wpMixT, pk_nil, pk_cons, pushAt_zero, pushAt_succ, List.drop_succ_cons, List.drop_zero]
      repeat (go_big_quiet_step (fail))
      refine wpQuiet_nil ?_
      refine wins_end ?_
      go_wp2_with fail
      go_ret
      exact ⟨rfl, B28.out⟩
    · obtain ⟨w20, HX⟩ : ∃ X, X = w19.alloc (.cells #[.int .i64 1] 3) := ⟨_, rfl⟩
      have al : Below w19.heap.size w19 w20 := by rw [HX]; exact below1 _ _
      have hz20 : w20.heap.size = w19.heap.size + 1 := by rw [HX]; simp
      have hb : w20.heap[w19.heap.size]? = some (.cells #[.int .i64 1] 3 (0, 0)) := by rw [HX]; exact (MapKept.heap_alloc _ _).1
      have T20 := Lib.hid (T19.out.up al)
      have B20 := Lib.hid (up2 B19.out al)
      have N20 := Lib.hid ((al.block w14.heap.size (by omega)).trans N19.out)
      have HB := Lib.hid hb
      have AL := Lib.hid al
      have HXH := Lib.hid HX
      clear al hb HX T19 B19 N19
      go_wp2_with fail
      rw [← HXH.out]
      refine thenQ_normal ⟨⟨⟨_, Only.of_below AL.out⟩, rfl⟩, ?_⟩
      refine wpQuiet_nil ?_
      go_wp2_with fail
      refine (s_in T20.out nW5 5 5).mono ?_
      rw [nIn2]
      rintro e w21 ⟨v21, rfl, o21, c21⟩
      have hz21 := c21.size
      have T21 := Lib.hid (T20.out.up c21)
      have B21 := Lib.hid (up2 B20.out c21)
      have N21 := Lib.hid ((c21.block w14.heap.size (by omega)).trans N20.out)
      have O21 := Lib.hid o21
      have C21 := Lib.hid c21
      obtain ⟨A21, cc21, rfl, _, _, _⟩ := o21.shape eltI
      clear T20 B20 N20 c21 o21
      go_wp2_with fail
      refine thenQ_normal ⟨⟨⟨_, Only.of_below (up2 AL.out C21.out)⟩, rfl⟩, ?_⟩
      refine wpQuiet_nil ?_
      have r' := (let ⟨_, _, e, _, _, r⟩ := O21.out.shape eltI; (show RSl encI w21 A21 [1] by cases e; exact r))
      have q' := RSl.lit [1] ((C21.out.block w19.heap.size (by omega)).trans HB.out)
      clear HB
      have SM := Lib.hid (same_any r' q' cc21 1 (by simp) (by simp))
      simp only [List.length_cons, List.length_nil, Nat.reduceAdd] at SM
      clear r' q'
      go_wp2_with fail
      refine SM.out.mono ?_
      rintro e w22 ⟨rfl, c22⟩
      have hz22 := c22.size
      have T22 := Lib.hid (T21.out.up c22)
      have B22 := Lib.hid (up2 B21.out c22)
      have N22 := Lib.hid ((c22.block w14.heap.size (by omega)).trans N21.out)
      have C22 := Lib.hid c22
      clear T21 B21 N21 c22 SM
      go_wp2_with fail
      refine thenQ_normal ⟨⟨⟨_, Only.of_below (up2 (up2 AL.out C21.out) C22.out)⟩, rfl⟩, ?_⟩
      refine wpQuiet_nil ?_
      refine wins_next (fun _ => False) ?_
      simp only [wpMixT, pk_nil, pk_cons, pushAt_zero, pushAt_succ, List.drop_succ_cons, List.drop_zero]
      repeat (go_big_quiet_step (fail))
      refine wpQuiet_nil ?_
      go_wp2_with fail
      refine (s_next T22.out nW5 1 9).mono ?_
      rw [nNx.1]
      rintro e w23 ⟨rfl, c23⟩
      have hz23 := c23.size
      have T23 := Lib.hid (T22.out.up c23)
      have B23 := Lib.hid (up2 B22.out c23)
      have N23 := Lib.hid ((c23.block w14.heap.size (by omega)).trans N22.out)
      have C23 := Lib.hid c23
      clear T22 B22 N22 c23
      go_wp2_with fail
      refine thenQ_normal ⟨⟨⟨_, Only.of_below C23.out⟩, rfl⟩, ?_⟩
      refine wpQuiet_nil ?_
      refine wins_next (fun _ => False) ?_
      simp only [wpMixT, pk_nil, pk_cons, pushAt_zero, pushAt_succ, List.drop_succ_cons, List.drop_zero]
      repeat (go_big_quiet_step (fail))
      refine wpQuiet_nil ?_
      go_wp2_with fail
      refine (s_next T23.out nW5 3 9).mono ?_
      rw [nNx.2.1]
      rintro e w24 ⟨rfl, c24⟩
      have hz24 := c24.size
      have T24 := Lib.hid (T23.out.up c24)
      have B24 := Lib.hid (up2 B23.out c24)
      have N24 := Lib.hid ((c24.block w14.heap.size (by omega)).trans N23.out)
      have C24 := Lib.hid c24
      clear T23 B23 N23 c24
      go_wp2_with fail
      refine thenQ_normal ⟨⟨⟨_, Only.of_below C24.out⟩, rfl⟩, ?_⟩
      refine wpQuiet_nil ?_
      refine wins_next (fun _ => False) ?_
      simp only [wpMixT, pk_nil, pk_cons, pushAt_zero, pushAt_succ, List.drop_succ_cons, List.drop_zero]
      repeat (go_big_quiet_step (fail))
      refine wpQuiet_nil ?_
      go_wp2_with fail
      refine (s_next T24.out nW5 5 9).mono ?_
      rw [nNx.2.2]
      rintro e w25 ⟨rfl, c25⟩
      have hz25 := c25.size
      have T25 := Lib.hid (T24.out.up c25)
      have B25 := Lib.hid (up2 B24.out c25)
      have N25 := Lib.hid ((c25.block w14.heap.size (by omega)).trans N24.out)
      have C25 := Lib.hid c25
      clear T24 B24 N24 c25
      go_wp2_with fail
      refine thenQ_normal ⟨⟨⟨_, Only.of_below C25.out⟩, rfl⟩, ?_⟩
      refine wpQuiet_nil ?_
      have l0 : ∀ x : OnW (fun k => (w.heap.size ≤ k ∧ k ≠ w11.heap.size) ∧ k < w14.heap.size) w25, x.w.cell? ⟨w14.heap.size, 0, none⟩ = some (.int .i64 0) := fun x => cell_kind ((x.on.block w14.heap.size (by omega) (fun h => by omega)).trans N25.out) 0 _ rfl
      have l1 : ∀ x : OnW (fun k => (w.heap.size ≤ k ∧ k ≠ w11.heap.size) ∧ k < w14.heap.size) w25, x.w.cell? ⟨w14.heap.size, 1, none⟩ = some (.int .i64 3) := fun x => cell_kind ((x.on.block w14.heap.size (by omega) (fun h => by omega)).trans N25.out) 1 _ rfl
      refine wins_next (fun k => (w.heap.size ≤ k ∧ k ≠ w11.heap.size) ∧ k < w14.heap.size) ?_
      simp only [wpMixT, pk_nil, pk_cons, pushAt_zero, pushAt_succ, List.drop_succ_cons, List.drop_zero]
      repeat (go_big_quiet_step (fail))
      refine wpQuiet_nil ?_
      go_wp2_with fail
      clear l0 l1
      refine (s_put T25.out nW5 2 (-1) 0 3).mono ?_
      rw [nEx.1, (nEd 0 3).1]
      rintro e w26 ⟨rfl, S26, s26, on26, hS26⟩
      have hz26 := on26.size
      have T26 := Lib.hid s26
      have HS26 := Lib.hid hS26
      have B26 := Lib.hid (B25.out.trans (on26.below (by omega) fun k hk => hk.1.1))
      have N26 := Lib.hid ((on26.block w14.heap.size (by omega) (fun h => by omega)).trans N25.out)
      have ON26 := Lib.hid on26
      clear T25 B25 N25 on26 s26 hS26
      go_wp2_with fail
      refine thenQ_normal ⟨⟨⟨_, ON26.out⟩, rfl⟩, ?_⟩
      refine wpQuiet_nil ?_
      have hno : ¬ S26 w14.heap.size := fun h => by rcases HS26.out _ h with h | h <;> omega
      have l0 : ∀ x : OnW S26 w26, x.w.cell? ⟨w14.heap.size, 0, none⟩ = some (.int .i64 0) := fun x => cell_kind ((x.on.block w14.heap.size (by omega) hno).trans N26.out) 0 _ rfl
      have l1 : ∀ x : OnW S26 w26, x.w.cell? ⟨w14.heap.size, 1, none⟩ = some (.int .i64 3) := fun x => cell_kind ((x.on.block w14.heap.size (by omega) hno).trans N26.out) 1 _ rfl
      refine wins_next S26 ?_
      simp only [wpMixT, pk_nil, pk_cons, pushAt_zero, pushAt_succ, List.drop_succ_cons, List.drop_zero]
      repeat (go_big_quiet_step (fail))
      refine wpQuiet_nil ?_
      go_wp2_with fail
      clear l0 l1 hno
      refine (s_put T26.out nW5 7 1 0 3).mono ?_
      rw [nEx.2.1, (nEd 0 3).2]
      rintro e w27 ⟨rfl, S27, s27, on27, hS27⟩
      have hS' : ∀ k, S26 k → w.heap.size ≤ k := fun k hk => by rcases HS26.out k hk with h | h <;> omega
      have hz27 := on27.size
      have T27 := Lib.hid s27
      have hS2 : ∀ k, S27 k → w.heap.size ≤ k := fun k hk => by
        rcases hS27 k hk with h | h
        · exact hS' k h
        · omega
      have HS27 := Lib.hid hS2
      have B27 := Lib.hid (B26.out.trans (on27.below (by omega) hS'))
      have ON27 := Lib.hid on27
      clear T26 B26 N26 on27 s27 hS27 hS' HS26 hS2
      go_wp2_with fail
      refine thenQ_normal ⟨⟨⟨_, ON27.out⟩, rfl⟩, ?_⟩
      refine wpQuiet_nil ?_
      refine wins_next S27 ?_
      simp only [wpMixT, pk_nil, pk_cons, pushAt_zero, pushAt_succ, List.drop_succ_cons, List.drop_zero]
      repeat (go_big_quiet_step (fail))
      refine wpQuiet_nil ?_
      go_wp2_with fail
      refine (s_take T27.out nW5 2 9).mono ?_
      rw [nEx.2.2]
      rintro e w28 ⟨rfl, S28, s28, on28, hS28⟩
      have B28 := Lib.hid (B27.out.trans (on28.below (by omega) HS27.out))
      have ON28 := Lib.hid on28
      clear T27 B27 on28 s28 hS28 HS27
      go_wp2_with fail
      refine thenQ_normal ⟨⟨⟨_, ON28.out⟩, rfl⟩, ?_⟩
      refine wpQuiet_nil ?_
      refine wins_next (fun _ => False) ?_
      simp only [wpMixT, pk_nil, pk_cons, pushAt_zero, pushAt_succ, List.drop_succ_cons, List.drop_zero]
      repeat (go_big_quiet_step (fail))
      refine wpQuiet_nil ?_
      refine wins_end ?_
      go_wp2_with fail
      go_ret
      exact ⟨rfl, B28.out⟩
  · obtain ⟨w17, HX⟩ : ∃ X, X = w16.alloc (.cells #[.int .i64 2, .int .i64 0, .int .i64 1] 3) := ⟨_, rfl⟩
    have al : Below w16.heap.size w16 w17 := by rw [HX]; exact below1 _ _
    have hz17 : w17.heap.size = w16.heap.size + 1 := by rw [HX]; simp
    have hb : w17.heap[w16.heap.size]? = some (.cells #[.int .i64 2, .int .i64 0, .int .i64 1] 3 (0, 0)) := by rw [HX]; exact (MapKept.heap_alloc _ _).1
    have T17 := Lib.hid (T16.out.up al)
    have B17 := Lib.hid (up2 B16.out al)
    have N17 := Lib.hid ((al.block w14.heap.size (by omega)).trans N16.out)
    have HB := Lib.hid hb
    have AL := Lib.hid al
    have HXH := Lib.hid HX
    clear al hb HX T16 B16 N16
    go_wp2_with fail
    rw [← HXH.out]
    refine thenQ_normal ⟨⟨⟨_, Only.of_below AL.out⟩, rfl⟩, ?_⟩
    refine wpQuiet_nil ?_
    go_wp2_with fail
    refine (s_in T17.out nW5 3 5).mono ?_
    rw [nIn1]
    rintro e w18 ⟨v18, rfl, o18, c18⟩
    have hz18 := c18.size
    have T18 := Lib.hid (T17.out.up c18)
    have B18 := Lib.hid (up2 B17.out c18)
    have N18 := Lib.hid ((c18.block w14.heap.size (by omega)).trans N17.out)
    have O18 := Lib.hid o18
    have C18 := Lib.hid c18
    obtain ⟨A18, cc18, rfl, _, _, _⟩ := o18.shape eltI
    clear T17 B17 N17 c18 o18
    go_wp2_with fail
    refine thenQ_normal ⟨⟨⟨_, Only.of_below (up2 AL.out C18.out)⟩, rfl⟩, ?_⟩
    refine wpQuiet_nil ?_
    have r' := (let ⟨_, _, e, _, _, r⟩ := O18.out.shape eltI; (show RSl encI w18 A18 [2, 0, 1] by cases e; exact r))
    have q' := RSl.lit [2, 0, 1] ((C18.out.block w16.heap.size (by omega)).trans HB.out)
    clear HB
    have SM := Lib.hid (same_any r' q' cc18 3 (by simp) (by simp))
    simp only [List.length_cons, List.length_nil, Nat.reduceAdd] at SM
    clear r' q'
    go_wp2_with fail
    refine SM.out.mono ?_
    rintro e w19 ⟨rfl, c19⟩
    have hz19 := c19.size
    have T19 := Lib.hid (T18.out.up c19)
    have B19 := Lib.hid (up2 B18.out c19)
    have N19 := Lib.hid ((c19.block w14.heap.size (by omega)).trans N18.out)
    have C19 := Lib.hid c19
    clear T18 B18 N18 c19 SM
    go_wp2_with fail
    refine thenQ_normal ⟨⟨⟨_, Only.of_below (up2 (up2 AL.out C18.out) C19.out)⟩, rfl⟩, ?_⟩
    refine wpQuiet_nil ?_
    refine wins_next (fun _ => False) ?_
    simp only [wpMixT, pk_nil, pk_cons, pushAt_zero, pushAt_succ, List.drop_succ_cons, List.drop_zero]
    repeat (go_big_quiet_step (fail))
    refine wpQuiet_nil ?_
    refine ⟨?_, ?_⟩
    · go_wp2_with fail
      refine (s_in T19.out nW5 5 5).mono ?_
      rw [nIn2]
      rintro e w20 ⟨v20, rfl, o20, c20⟩
      have hz20 := c20.size
      have T20 := Lib.hid (T19.out.up c20)
      have B20 := Lib.hid (up2 B19.out c20)
      have N20 := Lib.hid ((c20.block w14.heap.size (by omega)).trans N19.out)
      have O20 := Lib.hid o20
      have C20 := Lib.hid c20
      obtain ⟨A20, cc20, rfl, _, _, _⟩ := o20.shape eltI
      clear T19 B19 N19 c20 o20
      go_wp2_with fail
      refine thenQ_normal ⟨⟨⟨_, Only.of_below C20.out⟩, rfl⟩, ?_⟩
      refine wpQuiet_nil ?_
      obtain ⟨X21, HX⟩ : ∃ X, X = w20.alloc (.cells #[.int .i64 1] 3) := ⟨_, rfl⟩
      have al : Below w20.heap.size w20 X21 := by rw [HX]; exact below1 _ _
      have hx : X21.heap.size = w20.heap.size + 1 := by rw [HX]; simp
      have hb : X21.heap[w20.heap.size]? = some (.cells #[.int .i64 1] 3 (0, 0)) := by rw [HX]; exact (MapKept.heap_alloc _ _).1
      have r' := (let ⟨_, _, e, _, _, r⟩ := O20.out.shape eltI; (show RSl encI w20 A20 [1] by cases e; exact r)).up al
      have q' := RSl.lit [1] hb
      have T21 := Lib.hid (T20.out.up al)
      have B21 := Lib.hid (up2 B20.out al)
      have N21 := Lib.hid ((al.block w14.heap.size (by omega)).trans N20.out)
      have AL := Lib.hid (up2 C20.out al)
      have HXH := Lib.hid HX
      clear al hb HX T20 B20 N20 O20
      go_wp2_with fail
      rw [← HXH.out]
      refine thenQ_normal ⟨⟨⟨_, Only.of_below AL.out⟩, rfl⟩, ?_⟩
      refine wpQuiet_nil ?_
      have SM := Lib.hid (same_any r' q' cc20 1 (by simp) (by simp))
      simp only [List.length_cons, List.length_nil, Nat.reduceAdd] at SM
      clear r' q'
      go_wp2_with fail
      refine SM.out.mono ?_
      rintro e w22 ⟨rfl, c22⟩
      have hz22 := c22.size
      have T22 := Lib.hid (T21.out.up c22)
      have B22 := Lib.hid (up2 B21.out c22)
      have N22 := Lib.hid ((c22.block w14.heap.size (by omega)).trans N21.out)
      have C22 := Lib.hid c22
      clear T21 B21 N21 c22 SM
      go_wp2_with fail
      refine thenQ_normal ⟨⟨⟨_, Only.of_below (up2 AL.out C22.out)⟩, rfl⟩, ?_⟩
      refine wpQuiet_nil ?_
      refine wins_next (fun _ => False) ?_
      simp only [wpMixT, pk_nil, pk_cons, pushAt_zero, pushAt_succ, List.drop_succ_cons, List.drop_zero]
      repeat (go_big_quiet_step (fail))
      refine wpQuiet_nil ?_
      go_wp2_with fail
      refine (s_next T22.out nW5 1 9).mono ?_
      rw [nNx.1]
      rintro e w23 ⟨rfl, c23⟩
      have hz23 := c23.size
      have T23 := Lib.hid (T22.out.up c23)
      have B23 := Lib.hid (up2 B22.out c23)
      have N23 := Lib.hid ((c23.block w14.heap.size (by omega)).trans N22.out)
      have C23 := Lib.hid c23
      clear T22 B22 N22 c23
      go_wp2_with fail
      refine thenQ_normal ⟨⟨⟨_, Only.of_below C23.out⟩, rfl⟩, ?_⟩
      refine wpQuiet_nil ?_
      refine wins_next (fun _ => False) ?_
      simp only [wpMixT, pk_nil, pk_cons, pushAt_zero, pushAt_succ, List.drop_succ_cons, List.drop_zero]
      repeat (go_big_quiet_step (fail))
      refine wpQuiet_nil ?_
      go_wp2_with fail
      refine (s_next T23.out nW5 3 9).mono ?_
      rw [nNx.2.1]
      rintro e w24 ⟨rfl, c24⟩
      have hz24 := c24.size
      have T24 := Lib.hid (T23.out.up c24)
      have B24 := Lib.hid (up2 B23.out c24)
      have N24 := Lib.hid ((c24.block w14.heap.size (by omega)).trans N23.out)
      have C24 := Lib.hid c24
      clear T23 B23 N23 c24
      go_wp2_with fail
      refine thenQ_normal ⟨⟨⟨_, Only.of_below C24.out⟩, rfl⟩, ?_⟩
      refine wpQuiet_nil ?_
      refine wins_next (fun _ => False) ?_
      simp only [wpMixT, pk_nil, pk_cons, pushAt_zero, pushAt_succ, List.drop_succ_cons, List.drop_zero]
      repeat (go_big_quiet_step (fail))
      refine wpQuiet_nil ?_
      go_wp2_with fail
      refine (s_next T24.out nW5 5 9).mono ?_
      rw [nNx.2.2]
      rintro e w25 ⟨rfl, c25⟩
      have hz25 := c25.size
      have T25 := Lib.hid (T24.out.up c25)
      have B25 := Lib.hid (up2 B24.out c25)
      have N25 := Lib.hid ((c25.block w14.heap.size (by omega)).trans N24.out)
      have C25 := Lib.hid c25
      clear T24 B24 N24 c25
      go_wp2_with fail
      refine thenQ_normal ⟨⟨⟨_, Only.of_below C25.out⟩, rfl⟩, ?_⟩
      refine wpQuiet_nil ?_
      have l0 : ∀ x : OnW (fun k => (w.heap.size ≤ k ∧ k ≠ w11.heap.size) ∧ k < w14.heap.size) w25, x.w.cell? ⟨w14.heap.size, 0, none⟩ = some (.int .i64 0) := fun x => cell_kind ((x.on.block w14.heap.size (by omega) (fun h => by omega)).trans N25.out) 0 _ rfl
      have l1 : ∀ x : OnW (fun k => (w.heap.size ≤ k ∧ k ≠ w11.heap.size) ∧ k < w14.heap.size) w25, x.w.cell? ⟨w14.heap.size, 1, none⟩ = some (.int .i64 3) := fun x => cell_kind ((x.on.block w14.heap.size (by omega) (fun h => by omega)).trans N25.out) 1 _ rfl
      refine wins_next (fun k => (w.heap.size ≤ k ∧ k ≠ w11.heap.size) ∧ k < w14.heap.size) ?_
      simp only [wpMixT, pk_nil, pk_cons, pushAt_zero, pushAt_succ, List.drop_succ_cons, List.drop_zero]
      repeat (go_big_quiet_step (fail))
      refine wpQuiet_nil ?_
      go_wp2_with fail
      clear l0 l1
      refine (s_put T25.out nW5 2 (-1) 0 3).mono ?_
      rw [nEx.1, (nEd 0 3).1]
      rintro e w26 ⟨rfl, S26, s26, on26, hS26⟩
      have hz26 := on26.size
      have T26 := Lib.hid s26
      have HS26 := Lib.hid hS26
      have B26 := Lib.hid (B25.out.trans (on26.below (by omega) fun k hk => hk.1.1))
      have N26 := Lib.hid ((on26.block w14.heap.size (by omega) (fun h => by omega)).trans N25.out)
      have ON26 := Lib.hid on26
      clear T25 B25 N25 on26 s26 hS26
      go_wp2_with fail
      refine thenQ_normal ⟨⟨⟨_, ON26.out⟩, rfl⟩, ?_⟩
      refine wpQuiet_nil ?_
      have hno : ¬ S26 w14.heap.size := fun h => by rcases HS26.out _ h with h | h <;> omega
      have l0 : ∀ x : OnW S26 w26, x.w.cell? ⟨w14.heap.size, 0, none⟩ = some (.int .i64 0) := fun x => cell_kind ((x.on.block w14.heap.size (by omega) hno).trans N26.out) 0 _ rfl
      have l1 : ∀ x : OnW S26 w26, x.w.cell? ⟨w14.heap.size, 1, none⟩ = some (.int .i64 3) := fun x => cell_kind ((x.on.block w14.heap.size (by omega) hno).trans N26.out) 1 _ rfl
      refine wins_next S26 ?_
      simp only [wpMixT, pk_nil, pk_cons, pushAt_zero, pushAt_succ, List.drop_succ_cons, List.drop_zero]
      repeat (go_big_quiet_step (fail))
      refine wpQuiet_nil ?_
      go_wp2_with fail
      clear l0 l1 hno
      refine (s_put T26.out nW5 7 1 0 3).mono ?_
      rw [nEx.2.1, (nEd 0 3).2]
      rintro e w27 ⟨rfl, S27, s27, on27, hS27⟩
      have hS' : ∀ k, S26 k → w.heap.size ≤ k := fun k hk => by rcases HS26.out k hk with h | h <;> omega
      have hz27 := on27.size
      have T27 := Lib.hid s27
      have hS2 : ∀ k, S27 k → w.heap.size ≤ k := fun k hk => by
        rcases hS27 k hk with h | h
        · exact hS' k h
        · omega
      have HS27 := Lib.hid hS2
      have B27 := Lib.hid (B26.out.trans (on27.below (by omega) hS'))
      have ON27 := Lib.hid on27
      clear T26 B26 N26 on27 s27 hS27 hS' HS26 hS2
      go_wp2_with fail
      refine thenQ_normal ⟨⟨⟨_, ON27.out⟩, rfl⟩, ?_⟩
      refine wpQuiet_nil ?_
      refine wins_next S27 ?_
      simp only [wpMixT, pk_nil, pk_cons, pushAt_zero, pushAt_succ, List.drop_succ_cons, List.drop_zero]
      repeat (go_big_quiet_step (fail))
      refine wpQuiet_nil ?_
      go_wp2_with fail
      refine (s_take T27.out nW5 2 9).mono ?_
      rw [nEx.2.2]
      rintro e w28 ⟨rfl, S28, s28, on28, hS28⟩
      have B28 := Lib.hid (B27.out.trans (on28.below (by omega) HS27.out))
      have ON28 := Lib.hid on28
      clear T27 B27 on28 s28 hS28 HS27
      go_wp2_with fail
      refine thenQ_normal ⟨⟨⟨_, ON28.out⟩, rfl⟩, ?_⟩
      refine wpQuiet_nil ?_
      refine wins_next (fun _ => False) ?_
      simp only [wpMixT, pk_nil, pk_cons, pushAt_zero, pushAt_succ, List.drop_succ_cons, List.drop_zero]
      repeat (go_big_quiet_step (fail))
      refine wpQuiet_nil ?_
      refine wins_end ?_
      go_wp2_with fail
      go_ret
      exact ⟨rfl, B28.out⟩
    · obtain ⟨w20, HX⟩ : ∃ X, X = w19.alloc (.cells #[.int .i64 1] 3) := ⟨_, rfl⟩
      have al : Below w19.heap.size w19 w20 := by rw [HX]; exact below1 _ _
      have hz20 : w20.heap.size = w19.heap.size + 1 := by rw [HX]; simp
      have hb : w20.heap[w19.heap.size]? = some (.cells #[.int .i64 1] 3 (0, 0)) := by rw [HX]; exact (MapKept.heap_alloc _ _).1
      have T20 := Lib.hid (T19.out.up al)
      have B20 := Lib.hid (up2 B19.out al)
      have N20 := Lib.hid ((al.block w14.heap.size (by omega)).trans N19.out)
      have HB := Lib.hid hb
      have AL := Lib.hid al
      have HXH := Lib.hid HX
      clear al hb HX T19 B19 N19
      go_wp2_with fail
      rw [← HXH.out]
      refine thenQ_normal ⟨⟨⟨_, Only.of_below AL.out⟩, rfl⟩, ?_⟩
      refine wpQuiet_nil ?_
      go_wp2_with fail
      refine (s_in T20.out nW5 5 5).mono ?_
      rw [nIn2]
      rintro e w21 ⟨v21, rfl, o21, c21⟩
      have hz21 := c21.size
      have T21 := Lib.hid (T20.out.up c21)
      have B21 := Lib.hid (up2 B20.out c21)
      have N21 := Lib.hid ((c21.block w14.heap.size (by omega)).trans N20.out)
      have O21 := Lib.hid o21
      have C21 := Lib.hid c21
      obtain ⟨A21, cc21, rfl, _, _, _⟩ := o21.shape eltI
      clear T20 B20 N20 c21 o21
      go_wp2_with fail
      refine thenQ_normal ⟨⟨⟨_, Only.of_below (up2 AL.out C21.out)⟩, rfl⟩, ?_⟩
      refine wpQuiet_nil ?_
      have r' := (let ⟨_, _, e, _, _, r⟩ := O21.out.shape eltI; (show RSl encI w21 A21 [1] by cases e; exact r))
      have q' := RSl.lit [1] ((C21.out.block w19.heap.size (by omega)).trans HB.out)
      clear HB
      have SM := Lib.hid (same_any r' q' cc21 1 (by simp) (by simp))
      simp only [List.length_cons, List.length_nil, Nat.reduceAdd] at SM
      clear r' q'
      go_wp2_with fail
      refine SM.out.mono ?_
      rintro e w22 ⟨rfl, c22⟩
      have hz22 := c22.size
      have T22 := Lib.hid (T21.out.up c22)
      have B22 := Lib.hid (up2 B21.out c22)
      have N22 := Lib.hid ((c22.block w14.heap.size (by omega)).trans N21.out)
      have C22 := Lib.hid c22
      clear T21 B21 N21 c22 SM
      go_wp2_with fail
      refine thenQ_normal ⟨⟨⟨_, Only.of_below (up2 (up2 AL.out C21.out) C22.out)⟩, rfl⟩, ?_⟩
      refine wpQuiet_nil ?_
      refine wins_next (fun _ => False) ?_
      simp only [wpMixT, pk_nil, pk_cons, pushAt_zero, pushAt_succ, List.drop_succ_cons, List.drop_zero]
      repeat (go_big_quiet_step (fail))
      refine wpQuiet_nil ?_
      go_wp2_with fail
      refine (s_next T22.out nW5 1 9).mono ?_
      rw [nNx.1]
      rintro e w23 ⟨rfl, c23⟩
      have hz23 := c23.size
      have T23 := Lib.hid (T22.out.up c23)
      have B23 := Lib.hid (up2 B22.out c23)
      have N23 := Lib.hid ((c23.block w14.heap.size (by omega)).trans N22.out)
      have C23 := Lib.hid c23
      clear T22 B22 N22 c23
      go_wp2_with fail
      refine thenQ_normal ⟨⟨⟨_, Only.of_below C23.out⟩, rfl⟩, ?_⟩
      refine wpQuiet_nil ?_
      refine wins_next (fun _ => False) ?_
      simp only [wpMixT, pk_nil, pk_cons, pushAt_zero, pushAt_succ, List.drop_succ_cons, List.drop_zero]
      repeat (go_big_quiet_step (fail))
      refine wpQuiet_nil ?_
      go_wp2_with fail
      refine (s_next T23.out nW5 3 9).mono ?_
      rw [nNx.2.1]
      rintro e w24 ⟨rfl, c24⟩
      have hz24 := c24.size
      have T24 := Lib.hid (T23.out.up c24)
      have B24 := Lib.hid (up2 B23.out c24)
      have N24 := Lib.hid ((c24.block w14.heap.size (by omega)).trans N23.out)
      have C24 := Lib.hid c24
      clear T23 B23 N23 c24
      go_wp2_with fail
      refine thenQ_normal ⟨⟨⟨_, Only.of_below C24.out⟩, rfl⟩, ?_⟩
      refine wpQuiet_nil ?_
      refine wins_next (fun _ => False) ?_
      simp only [wpMixT, pk_nil, pk_cons, pushAt_zero, pushAt_succ, List.drop_succ_cons, List.drop_zero]
      repeat (go_big_quiet_step (fail))
      refine wpQuiet_nil ?_
      go_wp2_with fail
      refine (s_next T24.out nW5 5 9).mono ?_
      rw [nNx.2.2]
      rintro e w25 ⟨rfl, c25⟩
      have hz25 := c25.size
      have T25 := Lib.hid (T24.out.up c25)
      have B25 := Lib.hid (up2 B24.out c25)
      have N25 := Lib.hid ((c25.block w14.heap.size (by omega)).trans N24.out)
      have C25 := Lib.hid c25
      clear T24 B24 N24 c25
      go_wp2_with fail
      refine thenQ_normal ⟨⟨⟨_, Only.of_below C25.out⟩, rfl⟩, ?_⟩
      refine wpQuiet_nil ?_
      have l0 : ∀ x : OnW (fun k => (w.heap.size ≤ k ∧ k ≠ w11.heap.size) ∧ k < w14.heap.size) w25, x.w.cell? ⟨w14.heap.size, 0, none⟩ = some (.int .i64 0) := fun x => cell_kind ((x.on.block w14.heap.size (by omega) (fun h => by omega)).trans N25.out) 0 _ rfl
      have l1 : ∀ x : OnW (fun k => (w.heap.size ≤ k ∧ k ≠ w11.heap.size) ∧ k < w14.heap.size) w25, x.w.cell? ⟨w14.heap.size, 1, none⟩ = some (.int .i64 3) := fun x => cell_kind ((x.on.block w14.heap.size (by omega) (fun h => by omega)).trans N25.out) 1 _ rfl
      refine wins_next (fun k => (w.heap.size ≤ k ∧ k ≠ w11.heap.size) ∧ k < w14.heap.size) ?_
      simp only [wpMixT, pk_nil, pk_cons, pushAt_zero, pushAt_succ, List.drop_succ_cons, List.drop_zero]
      repeat (go_big_quiet_step (fail))
      refine wpQuiet_nil ?_
      go_wp2_with fail
      clear l0 l1
      refine (s_put T25.out nW5 2 (-1) 0 3).mono ?_
      rw [nEx.1, (nEd 0 3).1]
      rintro e w26 ⟨rfl, S26, s26, on26, hS26⟩
      have hz26 := on26.size
      have T26 := Lib.hid s26
      have HS26 := Lib.hid hS26
      have B26 := Lib.hid (B25.out.trans (on26.below (by omega) fun k hk => hk.1.1))
      have N26 := Lib.hid ((on26.block w14.heap.size (by omega) (fun h => by omega)).trans N25.out)
      have ON26 := Lib.hid on26
      clear T25 B25 N25 on26 s26 hS26
      go_wp2_with fail
      refine thenQ_normal ⟨⟨⟨_, ON26.out⟩, rfl⟩, ?_⟩
      refine wpQuiet_nil ?_
      have hno : ¬ S26 w14.heap.size := fun h => by rcases HS26.out _ h with h | h <;> omega
      have l0 : ∀ x : OnW S26 w26, x.w.cell? ⟨w14.heap.size, 0, none⟩ = some (.int .i64 0) := fun x => cell_kind ((x.on.block w14.heap.size (by omega) hno).trans N26.out) 0 _ rfl
      have l1 : ∀ x : OnW S26 w26, x.w.cell? ⟨w14.heap.size, 1, none⟩ = some (.int .i64 3) := fun x => cell_kind ((x.on.block w14.heap.size (by omega) hno).trans N26.out) 1 _ rfl
      refine wins_next S26 ?_
      simp only [wpMixT, pk_nil, pk_cons, pushAt_zero, pushAt_succ, List.drop_succ_cons, List.drop_zero]
      repeat (go_big_quiet_step (fail))
      refine wpQuiet_nil ?_
      go_wp2_with fail
      clear l0 l1 hno
      refine (s_put T26.out nW5 7 1 0 3).mono ?_
      rw [nEx.2.1, (nEd 0 3).2]
      rintro e w27 ⟨rfl, S27, s27, on27, hS27⟩
      have hS' : ∀ k, S26 k → w.heap.size ≤ k := fun k hk => by rcases HS26.out k hk with h | h <;> omega
      have hz27 := on27.size
      have T27 := Lib.hid s27
      have hS2 : ∀ k, S27 k → w.heap.size ≤ k := fun k hk => by
        rcases hS27 k hk with h | h
        · exact hS' k h
        · omega
      have HS27 := Lib.hid hS2
      have B27 := Lib.hid (B26.out.trans (on27.below (by omega) hS'))
      have ON27 := Lib.hid on27
      clear T26 B26 N26 on27 s27 hS27 hS' HS26 hS2
      go_wp2_with fail
      refine thenQ_normal ⟨⟨⟨_, ON27.out⟩, rfl⟩, ?_⟩
      refine wpQuiet_nil ?_
      refine wins_next S27 ?_
      simp only [wpMixT, pk_nil, pk_cons, pushAt_zero, pushAt_succ, List.drop_succ_cons, List.drop_zero]
      repeat (go_big_quiet_step (fail))
      refine wpQuiet_nil ?_
      go_wp2_with fail
      refine (s_take T27.out nW5 2 9).mono ?_
      rw [nEx.2.2]
      rintro e w28 ⟨rfl, S28, s28, on28, hS28⟩
      have B28 := Lib.hid (B27.out.trans (on28.below (by omega) HS27.out))
      have ON28 := Lib.hid on28
      clear T27 B27 on28 s28 hS28 HS27
      go_wp2_with fail
      refine thenQ_normal ⟨⟨⟨_, ON28.out⟩, rfl⟩, ?_⟩
      refine wpQuiet_nil ?_
      refine wins_next (fun _ => False) ?_
      simp only [wpMixT, pk_nil, pk_cons, pushAt_zero, pushAt_succ, List.drop_succ_cons, List.drop_zero]
      repeat (go_big_quiet_step (fail))
      refine wpQuiet_nil ?_
      refine wins_end ?_
      go_wp2_with fail
      go_ret
      exact ⟨rfl, B28.out⟩
end
end Go.Proofs.Ythjkdeocdhdkaaa
