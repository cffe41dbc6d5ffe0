import Derived.Test.YtbfajkcmehaliaaGreatDoorM08P0
import Derived.Test.YtbfajkcmehaliaaGreatDoorM08P1
set_option linter.unusedVariables false
set_option linter.unusedSimpArgs false
set_option linter.unusedSectionVars false
/- The functions that the statement reaches, as the interpreter has them, with modes. Conditions: none. -/
namespace Go.Proofs.YtbfajkcmehaliaaGreatDoor
open Go Go.RI
set_option maxRecDepth 100000
def tab0:List (Nat×IFunc):=[(3,I3),(4,I4),(5,I5),(6,I6),(7,I7),(8,I8),(9,I9),(10,I10),(11,I11),(12,I12),(13,I13),(14,I14),(15,I15),(16,I16),(17,I17),(18,I18),(19,I19),(20,I20),(21,I21),(22,I22),(23,I23),(24,I24),(25,I25),(26,I26),(27,I27),(28,I28),(29,I29),(30,I30),(31,I31),(32,I32),(33,I33),(34,I34),(35,I35),(36,I36),(37,I37),(38,I38),(39,I39),(40,I40),(41,I41),(42,I42),(44,I44),(45,I45),(46,I46),(47,I47),(48,I48),(49,I49),(50,I50),(51,I51),(52,I52),(53,I53),(54,I54),(55,I55),(56,I56),(57,I57),(58,I58),(59,I59),(60,I60),(61,I61),(62,I62),(63,I63),(64,I64),(65,I65),(66,I66),(67,I67),(68,I68),(69,I69),(70,I70),(71,I71),(72,I72),(73,I73),(74,I74),(75,I75),(76,I76),(77,I77),(78,I78),(79,I79),(80,I80),(81,I81),(82,I82),(83,I83),(84,I84),(85,I85),(86,I86),(87,I87),(88,I88),(89,I89),(90,I90),(91,I91),(92,I92),(93,I93),(94,I94),(95,I95),(96,I96),(97,I97),(98,I98),(99,I99),(100,I100),(101,I101),(102,I102),(103,I103),(104,I104),(105,I105),(106,I106),(107,I107),(108,I108),(109,I109),(110,I110),(111,I111),(112,I112),(113,I113),(114,I114),(115,I115),(116,I116),(117,I117),(118,I118),(119,I119),(120,I120),(121,I121),(122,I122),(123,I123),(124,I124),(125,I125),(126,I126),(127,I127),(128,I128),(129,I129),(130,I130),(131,I131),(132,I132),(133,I133),(134,I134),(135,I135),(136,I136),(137,I137),(138,I138),(139,I139),(140,I140),(141,I141),(142,I142),(143,I143),(144,I144),(145,I145),(146,I146),(147,I147),(148,I148),(149,I149),(150,I150),(151,I151),(152,I152),(153,I153),(154,I154),(155,I155),(156,I156),(157,I157),(158,I158),(159,I159),(160,I160),(161,I161),(162,I162),(163,I163),(164,I164),(165,I165),(166,I166),(167,I167),(168,I168),(169,I169),(170,I170),(171,I171),(172,I172),(173,I173),(175,I175),(176,I176),(177,I177),(178,I178)]
theorem tab0_all:TabAll Tryz.prog (plainT tab0) :=
 .cons Tryz.func3 tr3<|.cons Tryz.func4 tr4<|.cons Tryz.func5 tr5<|.cons Tryz.func6 tr6<|.cons Tryz.func7 tr7<|.cons Tryz.func8 tr8<|.cons Tryz.func9 tr9<|.cons Tryz.func10 tr10<|.cons Tryz.func11 tr11<|.cons Tryz.func12 tr12<|.cons Tryz.func13 tr13<|.cons Tryz.func14 tr14<|.cons Tryz.func15 tr15<|.cons Tryz.func16 tr16<|.cons Tryz.func17 tr17<|.cons Tryz.func18 tr18<|.cons Tryz.func19 tr19<|.cons Tryz.func20 tr20<|.cons Tryz.func21 tr21<|.cons Tryz.func22 tr22<|.cons Tryz.func23 tr23<|.cons Tryz.func24 tr24<|.cons Tryz.func25 tr25<|.cons Tryz.func26 tr26<|.cons Tryz.func27 tr27<|.cons Tryz.func28 tr28<|.cons Tryz.func29 tr29<|.cons Tryz.func30 tr30<|.cons Tryz.func31 tr31<|.cons Tryz.func32 tr32<|.cons Tryz.func33 tr33<|.cons Tryz.func34 tr34<|.cons Tryz.func35 tr35<|.cons Tryz.func36 tr36<|.cons Tryz.func37 tr37<|.cons Tryz.func38 tr38<|.cons Tryz.func39 tr39<|.cons Tryz.func40 tr40<|.cons Tryz.func41 tr41<|.cons Tryz.func42 tr42<|.cons Tryz.func44 tr44<|.cons Tryz.func45 tr45<|.cons Tryz.func46 tr46<|.cons Tryz.func47 tr47<|.cons Tryz.func48 tr48<|.cons Tryz.func49 tr49<|.cons Tryz.func50 tr50<|.cons Tryz.func51 tr51<|.cons Tryz.func52 tr52<|.cons Tryz.func53 tr53<|.cons Tryz.func54 tr54<|.cons Tryz.func55 tr55<|.cons Tryz.func56 tr56<|.cons Tryz.func57 tr57<|.cons Tryz.func58 tr58<|.cons Tryz.func59 tr59<|.cons Tryz.func60 tr60<|.cons Tryz.func61 tr61<|.cons Tryz.func62 tr62<|.cons Tryz.func63 tr63<|.cons Tryz.func64 tr64<|.cons Tryz.func65 tr65<|.cons Tryz.func66 tr66<|.cons Tryz.func67 tr67<|.cons Tryz.func68 tr68<|.cons Tryz.func69 tr69<|.cons Tryz.func70 tr70<|.cons Tryz.func71 tr71<|.cons Tryz.func72 tr72<|.cons Tryz.func73 tr73<|.cons Tryz.func74 tr74<|.cons Tryz.func75 tr75<|.cons Tryz.func76 tr76<|.cons Tryz.func77 tr77<|.cons Tryz.func78 tr78<|.cons Tryz.func79 tr79<|.cons Tryz.func80 tr80<|.cons Tryz.func81 tr81<|.cons Tryz.func82 tr82<|.cons Tryz.func83 tr83<|.cons Tryz.func84 tr84<|.cons Tryz.func85 tr85<|.cons Tryz.func86 tr86<|.cons Tryz.func87 tr87<|.cons Tryz.func88 tr88<|.cons Tryz.func89 tr89<|.cons Tryz.func90 tr90<|.cons Tryz.func91 tr91<|.cons Tryz.func92 tr92<|.cons Tryz.func93 tr93<|.cons Tryz.func94 tr94<|.cons Tryz.func95 tr95<|.cons Tryz.func96 tr96<|.cons Tryz.func97 tr97<|.cons Tryz.func98 tr98<|.cons Tryz.func99 tr99<|.cons Tryz.func100 tr100<|.cons Tryz.func101 tr101<|.cons Tryz.func102 tr102<|.cons Tryz.func103 tr103<|.cons Tryz.func104 tr104<|.cons Tryz.func105 tr105<|.cons Tryz.func106 tr106<|.cons Tryz.func107 tr107<|.cons Tryz.func108 tr108<|.cons Tryz.func109 tr109<|.cons Tryz.func110 tr110<|.cons Tryz.func111 tr111<|.cons Tryz.func112 tr112<|.cons Tryz.func113 tr113<|.cons Tryz.func114 tr114<|.cons Tryz.func115 tr115<|.cons Tryz.func116 tr116<|.cons Tryz.func117 tr117<|.cons Tryz.func118 tr118<|.cons Tryz.func119 tr119<|.cons Tryz.func120 tr120<|.cons Tryz.func121 tr121<|.cons Tryz.func122 tr122<|.cons Tryz.func123 tr123<|.cons Tryz.func124 tr124<|.cons Tryz.func125 tr125<|.cons Tryz.func126 tr126<|.cons Tryz.func127 tr127<|.cons Tryz.func128 tr128<|.cons Tryz.func129 tr129<|.cons Tryz.func130 tr130<|.cons Tryz.func131 tr131<|.cons Tryz.func132 tr132<|.cons Tryz.func133 tr133<|.cons Tryz.func134 tr134<|.cons Tryz.func135 tr135<|.cons Tryz.func136 tr136<|.cons Tryz.func137 tr137<|.cons Tryz.func138 tr138<|.cons Tryz.func139 tr139<|.cons Tryz.func140 tr140<|.cons Tryz.func141 tr141<|.cons Tryz.func142 tr142<|.cons Tryz.func143 tr143<|.cons Tryz.func144 tr144<|.cons Tryz.func145 tr145<|.cons Tryz.func146 tr146<|.cons Tryz.func147 tr147<|.cons Tryz.func148 tr148<|.cons Tryz.func149 tr149<|.cons Tryz.func150 tr150<|.cons Tryz.func151 tr151<|.cons Tryz.func152 tr152<|.cons Tryz.func153 tr153<|.cons Tryz.func154 tr154<|.cons Tryz.func155 tr155<|.cons Tryz.func156 tr156<|.cons Tryz.func157 tr157<|.cons Tryz.func158 tr158<|.cons Tryz.func159 tr159<|.cons Tryz.func160 tr160<|.cons Tryz.func161 tr161<|.cons Tryz.func162 tr162<|.cons Tryz.func163 tr163<|.cons Tryz.func164 tr164<|.cons Tryz.func165 tr165<|.cons Tryz.func166 tr166<|.cons Tryz.func167 tr167<|.cons Tryz.func168 tr168<|.cons Tryz.func169 tr169<|.cons Tryz.func170 tr170<|.cons Tryz.func171 tr171<|.cons Tryz.func172 tr172<|.cons Tryz.func173 tr173<|.cons Tryz.func175 tr175<|.cons Tryz.func176 tr176<|.ext Tryz.func177 (by kernel_rfl) (by kernel_rfl) (by kernel_rfl) (by kernel_rfl)<|.cons Tryz.func178 tr178<|.nil
def I43:IFunc:=ofI 44 101 125 0
def tab:List (Nat×IFunc):=(43,I43)::tab0
theorem cus:CusOK Tryz.prog (tabIP (plainT tab)) 43 (ofI 44 101 125 0) :=
 cus_of (hs2:=[([],[]),([],[]),([],[])]) (hsG:=[([],[]),([],[]),([],[]),([],[]),([],[]),([],[]),([],[]),([],[]),([],[]),([],[])]) (by decide) Tryz.func43 (by kernel_rfl) rfl (by kernel_rfl) (by kernel_rfl) (by kernel_rfl) (by kernel_rfl) (by kernel_rfl) (by kernel_rfl) (by kernel_rfl) (by kernel_rfl) (by kernel_rfl) (by kernel_rfl) (by kernel_rfl) (by kernel_rfl) (by kernel_rfl)
  Tryz.func124 rfl (by kernel_rfl) (by kernel_rfl) (of_decide_eq_true (by kernel_rfl)) (by kernel_rfl) (by kernel_rfl) (blk_okK (mode:=0) (by decide) (show tabIP (plainT tab) 100=some I100 from rfl))
theorem ckc:ckC 2 I43.body=true:=by kernel_rfl
theorem ck_all:CkAll 2 tab :=
 .cons ckc rfl<|.cons ck3 rfl<|.cons ck4 rfl<|.cons ck5 rfl<|.cons ck6 rfl<|.cons ck7 rfl<|.cons ck8 rfl<|.cons ck9 rfl<|.cons ck10 rfl<|.cons ck11 rfl<|.cons ck12 rfl<|.cons ck13 rfl<|.cons ck14 rfl<|.cons ck15 rfl<|.cons ck16 rfl<|.cons ck17 rfl<|.cons ck18 rfl<|.cons ck19 rfl<|.cons ck20 rfl<|.cons ck21 rfl<|.cons ck22 rfl<|.cons ck23 rfl<|.cons ck24 rfl<|.cons ck25 rfl<|.cons ck26 rfl<|.cons ck27 rfl<|.cons ck28 rfl<|.cons ck29 rfl<|.cons ck30 rfl<|.cons ck31 rfl<|.cons ck32 rfl<|.cons ck33 rfl<|.cons ck34 rfl<|.cons ck35 rfl<|.cons ck36 rfl<|.cons ck37 rfl<|.cons ck38 rfl<|.cons ck39 rfl<|.cons ck40 rfl<|.cons ck41 rfl<|.cons ck42 rfl<|.cons ck44 rfl<|.cons ck45 rfl<|.cons ck46 rfl<|.clone ck47 rfl<|.cons ck48 rfl<|.cons ck49 rfl<|.cons ck50 rfl<|.cons ck51 rfl<|.cons ck52 rfl<|.cons ck53 rfl<|.cons ck54 rfl<|.cons ck55 rfl<|.cons ck56 rfl<|.cons ck57 rfl<|.cons ck58 rfl<|.cons ck59 rfl<|.cons ck60 rfl<|.cons ck61 rfl<|.cons ck62 rfl<|.cons ck63 rfl<|.cons ck64 rfl<|.cons ck65 rfl<|.cons ck66 rfl<|.cons ck67 rfl<|.cons ck68 rfl<|.cons ck69 rfl<|.cons ck70 rfl<|.cons ck71 rfl<|.cons ck72 rfl<|.cons ck73 rfl<|.cons ck74 rfl<|.cons ck75 rfl<|.cons ck76 rfl<|.cons ck77 rfl<|.cons ck78 rfl<|.cons ck79 rfl<|.cons ck80 rfl<|.cons ck81 rfl<|.cons ck82 rfl<|.cons ck83 rfl<|.cons ck84 rfl<|.cons ck85 rfl<|.cons ck86 rfl<|.cons ck87 rfl<|.cons ck88 rfl<|.cons ck89 rfl<|.cons ck90 rfl<|.cons ck91 rfl<|.cons ck92 rfl<|.clone ck93 rfl<|.clone ck94 rfl<|.cons ck95 rfl<|.cons ck96 rfl<|.cons ck97 rfl<|.cons ck98 rfl<|.cons ck99 rfl<|.cons ck100 rfl<|.cons ck101 rfl<|.cons ck102 rfl<|.cons ck103 rfl<|.cons ck104 rfl<|.cons ck105 rfl<|.cons ck106 rfl<|.cons ck107 rfl<|.cons ck108 rfl<|.cons ck109 rfl<|.cons ck110 rfl<|.cons ck111 rfl<|.cons ck112 rfl<|.cons ck113 rfl<|.cons ck114 rfl<|.cons ck115 rfl<|.cons ck116 rfl<|.cons ck117 rfl<|.cons ck118 rfl<|.cons ck119 rfl<|.cons ck120 rfl<|.cons ck121 rfl<|.cons ck122 rfl<|.cons ck123 rfl<|.cons ck124 rfl<|.cons ck125 rfl<|.cons ck126 rfl<|.cons ck127 rfl<|.cons ck128 rfl<|.cons ck129 rfl<|.cons ck130 rfl<|.cons ck131 rfl<|.cons ck132 rfl<|.cons ck133 rfl<|.cons ck134 rfl<|.clone ck135 rfl<|.cons ck136 rfl<|.cons ck137 rfl<|.cons ck138 rfl<|.cons ck139 rfl<|.cons ck140 rfl<|.cons ck141 rfl<|.cons ck142 rfl<|.cons ck143 rfl<|.cons ck144 rfl<|.cons ck145 rfl<|.cons ck146 rfl<|.cons ck147 rfl<|.cons ck148 rfl<|.cons ck149 rfl<|.cons ck150 rfl<|.cons ck151 rfl<|.cons ck152 rfl<|.cons ck153 rfl<|.cons ck154 rfl<|.cons ck155 rfl<|.cons ck156 rfl<|.cons ck157 rfl<|.cons ck158 rfl<|.cons ck159 rfl<|.cons ck160 rfl<|.cons ck161 rfl<|.cons ck162 rfl<|.cons ck163 rfl<|.cons ck164 rfl<|.cons ck165 rfl<|.cons ck166 rfl<|.cons ck167 rfl<|.cons ck168 rfl<|.cons ck169 rfl<|.cons ck170 rfl<|.cons ck171 rfl<|.cons ck172 rfl<|.cons ck173 rfl<|.cons ck175 rfl<|.cons ck176 rfl<|.ext<|.cons ck178 rfl<|.nil
def IP:FuncId→Option IFunc:=tabIP tab
theorem IP_ok:TabOK Tryz.prog (plainP IP):=by
 show TabOK Tryz.prog (plainP (tabIP tab))
 rw[plainT_eq]
 exact tab0_all.okC cus
theorem IP_ck:TabCk 2 IP:=ck_all.ck
theorem ip3:IP 3=some I3:=rfl
theorem ip4:IP 4=some I4:=rfl
theorem ip5:IP 5=some I5:=rfl
theorem ip6:IP 6=some I6:=rfl
theorem ip7:IP 7=some I7:=rfl
theorem ip8:IP 8=some I8:=rfl
theorem ip9:IP 9=some I9:=rfl
theorem ip10:IP 10=some I10:=rfl
theorem ip11:IP 11=some I11:=rfl
theorem ip12:IP 12=some I12:=rfl
theorem ip13:IP 13=some I13:=rfl
theorem ip14:IP 14=some I14:=rfl
theorem ip15:IP 15=some I15:=rfl
theorem ip16:IP 16=some I16:=rfl
theorem ip17:IP 17=some I17:=rfl
theorem ip18:IP 18=some I18:=rfl
theorem ip19:IP 19=some I19:=rfl
theorem ip20:IP 20=some I20:=rfl
theorem ip21:IP 21=some I21:=rfl
theorem ip22:IP 22=some I22:=rfl
theorem ip23:IP 23=some I23:=rfl
theorem ip24:IP 24=some I24:=rfl
theorem ip25:IP 25=some I25:=rfl
theorem ip26:IP 26=some I26:=rfl
theorem ip27:IP 27=some I27:=rfl
theorem ip28:IP 28=some I28:=rfl
theorem ip29:IP 29=some I29:=rfl
theorem ip30:IP 30=some I30:=rfl
theorem ip31:IP 31=some I31:=rfl
theorem ip32:IP 32=some I32:=rfl
theorem ip33:IP 33=some I33:=rfl
theorem ip34:IP 34=some I34:=rfl
theorem ip35:IP 35=some I35:=rfl
theorem ip36:IP 36=some I36:=rfl
theorem ip37:IP 37=some I37:=rfl
theorem ip38:IP 38=some I38:=rfl
theorem ip39:IP 39=some I39:=rfl
theorem ip40:IP 40=some I40:=rfl
theorem ip41:IP 41=some I41:=rfl
theorem ip42:IP 42=some I42:=rfl
theorem ip44:IP 44=some I44:=rfl
theorem ip45:IP 45=some I45:=rfl
theorem ip46:IP 46=some I46:=rfl
theorem ip47:IP 47=some I47:=rfl
theorem ip48:IP 48=some I48:=rfl
theorem ip49:IP 49=some I49:=rfl
theorem ip50:IP 50=some I50:=rfl
theorem ip51:IP 51=some I51:=rfl
theorem ip52:IP 52=some I52:=rfl
theorem ip53:IP 53=some I53:=rfl
theorem ip54:IP 54=some I54:=rfl
theorem ip55:IP 55=some I55:=rfl
theorem ip56:IP 56=some I56:=rfl
theorem ip57:IP 57=some I57:=rfl
theorem ip58:IP 58=some I58:=rfl
theorem ip59:IP 59=some I59:=rfl
theorem ip60:IP 60=some I60:=rfl
theorem ip61:IP 61=some I61:=rfl
theorem ip62:IP 62=some I62:=rfl
theorem ip63:IP 63=some I63:=rfl
theorem ip64:IP 64=some I64:=rfl
theorem ip65:IP 65=some I65:=rfl
theorem ip66:IP 66=some I66:=rfl
theorem ip67:IP 67=some I67:=rfl
theorem ip68:IP 68=some I68:=rfl
theorem ip69:IP 69=some I69:=rfl
theorem ip70:IP 70=some I70:=rfl
theorem ip71:IP 71=some I71:=rfl
theorem ip72:IP 72=some I72:=rfl
theorem ip73:IP 73=some I73:=rfl
theorem ip74:IP 74=some I74:=rfl
theorem ip75:IP 75=some I75:=rfl
theorem ip76:IP 76=some I76:=rfl
theorem ip77:IP 77=some I77:=rfl
theorem ip78:IP 78=some I78:=rfl
theorem ip79:IP 79=some I79:=rfl
theorem ip80:IP 80=some I80:=rfl
theorem ip81:IP 81=some I81:=rfl
theorem ip82:IP 82=some I82:=rfl
theorem ip83:IP 83=some I83:=rfl
theorem ip84:IP 84=some I84:=rfl
theorem ip85:IP 85=some I85:=rfl
theorem ip86:IP 86=some I86:=rfl
theorem ip87:IP 87=some I87:=rfl
theorem ip88:IP 88=some I88:=rfl
theorem ip89:IP 89=some I89:=rfl
theorem ip90:IP 90=some I90:=rfl
theorem ip91:IP 91=some I91:=rfl
theorem ip92:IP 92=some I92:=rfl
theorem ip93:IP 93=some I93:=rfl
theorem ip94:IP 94=some I94:=rfl
theorem ip95:IP 95=some I95:=rfl
theorem ip96:IP 96=some I96:=rfl
theorem ip97:IP 97=some I97:=rfl
theorem ip98:IP 98=some I98:=rfl
theorem ip99:IP 99=some I99:=rfl
theorem ip100:IP 100=some I100:=rfl
theorem ip101:IP 101=some I101:=rfl
theorem ip102:IP 102=some I102:=rfl
theorem ip103:IP 103=some I103:=rfl
theorem ip104:IP 104=some I104:=rfl
theorem ip105:IP 105=some I105:=rfl
theorem ip106:IP 106=some I106:=rfl
theorem ip107:IP 107=some I107:=rfl
theorem ip108:IP 108=some I108:=rfl
theorem ip109:IP 109=some I109:=rfl
theorem ip110:IP 110=some I110:=rfl
theorem ip111:IP 111=some I111:=rfl
theorem ip112:IP 112=some I112:=rfl
theorem ip113:IP 113=some I113:=rfl
theorem ip114:IP 114=some I114:=rfl
theorem ip115:IP 115=some I115:=rfl
theorem ip116:IP 116=some I116:=rfl
theorem ip117:IP 117=some I117:=rfl
theorem ip118:IP 118=some I118:=rfl
theorem ip119:IP 119=some I119:=rfl
theorem ip120:IP 120=some I120:=rfl
theorem ip121:IP 121=some I121:=rfl
theorem ip122:IP 122=some I122:=rfl
theorem ip123:IP 123=some I123:=rfl
theorem ip124:IP 124=some I124:=rfl
theorem ip125:IP 125=some I125:=rfl
theorem ip126:IP 126=some I126:=rfl
theorem ip127:IP 127=some I127:=rfl
theorem ip128:IP 128=some I128:=rfl
theorem ip129:IP 129=some I129:=rfl
theorem ip130:IP 130=some I130:=rfl
theorem ip131:IP 131=some I131:=rfl
theorem ip132:IP 132=some I132:=rfl
theorem ip133:IP 133=some I133:=rfl
theorem ip134:IP 134=some I134:=rfl
theorem ip135:IP 135=some I135:=rfl
theorem ip136:IP 136=some I136:=rfl
theorem ip137:IP 137=some I137:=rfl
theorem ip138:IP 138=some I138:=rfl
theorem ip139:IP 139=some I139:=rfl
theorem ip140:IP 140=some I140:=rfl
theorem ip141:IP 141=some I141:=rfl
theorem ip142:IP 142=some I142:=rfl
theorem ip143:IP 143=some I143:=rfl
theorem ip144:IP 144=some I144:=rfl
theorem ip145:IP 145=some I145:=rfl
theorem ip146:IP 146=some I146:=rfl
theorem ip147:IP 147=some I147:=rfl
theorem ip148:IP 148=some I148:=rfl
theorem ip149:IP 149=some I149:=rfl
theorem ip150:IP 150=some I150:=rfl
theorem ip151:IP 151=some I151:=rfl
theorem ip152:IP 152=some I152:=rfl
theorem ip153:IP 153=some I153:=rfl
theorem ip154:IP 154=some I154:=rfl
theorem ip155:IP 155=some I155:=rfl
theorem ip156:IP 156=some I156:=rfl
theorem ip157:IP 157=some I157:=rfl
theorem ip158:IP 158=some I158:=rfl
theorem ip159:IP 159=some I159:=rfl
theorem ip160:IP 160=some I160:=rfl
theorem ip161:IP 161=some I161:=rfl
theorem ip162:IP 162=some I162:=rfl
theorem ip163:IP 163=some I163:=rfl
theorem ip164:IP 164=some I164:=rfl
theorem ip165:IP 165=some I165:=rfl
theorem ip166:IP 166=some I166:=rfl
theorem ip167:IP 167=some I167:=rfl
theorem ip168:IP 168=some I168:=rfl
theorem ip169:IP 169=some I169:=rfl
theorem ip170:IP 170=some I170:=rfl
theorem ip171:IP 171=some I171:=rfl
theorem ip172:IP 172=some I172:=rfl
theorem ip173:IP 173=some I173:=rfl
theorem ip175:IP 175=some I175:=rfl
theorem ip176:IP 176=some I176:=rfl
theorem ip177:IP 177=some I177:=rfl
theorem ip178:IP 178=some I178:=rfl
theorem ip43:IP 43=some I43:=rfl
section
variable {G H:AHeap} {lo:Nat} {l:List AVal} {x:AVal}
@[simp] theorem pu6:theCalls IP G lo 6 l H=given H ((snaps H l).bind (pureR IP G 6)):=calls_pureR ip6 rfl
@[simp] theorem pb6:pureB IP 6=true:=rfl
@[simp] theorem pu7:theCalls IP G lo 7 l H=given H ((snaps H l).bind (pureR IP G 7)):=calls_pureR ip7 rfl
@[simp] theorem pb7:pureB IP 7=true:=rfl
@[simp] theorem pu8:theCalls IP G lo 8 l H=given H ((snaps H l).bind (pureR IP G 8)):=calls_pureR ip8 rfl
@[simp] theorem pb8:pureB IP 8=true:=rfl
@[simp] theorem pu9:theCalls IP G lo 9 l H=given H ((snaps H l).bind (pureR IP G 9)):=calls_pureR ip9 rfl
@[simp] theorem pb9:pureB IP 9=true:=rfl
@[simp] theorem pu10:theCalls IP G lo 10 l H=given H ((snaps H l).bind (pureR IP G 10)):=calls_pureR ip10 rfl
@[simp] theorem pb10:pureB IP 10=true:=rfl
@[simp] theorem pu11:theCalls IP G lo 11 l H=given H ((snaps H l).bind (pureR IP G 11)):=calls_pureR ip11 rfl
@[simp] theorem pb11:pureB IP 11=true:=rfl
@[simp] theorem pu12:theCalls IP G lo 12 l H=given H ((snaps H l).bind (pureR IP G 12)):=calls_pureR ip12 rfl
@[simp] theorem pb12:pureB IP 12=true:=rfl
@[simp] theorem pu13:theCalls IP G lo 13 l H=given H ((snaps H l).bind (pureR IP G 13)):=calls_pureR ip13 rfl
@[simp] theorem pb13:pureB IP 13=true:=rfl
@[simp] theorem pu14:theCalls IP G lo 14 l H=given H ((snaps H l).bind (pureR IP G 14)):=calls_pureR ip14 rfl
@[simp] theorem pb14:pureB IP 14=true:=rfl
@[simp] theorem pu15:theCalls IP G lo 15 l H=given H ((snaps H l).bind (pureR IP G 15)):=calls_pureR ip15 rfl
@[simp] theorem pb15:pureB IP 15=true:=rfl
@[simp] theorem pu16:theCalls IP G lo 16 l H=given H ((snaps H l).bind (pureR IP G 16)):=calls_pureR ip16 rfl
@[simp] theorem pb16:pureB IP 16=true:=rfl
@[simp] theorem pu17:theCalls IP G lo 17 l H=given H ((snaps H l).bind (pureR IP G 17)):=calls_pureR ip17 rfl
@[simp] theorem pb17:pureB IP 17=true:=rfl
@[simp] theorem pu18:theCalls IP G lo 18 l H=given H ((snaps H l).bind (pureR IP G 18)):=calls_pureR ip18 rfl
@[simp] theorem pb18:pureB IP 18=true:=rfl
@[simp] theorem pu19:theCalls IP G lo 19 l H=given H ((snaps H l).bind (pureR IP G 19)):=calls_pureR ip19 rfl
@[simp] theorem pb19:pureB IP 19=true:=rfl
@[simp] theorem pu20:theCalls IP G lo 20 l H=given H ((snaps H l).bind (pureR IP G 20)):=calls_pureR ip20 rfl
@[simp] theorem pb20:pureB IP 20=true:=rfl
@[simp] theorem pu21:theCalls IP G lo 21 l H=given H ((snaps H l).bind (pureR IP G 21)):=calls_pureR ip21 rfl
@[simp] theorem pb21:pureB IP 21=true:=rfl
@[simp] theorem pu22:theCalls IP G lo 22 l H=given H ((snaps H l).bind (pureR IP G 22)):=calls_pureR ip22 rfl
@[simp] theorem pb22:pureB IP 22=true:=rfl
@[simp] theorem pu23:theCalls IP G lo 23 l H=given H ((snaps H l).bind (pureR IP G 23)):=calls_pureR ip23 rfl
@[simp] theorem pb23:pureB IP 23=true:=rfl
@[simp] theorem pb24:pureB IP 24=true:=rfl
@[simp] theorem pu25:theCalls IP G lo 25 l H=given H ((snaps H l).bind (pureR IP G 25)):=calls_pureR ip25 rfl
@[simp] theorem pb25:pureB IP 25=true:=rfl
@[simp] theorem pu26:theCalls IP G lo 26 l H=given H ((snaps H l).bind (pureR IP G 26)):=calls_pureR ip26 rfl
@[simp] theorem pb26:pureB IP 26=true:=rfl
@[simp] theorem pu27:theCalls IP G lo 27 l H=given H ((snaps H l).bind (pureR IP G 27)):=calls_pureR ip27 rfl
@[simp] theorem pb27:pureB IP 27=true:=rfl
@[simp] theorem pu28:theCalls IP G lo 28 l H=given H ((snaps H l).bind (pureR IP G 28)):=calls_pureR ip28 rfl
@[simp] theorem pb28:pureB IP 28=true:=rfl
@[simp] theorem pu29:theCalls IP G lo 29 l H=given H ((snaps H l).bind (pureR IP G 29)):=calls_pureR ip29 rfl
@[simp] theorem pb29:pureB IP 29=true:=rfl
@[simp] theorem pu30:theCalls IP G lo 30 l H=given H ((snaps H l).bind (pureR IP G 30)):=calls_pureR ip30 rfl
@[simp] theorem pb30:pureB IP 30=true:=rfl
@[simp] theorem pu31:theCalls IP G lo 31 l H=given H ((snaps H l).bind (pureR IP G 31)):=calls_pureR ip31 rfl
@[simp] theorem pb31:pureB IP 31=true:=rfl
@[simp] theorem pb32:pureB IP 32=true:=rfl
@[simp] theorem pu33:theCalls IP G lo 33 l H=given H ((snaps H l).bind (pureR IP G 33)):=calls_pureR ip33 rfl
@[simp] theorem pb33:pureB IP 33=true:=rfl
@[simp] theorem pu34:theCalls IP G lo 34 l H=given H ((snaps H l).bind (pureR IP G 34)):=calls_pureR ip34 rfl
@[simp] theorem pb34:pureB IP 34=true:=rfl
@[simp] theorem pu35:theCalls IP G lo 35 l H=given H ((snaps H l).bind (pureR IP G 35)):=calls_pureR ip35 rfl
@[simp] theorem pb35:pureB IP 35=true:=rfl
@[simp] theorem pu36:theCalls IP G lo 36 l H=given H ((snaps H l).bind (pureR IP G 36)):=calls_pureR ip36 rfl
@[simp] theorem pb36:pureB IP 36=true:=rfl
@[simp] theorem pu37:theCalls IP G lo 37 l H=given H ((snaps H l).bind (pureR IP G 37)):=calls_pureR ip37 rfl
@[simp] theorem pb37:pureB IP 37=true:=rfl
@[simp] theorem pu38:theCalls IP G lo 38 l H=given H ((snaps H l).bind (pureR IP G 38)):=calls_pureR ip38 rfl
@[simp] theorem pb38:pureB IP 38=true:=rfl
@[simp] theorem pu39:theCalls IP G lo 39 l H=given H ((snaps H l).bind (pureR IP G 39)):=calls_pureR ip39 rfl
@[simp] theorem pb39:pureB IP 39=true:=rfl
@[simp] theorem pu40:theCalls IP G lo 40 l H=given H ((snaps H l).bind (pureR IP G 40)):=calls_pureR ip40 rfl
@[simp] theorem pb40:pureB IP 40=true:=rfl
@[simp] theorem pu41:theCalls IP G lo 41 l H=given H ((snaps H l).bind (pureR IP G 41)):=calls_pureR ip41 rfl
@[simp] theorem pb41:pureB IP 41=true:=rfl
@[simp] theorem pu42:theCalls IP G lo 42 l H=given H ((snaps H l).bind (pureR IP G 42)):=calls_pureR ip42 rfl
@[simp] theorem pb42:pureB IP 42=true:=rfl
@[simp] theorem pu44:theCalls IP G lo 44 l H=given H ((snaps H l).bind (pureR IP G 44)):=calls_pureR ip44 rfl
@[simp] theorem pb44:pureB IP 44=true:=rfl
@[simp] theorem pu45:theCalls IP G lo 45 l H=given H ((snaps H l).bind (pureR IP G 45)):=calls_pureR ip45 rfl
@[simp] theorem pb45:pureB IP 45=true:=rfl
@[simp] theorem pu47:theCalls IP G lo 47 [x] H=cloneV H 7 96 x:=calls_clone ip47 rfl rfl
@[simp] theorem pb47:pureB IP 47=true:=rfl
@[simp] theorem pu51:theCalls IP G lo 51 l H=given H ((snaps H l).bind (pureR IP G 51)):=calls_pureR ip51 rfl
@[simp] theorem pb51:pureB IP 51=true:=rfl
@[simp] theorem pu52:theCalls IP G lo 52 l H=given H ((snaps H l).bind (pureR IP G 52)):=calls_pureR ip52 rfl
@[simp] theorem pb52:pureB IP 52=true:=rfl
@[simp] theorem pu53:theCalls IP G lo 53 l H=given H ((snaps H l).bind (pureR IP G 53)):=calls_pureR ip53 rfl
@[simp] theorem pb53:pureB IP 53=true:=rfl
@[simp] theorem pu54:theCalls IP G lo 54 l H=given H ((snaps H l).bind (pureR IP G 54)):=calls_pureR ip54 rfl
@[simp] theorem pb54:pureB IP 54=true:=rfl
@[simp] theorem pu55:theCalls IP G lo 55 l H=given H ((snaps H l).bind (pureR IP G 55)):=calls_pureR ip55 rfl
@[simp] theorem pb55:pureB IP 55=true:=rfl
@[simp] theorem pu56:theCalls IP G lo 56 l H=given H ((snaps H l).bind (pureR IP G 56)):=calls_pureR ip56 rfl
@[simp] theorem pb56:pureB IP 56=true:=rfl
@[simp] theorem pu57:theCalls IP G lo 57 l H=given H ((snaps H l).bind (pureR IP G 57)):=calls_pureR ip57 rfl
@[simp] theorem pb57:pureB IP 57=true:=rfl
@[simp] theorem pu58:theCalls IP G lo 58 l H=given H ((snaps H l).bind (pureR IP G 58)):=calls_pureR ip58 rfl
@[simp] theorem pb58:pureB IP 58=true:=rfl
@[simp] theorem pu59:theCalls IP G lo 59 l H=given H ((snaps H l).bind (pureR IP G 59)):=calls_pureR ip59 rfl
@[simp] theorem pb59:pureB IP 59=true:=rfl
@[simp] theorem pu60:theCalls IP G lo 60 l H=given H ((snaps H l).bind (pureR IP G 60)):=calls_pureR ip60 rfl
@[simp] theorem pb60:pureB IP 60=true:=rfl
@[simp] theorem pu61:theCalls IP G lo 61 l H=given H ((snaps H l).bind (pureR IP G 61)):=calls_pureR ip61 rfl
@[simp] theorem pb61:pureB IP 61=true:=rfl
@[simp] theorem pu62:theCalls IP G lo 62 l H=given H ((snaps H l).bind (pureR IP G 62)):=calls_pureR ip62 rfl
@[simp] theorem pb62:pureB IP 62=true:=rfl
@[simp] theorem pu63:theCalls IP G lo 63 l H=given H ((snaps H l).bind (pureR IP G 63)):=calls_pureR ip63 rfl
@[simp] theorem pb63:pureB IP 63=true:=rfl
@[simp] theorem pu64:theCalls IP G lo 64 l H=given H ((snaps H l).bind (pureR IP G 64)):=calls_pureR ip64 rfl
@[simp] theorem pb64:pureB IP 64=true:=rfl
@[simp] theorem pu65:theCalls IP G lo 65 l H=given H ((snaps H l).bind (pureR IP G 65)):=calls_pureR ip65 rfl
@[simp] theorem pb65:pureB IP 65=true:=rfl
@[simp] theorem pu66:theCalls IP G lo 66 l H=given H ((snaps H l).bind (pureR IP G 66)):=calls_pureR ip66 rfl
@[simp] theorem pb66:pureB IP 66=true:=rfl
@[simp] theorem pu67:theCalls IP G lo 67 l H=given H ((snaps H l).bind (pureR IP G 67)):=calls_pureR ip67 rfl
@[simp] theorem pb67:pureB IP 67=true:=rfl
@[simp] theorem pu68:theCalls IP G lo 68 l H=given H ((snaps H l).bind (pureR IP G 68)):=calls_pureR ip68 rfl
@[simp] theorem pb68:pureB IP 68=true:=rfl
@[simp] theorem pu69:theCalls IP G lo 69 l H=given H ((snaps H l).bind (pureR IP G 69)):=calls_pureR ip69 rfl
@[simp] theorem pb69:pureB IP 69=true:=rfl
@[simp] theorem pu70:theCalls IP G lo 70 l H=given H ((snaps H l).bind (pureR IP G 70)):=calls_pureR ip70 rfl
@[simp] theorem pb70:pureB IP 70=true:=rfl
@[simp] theorem pu71:theCalls IP G lo 71 l H=given H ((snaps H l).bind (pureR IP G 71)):=calls_pureR ip71 rfl
@[simp] theorem pb71:pureB IP 71=true:=rfl
@[simp] theorem pu72:theCalls IP G lo 72 l H=given H ((snaps H l).bind (pureR IP G 72)):=calls_pureR ip72 rfl
@[simp] theorem pb72:pureB IP 72=true:=rfl
@[simp] theorem pu73:theCalls IP G lo 73 l H=given H ((snaps H l).bind (pureR IP G 73)):=calls_pureR ip73 rfl
@[simp] theorem pb73:pureB IP 73=true:=rfl
@[simp] theorem pu74:theCalls IP G lo 74 l H=given H ((snaps H l).bind (pureR IP G 74)):=calls_pureR ip74 rfl
@[simp] theorem pb74:pureB IP 74=true:=rfl
@[simp] theorem pu75:theCalls IP G lo 75 l H=given H ((snaps H l).bind (pureR IP G 75)):=calls_pureR ip75 rfl
@[simp] theorem pb75:pureB IP 75=true:=rfl
@[simp] theorem pu76:theCalls IP G lo 76 l H=given H ((snaps H l).bind (pureR IP G 76)):=calls_pureR ip76 rfl
@[simp] theorem pb76:pureB IP 76=true:=rfl
@[simp] theorem pu77:theCalls IP G lo 77 l H=given H ((snaps H l).bind (pureR IP G 77)):=calls_pureR ip77 rfl
@[simp] theorem pb77:pureB IP 77=true:=rfl
@[simp] theorem pu78:theCalls IP G lo 78 l H=given H ((snaps H l).bind (pureR IP G 78)):=calls_pureR ip78 rfl
@[simp] theorem pb78:pureB IP 78=true:=rfl
@[simp] theorem pu79:theCalls IP G lo 79 l H=given H ((snaps H l).bind (pureR IP G 79)):=calls_pureR ip79 rfl
@[simp] theorem pb79:pureB IP 79=true:=rfl
@[simp] theorem pu80:theCalls IP G lo 80 l H=given H ((snaps H l).bind (pureR IP G 80)):=calls_pureR ip80 rfl
@[simp] theorem pb80:pureB IP 80=true:=rfl
@[simp] theorem pu81:theCalls IP G lo 81 l H=given H ((snaps H l).bind (pureR IP G 81)):=calls_pureR ip81 rfl
@[simp] theorem pb81:pureB IP 81=true:=rfl
@[simp] theorem pu82:theCalls IP G lo 82 l H=given H ((snaps H l).bind (pureR IP G 82)):=calls_pureR ip82 rfl
@[simp] theorem pb82:pureB IP 82=true:=rfl
@[simp] theorem pu83:theCalls IP G lo 83 l H=given H ((snaps H l).bind (pureR IP G 83)):=calls_pureR ip83 rfl
@[simp] theorem pb83:pureB IP 83=true:=rfl
@[simp] theorem pu84:theCalls IP G lo 84 l H=given H ((snaps H l).bind (pureR IP G 84)):=calls_pureR ip84 rfl
@[simp] theorem pb84:pureB IP 84=true:=rfl
@[simp] theorem pu85:theCalls IP G lo 85 l H=given H ((snaps H l).bind (pureR IP G 85)):=calls_pureR ip85 rfl
@[simp] theorem pb85:pureB IP 85=true:=rfl
@[simp] theorem pu86:theCalls IP G lo 86 l H=given H ((snaps H l).bind (pureR IP G 86)):=calls_pureR ip86 rfl
@[simp] theorem pb86:pureB IP 86=true:=rfl
@[simp] theorem pu87:theCalls IP G lo 87 l H=given H ((snaps H l).bind (pureR IP G 87)):=calls_pureR ip87 rfl
@[simp] theorem pb87:pureB IP 87=true:=rfl
@[simp] theorem pu88:theCalls IP G lo 88 l H=given H ((snaps H l).bind (pureR IP G 88)):=calls_pureR ip88 rfl
@[simp] theorem pb88:pureB IP 88=true:=rfl
@[simp] theorem pu89:theCalls IP G lo 89 l H=given H ((snaps H l).bind (pureR IP G 89)):=calls_pureR ip89 rfl
@[simp] theorem pb89:pureB IP 89=true:=rfl
@[simp] theorem pu90:theCalls IP G lo 90 l H=given H ((snaps H l).bind (pureR IP G 90)):=calls_pureR ip90 rfl
@[simp] theorem pb90:pureB IP 90=true:=rfl
@[simp] theorem pu91:theCalls IP G lo 91 l H=given H ((snaps H l).bind (pureR IP G 91)):=calls_pureR ip91 rfl
@[simp] theorem pb91:pureB IP 91=true:=rfl
@[simp] theorem pu92:theCalls IP G lo 92 l H=given H ((snaps H l).bind (pureR IP G 92)):=calls_pureR ip92 rfl
@[simp] theorem pb92:pureB IP 92=true:=rfl
@[simp] theorem pu93:theCalls IP G lo 93 [x] H=cloneV H 1 16 x:=calls_clone ip93 rfl rfl
@[simp] theorem pb93:pureB IP 93=true:=rfl
@[simp] theorem pu94:theCalls IP G lo 94 [x] H=cloneV H 5 80 x:=calls_clone ip94 rfl rfl
@[simp] theorem pb94:pureB IP 94=true:=rfl
@[simp] theorem pu95:theCalls IP G lo 95 l H=given H ((snaps H l).bind (pureR IP G 95)):=calls_pureR ip95 rfl
@[simp] theorem pb95:pureB IP 95=true:=rfl
@[simp] theorem pu96:theCalls IP G lo 96 l H=given H ((snaps H l).bind (pureR IP G 96)):=calls_pureR ip96 rfl
@[simp] theorem pb96:pureB IP 96=true:=rfl
@[simp] theorem pu97:theCalls IP G lo 97 l H=given H ((snaps H l).bind (pureR IP G 97)):=calls_pureR ip97 rfl
@[simp] theorem pb97:pureB IP 97=true:=rfl
@[simp] theorem pu98:theCalls IP G lo 98 l H=given H ((snaps H l).bind (pureR IP G 98)):=calls_pureR ip98 rfl
@[simp] theorem pb98:pureB IP 98=true:=rfl
@[simp] theorem pu99:theCalls IP G lo 99 l H=given H ((snaps H l).bind (pureR IP G 99)):=calls_pureR ip99 rfl
@[simp] theorem pb99:pureB IP 99=true:=rfl
@[simp] theorem pu102:theCalls IP G lo 102 l H=given H ((snaps H l).bind (pureR IP G 102)):=calls_pureR ip102 rfl
@[simp] theorem pb102:pureB IP 102=true:=rfl
@[simp] theorem pu103:theCalls IP G lo 103 l H=given H ((snaps H l).bind (pureR IP G 103)):=calls_pureR ip103 rfl
@[simp] theorem pb103:pureB IP 103=true:=rfl
@[simp] theorem pu105:theCalls IP G lo 105 l H=given H ((snaps H l).bind (pureR IP G 105)):=calls_pureR ip105 rfl
@[simp] theorem pb105:pureB IP 105=true:=rfl
@[simp] theorem pu108:theCalls IP G lo 108 l H=given H ((snaps H l).bind (pureR IP G 108)):=calls_pureR ip108 rfl
@[simp] theorem pb108:pureB IP 108=true:=rfl
@[simp] theorem pu109:theCalls IP G lo 109 l H=given H ((snaps H l).bind (pureR IP G 109)):=calls_pureR ip109 rfl
@[simp] theorem pb109:pureB IP 109=true:=rfl
@[simp] theorem pu110:theCalls IP G lo 110 l H=given H ((snaps H l).bind (pureR IP G 110)):=calls_pureR ip110 rfl
@[simp] theorem pb110:pureB IP 110=true:=rfl
@[simp] theorem pu111:theCalls IP G lo 111 l H=given H ((snaps H l).bind (pureR IP G 111)):=calls_pureR ip111 rfl
@[simp] theorem pb111:pureB IP 111=true:=rfl
@[simp] theorem pu112:theCalls IP G lo 112 l H=given H ((snaps H l).bind (pureR IP G 112)):=calls_pureR ip112 rfl
@[simp] theorem pb112:pureB IP 112=true:=rfl
@[simp] theorem pu113:theCalls IP G lo 113 l H=given H ((snaps H l).bind (pureR IP G 113)):=calls_pureR ip113 rfl
@[simp] theorem pb113:pureB IP 113=true:=rfl
@[simp] theorem pu114:theCalls IP G lo 114 l H=given H ((snaps H l).bind (pureR IP G 114)):=calls_pureR ip114 rfl
@[simp] theorem pb114:pureB IP 114=true:=rfl
@[simp] theorem pu115:theCalls IP G lo 115 l H=given H ((snaps H l).bind (pureR IP G 115)):=calls_pureR ip115 rfl
@[simp] theorem pb115:pureB IP 115=true:=rfl
@[simp] theorem pu116:theCalls IP G lo 116 l H=given H ((snaps H l).bind (pureR IP G 116)):=calls_pureR ip116 rfl
@[simp] theorem pb116:pureB IP 116=true:=rfl
@[simp] theorem pu117:theCalls IP G lo 117 l H=given H ((snaps H l).bind (pureR IP G 117)):=calls_pureR ip117 rfl
@[simp] theorem pb117:pureB IP 117=true:=rfl
@[simp] theorem pu118:theCalls IP G lo 118 l H=given H ((snaps H l).bind (pureR IP G 118)):=calls_pureR ip118 rfl
@[simp] theorem pb118:pureB IP 118=true:=rfl
@[simp] theorem pu119:theCalls IP G lo 119 l H=given H ((snaps H l).bind (pureR IP G 119)):=calls_pureR ip119 rfl
@[simp] theorem pb119:pureB IP 119=true:=rfl
@[simp] theorem pu120:theCalls IP G lo 120 l H=given H ((snaps H l).bind (pureR IP G 120)):=calls_pureR ip120 rfl
@[simp] theorem pb120:pureB IP 120=true:=rfl
@[simp] theorem pu121:theCalls IP G lo 121 l H=given H ((snaps H l).bind (pureR IP G 121)):=calls_pureR ip121 rfl
@[simp] theorem pb121:pureB IP 121=true:=rfl
@[simp] theorem pu122:theCalls IP G lo 122 l H=given H ((snaps H l).bind (pureR IP G 122)):=calls_pureR ip122 rfl
@[simp] theorem pb122:pureB IP 122=true:=rfl
@[simp] theorem pu123:theCalls IP G lo 123 l H=given H ((snaps H l).bind (pureR IP G 123)):=calls_pureR ip123 rfl
@[simp] theorem pb123:pureB IP 123=true:=rfl
@[simp] theorem pu127:theCalls IP G lo 127 l H=given H ((snaps H l).bind (pureR IP G 127)):=calls_pureR ip127 rfl
@[simp] theorem pb127:pureB IP 127=true:=rfl
@[simp] theorem pu128:theCalls IP G lo 128 l H=given H ((snaps H l).bind (pureR IP G 128)):=calls_pureR ip128 rfl
@[simp] theorem pb128:pureB IP 128=true:=rfl
@[simp] theorem pu129:theCalls IP G lo 129 l H=given H ((snaps H l).bind (pureR IP G 129)):=calls_pureR ip129 rfl
@[simp] theorem pb129:pureB IP 129=true:=rfl
@[simp] theorem pu130:theCalls IP G lo 130 l H=given H ((snaps H l).bind (pureR IP G 130)):=calls_pureR ip130 rfl
@[simp] theorem pb130:pureB IP 130=true:=rfl
@[simp] theorem pu131:theCalls IP G lo 131 l H=given H ((snaps H l).bind (pureR IP G 131)):=calls_pureR ip131 rfl
@[simp] theorem pb131:pureB IP 131=true:=rfl
@[simp] theorem pu132:theCalls IP G lo 132 l H=given H ((snaps H l).bind (pureR IP G 132)):=calls_pureR ip132 rfl
@[simp] theorem pb132:pureB IP 132=true:=rfl
@[simp] theorem pu135:theCalls IP G lo 135 [x] H=cloneV H 2 16 x:=calls_clone ip135 rfl rfl
@[simp] theorem pb135:pureB IP 135=true:=rfl
@[simp] theorem pu137:theCalls IP G lo 137 l H=given H ((snaps H l).bind (pureR IP G 137)):=calls_pureR ip137 rfl
@[simp] theorem pb137:pureB IP 137=true:=rfl
@[simp] theorem pu138:theCalls IP G lo 138 l H=given H ((snaps H l).bind (pureR IP G 138)):=calls_pureR ip138 rfl
@[simp] theorem pb138:pureB IP 138=true:=rfl
@[simp] theorem pu139:theCalls IP G lo 139 l H=given H ((snaps H l).bind (pureR IP G 139)):=calls_pureR ip139 rfl
@[simp] theorem pb139:pureB IP 139=true:=rfl
@[simp] theorem pu140:theCalls IP G lo 140 l H=given H ((snaps H l).bind (pureR IP G 140)):=calls_pureR ip140 rfl
@[simp] theorem pb140:pureB IP 140=true:=rfl
@[simp] theorem pu141:theCalls IP G lo 141 l H=given H ((snaps H l).bind (pureR IP G 141)):=calls_pureR ip141 rfl
@[simp] theorem pb141:pureB IP 141=true:=rfl
@[simp] theorem pu142:theCalls IP G lo 142 l H=given H ((snaps H l).bind (pureR IP G 142)):=calls_pureR ip142 rfl
@[simp] theorem pb142:pureB IP 142=true:=rfl
@[simp] theorem pu143:theCalls IP G lo 143 l H=given H ((snaps H l).bind (pureR IP G 143)):=calls_pureR ip143 rfl
@[simp] theorem pb143:pureB IP 143=true:=rfl
@[simp] theorem pb144:pureB IP 144=true:=rfl
@[simp] theorem pu145:theCalls IP G lo 145 l H=given H ((snaps H l).bind (pureR IP G 145)):=calls_pureR ip145 rfl
@[simp] theorem pb145:pureB IP 145=true:=rfl
@[simp] theorem pu146:theCalls IP G lo 146 l H=given H ((snaps H l).bind (pureR IP G 146)):=calls_pureR ip146 rfl
@[simp] theorem pb146:pureB IP 146=true:=rfl
@[simp] theorem pu148:theCalls IP G lo 148 l H=given H ((snaps H l).bind (pureR IP G 148)):=calls_pureR ip148 rfl
@[simp] theorem pb148:pureB IP 148=true:=rfl
@[simp] theorem pu149:theCalls IP G lo 149 l H=given H ((snaps H l).bind (pureR IP G 149)):=calls_pureR ip149 rfl
@[simp] theorem pb149:pureB IP 149=true:=rfl
@[simp] theorem pu150:theCalls IP G lo 150 l H=given H ((snaps H l).bind (pureR IP G 150)):=calls_pureR ip150 rfl
@[simp] theorem pb150:pureB IP 150=true:=rfl
@[simp] theorem pu151:theCalls IP G lo 151 l H=given H ((snaps H l).bind (pureR IP G 151)):=calls_pureR ip151 rfl
@[simp] theorem pb151:pureB IP 151=true:=rfl
@[simp] theorem pu152:theCalls IP G lo 152 l H=given H ((snaps H l).bind (pureR IP G 152)):=calls_pureR ip152 rfl
@[simp] theorem pb152:pureB IP 152=true:=rfl
@[simp] theorem pu153:theCalls IP G lo 153 l H=given H ((snaps H l).bind (pureR IP G 153)):=calls_pureR ip153 rfl
@[simp] theorem pb153:pureB IP 153=true:=rfl
@[simp] theorem pu154:theCalls IP G lo 154 l H=given H ((snaps H l).bind (pureR IP G 154)):=calls_pureR ip154 rfl
@[simp] theorem pb154:pureB IP 154=true:=rfl
@[simp] theorem pu155:theCalls IP G lo 155 l H=given H ((snaps H l).bind (pureR IP G 155)):=calls_pureR ip155 rfl
@[simp] theorem pb155:pureB IP 155=true:=rfl
@[simp] theorem pu156:theCalls IP G lo 156 l H=given H ((snaps H l).bind (pureR IP G 156)):=calls_pureR ip156 rfl
@[simp] theorem pb156:pureB IP 156=true:=rfl
@[simp] theorem pu157:theCalls IP G lo 157 l H=given H ((snaps H l).bind (pureR IP G 157)):=calls_pureR ip157 rfl
@[simp] theorem pb157:pureB IP 157=true:=rfl
@[simp] theorem pu158:theCalls IP G lo 158 l H=given H ((snaps H l).bind (pureR IP G 158)):=calls_pureR ip158 rfl
@[simp] theorem pb158:pureB IP 158=true:=rfl
@[simp] theorem pu159:theCalls IP G lo 159 l H=given H ((snaps H l).bind (pureR IP G 159)):=calls_pureR ip159 rfl
@[simp] theorem pb159:pureB IP 159=true:=rfl
@[simp] theorem pu160:theCalls IP G lo 160 l H=given H ((snaps H l).bind (pureR IP G 160)):=calls_pureR ip160 rfl
@[simp] theorem pb160:pureB IP 160=true:=rfl
@[simp] theorem pu161:theCalls IP G lo 161 l H=given H ((snaps H l).bind (pureR IP G 161)):=calls_pureR ip161 rfl
@[simp] theorem pb161:pureB IP 161=true:=rfl
@[simp] theorem pu162:theCalls IP G lo 162 l H=given H ((snaps H l).bind (pureR IP G 162)):=calls_pureR ip162 rfl
@[simp] theorem pb162:pureB IP 162=true:=rfl
@[simp] theorem pu163:theCalls IP G lo 163 l H=given H ((snaps H l).bind (pureR IP G 163)):=calls_pureR ip163 rfl
@[simp] theorem pb163:pureB IP 163=true:=rfl
@[simp] theorem pu164:theCalls IP G lo 164 l H=given H ((snaps H l).bind (pureR IP G 164)):=calls_pureR ip164 rfl
@[simp] theorem pb164:pureB IP 164=true:=rfl
@[simp] theorem pu165:theCalls IP G lo 165 l H=given H ((snaps H l).bind (pureR IP G 165)):=calls_pureR ip165 rfl
@[simp] theorem pb165:pureB IP 165=true:=rfl
@[simp] theorem pu166:theCalls IP G lo 166 l H=given H ((snaps H l).bind (pureR IP G 166)):=calls_pureR ip166 rfl
@[simp] theorem pb166:pureB IP 166=true:=rfl
@[simp] theorem pu167:theCalls IP G lo 167 l H=given H ((snaps H l).bind (pureR IP G 167)):=calls_pureR ip167 rfl
@[simp] theorem pb167:pureB IP 167=true:=rfl
@[simp] theorem pu168:theCalls IP G lo 168 l H=given H ((snaps H l).bind (pureR IP G 168)):=calls_pureR ip168 rfl
@[simp] theorem pb168:pureB IP 168=true:=rfl
@[simp] theorem pu169:theCalls IP G lo 169 l H=given H ((snaps H l).bind (pureR IP G 169)):=calls_pureR ip169 rfl
@[simp] theorem pb169:pureB IP 169=true:=rfl
@[simp] theorem pu170:theCalls IP G lo 170 l H=given H ((snaps H l).bind (pureR IP G 170)):=calls_pureR ip170 rfl
@[simp] theorem pb170:pureB IP 170=true:=rfl
@[simp] theorem pu171:theCalls IP G lo 171 l H=given H ((snaps H l).bind (pureR IP G 171)):=calls_pureR ip171 rfl
@[simp] theorem pb171:pureB IP 171=true:=rfl
@[simp] theorem pu172:theCalls IP G lo 172 l H=given H ((snaps H l).bind (pureR IP G 172)):=calls_pureR ip172 rfl
@[simp] theorem pb172:pureB IP 172=true:=rfl
@[simp] theorem pu173:theCalls IP G lo 173 l H=given H ((snaps H l).bind (pureR IP G 173)):=calls_pureR ip173 rfl
@[simp] theorem pb173:pureB IP 173=true:=rfl
@[simp] theorem pu175:theCalls IP G lo 175 l H=given H ((snaps H l).bind (pureR IP G 175)):=calls_pureR ip175 rfl
@[simp] theorem pb175:pureB IP 175=true:=rfl
@[simp] theorem pu176:theCalls IP G lo 176 l H=given H ((snaps H l).bind (pureR IP G 176)):=calls_pureR ip176 rfl
@[simp] theorem pb176:pureB IP 176=true:=rfl
@[simp] theorem pu177:theCalls IP G lo 177 l H=given H (idxB l):=calls_ext ip177 rfl rfl
@[simp] theorem pb177:pureB IP 177=true:=rfl
@[simp] theorem pu178:theCalls IP G lo 178 l H=given H ((snaps H l).bind (pureR IP G 178)):=calls_pureR ip178 rfl
@[simp] theorem pb178:pureB IP 178=true:=rfl
end
end Go.Proofs.YtbfajkcmehaliaaGreatDoor

